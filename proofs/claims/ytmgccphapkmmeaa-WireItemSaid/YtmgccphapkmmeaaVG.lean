/- A symbolic executor for loaded Go code: rows and the cells that they are made of. -/
import Derived.Test.YtmgccphapkmmeaaVF
namespace Go.Proofs.Ytmgccphapkmmeaa
open Go.RowKit

/-- A cell that is told so is told by what it stands for: a row's tag is that one, or any. -/
def tagLe (t : Tag) : SV → Prop
  | .row t' _ => t = .any ∨ t' = t
  | _ => True
theorem RowDen.flat {w : World} {F : Nat → Prop} {r : Rw} {v : Value} (h : RowDen w F r v) (hf : r.flat = true) : RowD sc w F r v := by
  obtain ⟨h0, A, c, hv, hn, h⟩ := h
  refine ⟨h0, A, c, hv, hn, fun hp => ?_⟩
  obtain ⟨ad, hA, hs, hF, hc⟩ := h hp
  refine ⟨ad, hA, hs, hF, fun i j x hi hx => ?_⟩
  obtain ⟨u, hu, hd⟩ := hc i j x hi hx
  refine ⟨u, hu, ?_⟩
  have : ∀ x ∈ r.cell .any i, ∀ t r, x ≠ .row t r := by
    cases r <;> first
      | (simp [Rw.flat] at hf; done)
      | simp [Rw.cell, GItem.cells, GPeer.cells, GTold.cells, GCut.cells]
  have hne := this x (List.mem_of_getElem? hx)
  cases x with
  | row t r => exact absurd rfl (hne t r)
  | _ => exact hd
theorem RowD.up {w : World} {F : Nat → Prop} {r : Rw} {v : Value} (h : RowD sc w F r v) : RowDen w F r v :=
  h.mono (fun g hg _ => ⟨rfl, hg⟩) fun x u hx => by cases x <;> first | exact hx | exact hx.elim
theorem empty_row {w : World} {F : Nat → Prop} {r : Rw} (h : r.len = 0) (cd : SV → Value → Prop) : RowD cd w F r (.slice none 0 0) :=
  ⟨by rw [h]; omega, none, 0, by rw [h], by omega, fun hp => by omega⟩
theorem Fit.cd {E : Env} {R : List (Nat × Ent)} {w : World} {y x : SV} {u : Value} {t : Tag} (h : Fit y x) (hy : vd1 E R w y u) (ht : tagLe t y) : cd1 w (E.F t) x u := by
  cases y <;> cases x <;> first
    | exact h.elim
    | (obtain ⟨rfl, rfl⟩ := h; exact hy)
    | (obtain rfl : _ = _ := h; exact hy)
    | skip
  · -- a row
    rename_i t1 r1 t2 r2
    obtain ⟨rfl, hf⟩ := h
    have hy' : RowDen w (E.F t1) r1 u := hy
    have : RowDen w (E.F t) r1 u := by
      rcases ht with rfl | rfl
      · exact hy'.any
      · exact hy'
    exact this.flat hf
  · rename_i r1 t2 r2
    obtain ⟨rfl, _⟩ := h
    obtain ⟨rfl, h0⟩ := hy
    exact empty_row h0 _
theorem Fit.retag {y x x' : SV} (h : Fit y x) (hx : ∀ (w : World) (F : Nat → Prop) (u : Value), cd1 w F x u ↔ cd1 w F x' u) : True := trivial
theorem asBool_fit {x : SV} {b : Bool} (h : x.asBool = some b) : Fit x (.bool b) := by cases x <;> simp [SV.asBool] at h <;> exact h
theorem asInts_fit {x : SV} {l : List Int} {t : Tag} (h : x.asInts = some l) : Fit x (.row t (.ints l)) := by
  unfold SV.asInts at h
  split at h <;> simp at h <;> subst h <;> exact ⟨rfl, rfl⟩
theorem asPeers_fit {x : SV} {l : List GPeer} {t : Tag} (h : x.asPeers = some l) : Fit x (.row t (.peers l)) := by
  unfold SV.asPeers at h
  split at h <;> simp at h <;> subst h <;> exact ⟨rfl, rfl⟩
theorem asItems_fit {x : SV} {l : List GItem} {t : Tag} (h : x.asItems = some l) : Fit x (.row t (.items l)) := by
  unfold SV.asItems at h
  split at h <;> simp at h <;> subst h <;> exact ⟨rfl, rfl⟩
theorem asTolds_fit {x : SV} {l : List GTold} {t : Tag} (h : x.asTolds = some l) : Fit x (.row t (.tolds l)) := by
  unfold SV.asTolds at h
  split at h <;> simp at h <;> subst h <;> exact ⟨rfl, rfl⟩
theorem decInt_fit {c : List SV} {e : Int} (h : decInt c = some e) : FitL c [.int .i64 e] := by
  unfold decInt at h
  split at h
  · simp at h; subst h; exact .cons ⟨rfl, rfl⟩ .nil
  · simp at h
theorem decByte_fit {c : List SV} {e : Int} (h : decByte c = some e) : FitL c [.int .u8 e] := by
  unfold decByte at h
  split at h
  · simp at h; subst h; exact .cons ⟨rfl, rfl⟩ .nil
  · simp at h
theorem decStr_fit {c : List SV} {e : ByteArray} (h : decStr c = some e) : FitL c [.str e] := by
  unfold decStr at h
  split at h
  · simp at h; subst h; exact .cons rfl .nil
  · simp at h
theorem decItem_fit {c : List SV} {e : GItem} (h : decItem c = some e) : FitL c e.cells := by
  unfold decItem at h
  split at h
  · split at h
    · rename_i g hg
      simp at h; subst h
      exact .cons ⟨rfl, rfl⟩ (.cons ⟨rfl, rfl⟩ (.cons ⟨rfl, rfl⟩ (.cons ⟨rfl, rfl⟩ (.cons (asBool_fit hg) .nil))))
    · simp at h
  · simp at h
theorem decPeer_fit {c : List SV} {e : GPeer} (h : decPeer c = some e) : FitL c e.cells := by
  unfold decPeer at h
  split at h
  · simp at h; subst h
    exact .cons ⟨rfl, rfl⟩ (.cons ⟨rfl, rfl⟩ .nil)
  · simp at h
theorem decTold_fit {c : List SV} {e : GTold} (h : decTold c = some e) : FitL c e.cells := by
  unfold decTold at h
  split at h
  · split at h
    · rename_i g hg
      simp at h; subst h
      exact .cons ⟨rfl, rfl⟩ (.cons (asBool_fit hg) (.cons ⟨rfl, rfl⟩ .nil))
    · simp at h
  · simp at h
theorem decCut_fit {c : List SV} {e : GCut} (h : decCut c = some e) : FitL c e.cells := by
  unfold decCut at h
  split at h
  · simp at h; subst h
    exact .cons ⟨rfl, rfl⟩ (.cons ⟨rfl, rfl⟩ .nil)
  · simp at h
theorem decMsg_fit {c : List SV} {e : GMsg} (h : decMsg c = some e) (t : Tag) : FitL c (e.cells t) := by
  unfold decMsg at h
  split at h
  · split at h
    · rename_i h1 h2 h3
      simp at h; subst h
      exact .cons ⟨rfl, rfl⟩ (.cons ⟨rfl, rfl⟩ (.cons ⟨rfl, rfl⟩ (.cons (asInts_fit h1) (.cons ⟨rfl, rfl⟩ (.cons ⟨rfl, rfl⟩ (.cons ⟨rfl, rfl⟩ (.cons ⟨rfl, rfl⟩ (.cons ⟨rfl, rfl⟩ (.cons (asBool_fit h2) (.cons (asBool_fit h3) .nil))))))))))
    · simp at h
  · simp at h
theorem decNode_fit {c : List SV} {e : GNode} (h : decNode c = some e) (t : Tag) : FitL c (e.cells t) := by
  unfold decNode at h
  split at h
  · split at h
    · rename_i h1 h2 h3 h4 h5
      simp at h; subst h
      exact .cons (asBool_fit h1) (.cons ⟨rfl, rfl⟩ (.cons (asPeers_fit h2) (.cons (asInts_fit h3) (.cons (asItems_fit h4) (.cons (asTolds_fit h5) .nil)))))
    · simp at h
  · simp at h
theorem decAct_fit {c : List SV} {e : GAct} (h : decAct c = some e) (t : Tag) : FitL c (e.cells t) := by
  unfold decAct at h
  split at h
  · split at h
    · rename_i h1
      simp at h; subst h
      exact .cons ⟨rfl, rfl⟩ (.cons ⟨rfl, rfl⟩ (.cons ⟨rfl, rfl⟩ (.cons ⟨rfl, rfl⟩ (.cons (asInts_fit h1) (.cons ⟨rfl, rfl⟩ (.cons ⟨rfl, rfl⟩ .nil))))))
    · simp at h
  · simp at h
theorem decAll_get {α : Type} {dec : List SV → Option α} : ∀ {es : List (List SV)} {xs : List α}, decAll dec es = some xs → xs.length = es.length ∧ ∀ (i : Nat) c, es[i]? = some c → ∃ x, xs[i]? = some x ∧ dec c = some x
  | [], xs, h => by simp [decAll] at h; subst h; exact ⟨rfl, fun i c hc => by simp at hc⟩
  | c :: es, xs, h => by
    simp only [decAll] at h
    split at h
    · rename_i x xs' hx hxs
      simp at h
      subst h
      obtain ⟨h1, h2⟩ := decAll_get hxs
      refine ⟨by simp [h1], fun i d hd => ?_⟩
      cases i with
      | zero => simp at hd; subst hd; exact ⟨x, by simp, hx⟩
      | succ i => simpa using h2 i d (by simpa using hd)
    · simp at h
/-- What is known of a row that cells were read back as. -/
theorem mkRow_fit {k : Nat} {es : List (List SV)} {r : Rw} (h : mkRow k es = some r) : r.kd = k ∧ r.len = es.length ∧ ∀ (i : Nat) c, es[i]? = some c → FitL c (r.cell .any i) := by
  unfold mkRow at h
  split at h <;> first
    | (simp at h; done)
    | skip
  all_goals
    obtain ⟨xs, hxs, rfl⟩ := Option.map_eq_some_iff.1 h
    obtain ⟨h1, h2⟩ := decAll_get hxs
    refine ⟨rfl, h1, fun i c hc => ?_⟩
    obtain ⟨x, hx, hd⟩ := h2 i c hc
    simp only [Rw.cell, List.getD_eq_getElem?_getD, hx, Option.getD_some]
    first
      | exact decInt_fit hd
      | exact decByte_fit hd
      | exact decStr_fit hd
      | exact decPeer_fit hd
      | exact decItem_fit hd
      | exact decTold_fit hd
      | exact decCut_fit hd
      | exact decMsg_fit hd _
      | exact decNode_fit hd _
      | exact decAct_fit hd _
theorem setE_fit {r r' : Rw} {i : Nat} {c : List SV} (h : r.setE i c = some r') (hi : i < r.len) : r'.kd = r.kd ∧ r'.len = r.len ∧ FitL c (r'.cell .any i) ∧ ∀ i', i' ≠ i → r'.cell .any i' = r.cell .any i' := by
  cases r <;> simp only [Rw.setE] at h <;> obtain ⟨x, hd, rfl⟩ := Option.map_eq_some_iff.1 h <;> simp only [Rw.len] at hi <;>
    refine ⟨rfl, by simp [Rw.len], ?_, fun i' hne => by simp [Rw.cell, List.getD_eq_getElem?_getD, List.getElem?_set_ne (Ne.symm hne)]⟩ <;>
    simp only [Rw.cell, List.getD_eq_getElem?_getD, List.getElem?_set_self hi, Option.getD_some] <;>
    first
      | exact decInt_fit hd
      | exact decByte_fit hd
      | exact decStr_fit hd
      | exact decPeer_fit hd
      | exact decItem_fit hd
      | exact decTold_fit hd
      | exact decCut_fit hd
      | exact decMsg_fit hd _
      | exact decNode_fit hd _
      | exact decAct_fit hd _
theorem app_cell {r1 r2 r : Rw} (h : r1.app r2 = some r) : r.kd = r1.kd ∧ r.kd = r2.kd ∧ r.len = r1.len + r2.len ∧ (∀ t i, i < r1.len → r.cell t i = r1.cell t i) ∧ ∀ t i, r.cell t (r1.len + i) = r2.cell t i := by
  cases r1 <;> cases r2 <;> simp only [Rw.app] at h <;> first
    | (simp at h; done)
    | skip
  all_goals
    injection h with h
    subst h
    refine ⟨rfl, rfl, by simp [Rw.len], fun t i hi => ?_, fun t i => ?_⟩
    · simp only [Rw.len] at hi
      simp [Rw.cell, List.getD_eq_getElem?_getD, List.getElem?_append_left hi]
    · simp [Rw.cell, Rw.len, List.getD_eq_getElem?_getD, List.getElem?_append_right]
theorem sub_cell (l h : Nat) (r : Rw) (hl : l ≤ h) (hh : h ≤ r.len) : (r.sub l h).kd = r.kd ∧ (r.sub l h).len = h - l ∧ ∀ t i, i < h - l → (r.sub l h).cell t i = r.cell t (l + i) := by
  cases r <;> simp only [Rw.len] at hh <;> refine ⟨rfl, by simp [Rw.sub, Rw.len]; omega, fun t i hi => ?_⟩ <;>
    simp only [Rw.sub, Rw.cell, List.getD_eq_getElem?_getD, List.getElem?_drop, List.getElem?_take, if_pos (show l + i < h by omega)]
theorem zeros_cell (k n : Nat) (hk : k < 10) : (Rw.zeros k n).kd = k ∧ (Rw.zeros k n).len = n := by
  match k, hk with
  | 0, _ | 1, _ | 2, _ | 3, _ | 4, _ | 5, _ | 6, _ | 7, _ | 8, _ | 9, _ => exact ⟨rfl, by simp [Rw.zeros, Rw.len]⟩
end Go.Proofs.Ytmgccphapkmmeaa
