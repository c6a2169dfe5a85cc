/- A part of the proof of a law: VR, VT, VUa, VU, VO, VV, VW, XA, XB1, XB, XC, VWb, VX, VY, VZ, VTy, VCx. -/
import Derived.Test.YtjjpakdlkjaigaaGreatMB0
import Derived.Laws.IdiomStrings
import Derived.Deep.LoopGhost
import Derived.Orders
import Derived.Laws.Sem
import Derived.KernelRfl
set_option linter.all false
set_option linter.unusedVariables false
set_option linter.unusedSimpArgs false
set_option linter.unusedSectionVars false
/- A symbolic executor for loaded Go code: calls by contract. -/
namespace Go.Proofs.YtjjpakdlkjaigaaGreat
open Go.RowKit
def E0 : Env := { base := 0, M := 0, bs := fun _ => 0, hs := fun _ => undef, ow := fun _ => False }
def Out.good (r : Out) (p : SV → List Rw → Prop) : Prop := match r with
 | .ok v rows => p v rows
 | .ob q v rows => q → p v rows
 | .bad => True
def resRows : List Rw → Nat → List (Nat × Ent)
 | [], _ => []
 | r :: l, n => (n, .own r) :: resRows l (n + 1)
structure Res (τ : Tys) (B : Nat) (w : World) (v : SV) (rows : List Rw) (z : Value) : Prop where
 ex : ∃ E : Env, E.base = B ∧ E.M = B ∧ (∀ g, E.ow g → B ≤ g ∧ g < w.heap.size) ∧ (∀ i r, rows[i]? = some r → OwnD τ E w i r.len r) ∧
  (∀ i j ri rj g, rows[i]? = some ri → rows[j]? = some rj → i ≠ j → (E.hs i).ownBlock = some g → (E.hs j).ownBlock ≠ some g) ∧ vd3 E (resRows rows 0) w v z
def Valid (P : Program) (τ : Tys) (f : FuncId) (C : Spec) : Prop := ∀ (args : List SV) (vals : List Value) (w : World), L0 (vd3 E0 [] w) args vals →
 (C args).good fun v rows => Calls P f vals.toArray w fun e w' => ∃ z, e = .returned z ∧ Below w.heap.size w w' ∧ Res τ w.heap.size w' v rows z
def Enters (P : Program) (f : FuncId) : Prop := ∀ args w, (callFunc f args).run P w = .ok (.enter f args) w
def TrOk (P : Program) (τ : Tys) (f : FuncId) (T : CallT) : Prop :=
 ∀ (w0 : World) (E : Env) (s : St) (aS : List (Array Value)) (w : World) (args : List SV) (vals : List Value) (K : SV → St → Prop), Den τ w0 E s aS w → L0 (vd3 E s.rows w) args vals → T args s K →
  Calls P f vals.toArray w fun e w' => ∃ z v s' E', e = .returned z ∧ K v s' ∧ Den τ w0 E' s' aS w' ∧ E'.base = E.base ∧ E.M ≤ E'.M ∧ vd3 E' s'.rows w' v z
structure CtxOk (P : Program) (τ : Tys) (C : Ctx) : Prop where
 enters : ∀ f sp, C.spec f = some sp → Enters P f
 valid : ∀ f sp, C.spec f = some sp → Valid P τ f sp
 trEnters : ∀ f T, C.tr f = some T → Enters P f
 trOk : ∀ f T, C.tr f = some T → TrOk P τ f T
section
variable {P : Program} {τ : Tys} {w0 : World} {E : Env} {aS : List (Array Value)} {a : Act} {w : World}
variable {s : St} {bs : List (Array Value)} {o : Oper}
variable {fr : List (Nat × SV)} {stk : List (List (Nat × SV))} {bx : List (Nat × (TypeId × List SV))} {rw' : List (Nat × Ent)} {dep : Nat}
theorem E0_F {w : World} (t : Tag) (h : t = .any) (g : Nat) : E0.F w t g := by subst h; exact ⟨fun h => h, trivial⟩
theorem row0 {F : Nat → Prop} {r : Rw} {u : Value} (h : RowDen w F r u) : RowDen w (E0.F w .any) r u := h.mono fun g _ _ => ⟨rfl, E0_F _ rfl g⟩
theorem plain_vd (hd : Den τ w0 E s bs w) {x : SV} {u : Value} (h : vd3 E s.rows w x u) : vd0 E0 [] w (res1 s.rows x).plain u := by
 cases x with
 | own k =>
   simp only [res1]
   split
   · rename_i e hk
     have := own_read hd hk h
     exact row0 this
   · trivial
 | row t r => exact row0 h
 | nilS r =>
   obtain ⟨rfl, h0⟩ := h
   exact empty_row h0 _
 | int k n => exact h
 | bool b => exact h
 | lit b => exact h
 | str s => exact h
 | _ => trivial
theorem plainL_vd (hd : Den τ w0 E s bs w) {cs : List SV} {us : List Value} (h : L0 (vd1 E s.rows w) cs us) : L0 (vd0 E0 [] w) (plainL s.rows cs) us := by
 induction cs generalizing us with
 | nil => obtain rfl := h.inv_nil; exact L0.nil
 | cons x cs ih =>
   obtain ⟨u, us', rfl, h1, h2⟩ := h.inv_cons
   exact .cons (plain_vd hd (vd_of_vd1 h1)) (ih h2)
theorem plain_cd {R : List (Nat × Ent)} {x : SV} {u : Value} (h : vd0 E0 [] w (res1 R x).plain u) (hj : (res1 R x).plain ≠ .junk) : cd2 w (E0.F w .any) (res1 R x).plain u := by
 cases hx : res1 R x <;> rw [hx] at h hj <;> first
  | exact h
  | exact absurd rfl hj
theorem noJunk_mem {l : List SV} (h : noJunk l = true) {x : SV} (hx : x ∈ l) : x ≠ .junk := by
 induction l with
 | nil => simp at hx
 | cons y l ih =>
   rcases List.mem_cons.1 hx with rfl | hx
   · rintro rfl; simp [noJunk] at h
   · have : noJunk l = true := by cases y <;> first | exact h | (simp [noJunk] at h; done)
     exact ih this hx
theorem plainL_get {R : List (Nat × Ent)} : ∀ (cs : List SV) (j : Nat) (x : SV), (plainL R cs)[j]? = some x → ∃ y, cs[j]? = some y ∧ x = (res1 R y).plain
 | [], j, x, h => by simp [plainL] at h
 | c :: cs, 0, x, h => by simp [plainL] at h; exact ⟨c, by simp, h.symm⟩
 | c :: cs, j + 1, x, h => by
   simp only [plainL, List.getElem?_cons_succ] at h
   simpa using plainL_get cs j x h
theorem ptOf_vd {cs : List SV} {ad : Addr} (hs : ad.spot = none) (hlt : ad.block < w.heap.size) (hc : ∀ (j : Nat) x, cs[j]? = some x → x ≠ .junk → ∃ u, w.cell? (ad.add j) = some u ∧ cd2 w (E0.F w .any) x u) : vd0 E0 [] w (ptOf cs) (.pointer (some ad)) := by
 unfold ptOf
 split
 · rename_i hn
   exact ⟨ad, rfl, hs, hlt, E0_F _ rfl _, fun j x hx => hc j x hx (noJunk_mem hn (List.mem_of_getElem? hx))⟩
 · trivial
theorem resP_vd (hd : Den τ w0 E s bs w) {x : SV} {u : Value} (h : vd3 E s.rows w x u) : vd0 E0 [] w (resP s x) u := by
 cases x with
 | pt t cs =>
   obtain ⟨ad, rfl, hs, hlt, hF, hc⟩ := h
   simp only [resP, forceL_eq]
   refine ptOf_vd hs hlt fun j x hx hj => ?_
   obtain ⟨y, hy, rfl⟩ := plainL_get cs j x hx
   obtain ⟨v, hv, hd'⟩ := hc j y hy
   refine ⟨v, hv, ?_⟩
   cases y with
   | row t' r => exact row0 hd'
   | int k n => exact hd'
   | bool b => exact hd'
   | lit b => exact hd'
   | str s => exact hd'
   | _ => exact hd'.elim
 | box k off =>
   obtain rfl : u = _ := h
   simp only [resP]
   split
   · rename_i T cs hk
     obtain ⟨how, us, hheap, hcs⟩ := hd.box k T cs hk
     rw [forceL_eq]
     refine ptOf_vd rfl (hd.owb _ how).2 fun j x hx hj => ?_
     obtain ⟨y, hy, rfl⟩ := plainL_get _ j x hx
     obtain ⟨v, hv, hvd⟩ := (hcs.drop off).2 j y hy
     refine ⟨v, ?_, plain_cd (plain_vd hd (vd_of_vd1 hvd)) hj⟩
     rw [Addr.add_lit, cell_of_row w _ _ _ _ _ hheap]
     rw [List.getElem?_drop] at hv
     simpa using hv
   · trivial
 | oel k i off =>
   simp only [vd3, vd2, vd1, vd0] at h
   have fin : ∀ e lo r g n c, lk s.rows k = some e → e.mine = some (lo, r) → E.hs k = .slice (some ⟨g, 0, none⟩) n c → 0 ≤ i → i < r.len → vd0 E0 [] w (.pt .any ((r.cell .any i.toNat).drop off)) (.pointer (some ⟨g, i.toNat * r.sz + off, none⟩)) := by
    intro e lo r g n c hk hm hh h0 h1
    have hO := hd.own k e lo r hk hm
    obtain ⟨us, hcs, hcell⟩ := hO.elem (rw' := s.rows) hh (i := i.toNat) (by omega) (t := .any) (fun h => by simp at h) (by simp)
    refine ⟨_, rfl, rfl, (hd.owb _ (hO.ow g (by rw [hh]; rfl))).2, E0_F _ rfl _, fun j x hx => ?_⟩
    rw [List.getElem?_drop] at hx
    obtain ⟨v, hv, hvd⟩ := hcs.2 (off + j) x hx
    refine ⟨v, ?_, ?_⟩
    · have := hcell (off + j) v hv
      rw [Addr.add_lit] at this ⊢
      rw [Nat.add_assoc]
      exact this
    · have ht := cell_retag .any r i.toNat (off + j) x hx
      cases x with
      | row t' r' => obtain rfl := ht t' r' rfl; exact row0 hvd
      | int k n => exact hvd
      | bool b => exact hvd
      | lit b => exact hvd
      | str s => exact hvd
      | _ =>
        have := List.mem_of_getElem? hx
        cases r <;> simp [Rw.cell, GItem.cells, GPeer.cells, GTold.cells, GCut.cells, GMsg.cells, GNode.cells, GAct.cells] at this
   simp only [resP]
   split
   · rename_i r hk
     rw [hk] at h
     obtain ⟨g, n, c, hh, h0, h1, rfl⟩ := h
     exact fin _ _ _ g n c hk rfl hh h0 h1
   · rename_i lo r hk
     rw [hk] at h
     obtain ⟨g, n, c, hh, h0, h1, rfl⟩ := h
     exact fin _ _ _ g n c hk rfl hh h0 h1
   · trivial
 | tup vs => trivial
 | agg cs => trivial
 | clo f b c => trivial
 | own k => exact plain_vd hd h
 | row t r => exact plain_vd hd h
 | nilS r => exact plain_vd hd h
 | pre t r n => trivial
 | int k n => exact h
 | bool b => exact h
 | lit b => exact h
 | str s => exact h
 | junk => trivial
end
end Go.Proofs.YtjjpakdlkjaigaaGreat

/- A symbolic executor for loaded Go code: a call's arguments, and what it hands back. -/
namespace Go.Proofs.YtjjpakdlkjaigaaGreat
open Go.RowKit
section
variable {P : Program} {τ : Tys} {w0 : World} {E : Env} {aS : List (Array Value)} {a : Act} {w : World}
variable {s : St} {bs : List (Array Value)} {o : Oper}
variable {fr : List (Nat × SV)} {stk : List (List (Nat × SV))} {bx : List (Nat × (TypeId × List SV))} {rw' : List (Nat × Ent)} {dep : Nat}
theorem vdf_of_vd0 {x : SV} {u : Value} (h : vd0 E rw' w x u) : vdf E rw' w x u := by cases x <;> first | exact h | exact h.elim
theorem vd3_of_vd0 {x : SV} {u : Value} (h : vd0 E rw' w x u) : vd3 E rw' w x u := by cases x <;> first | exact h | exact h.elim
theorem vd3_of_vdf {x : SV} {u : Value} (h : vdf E rw' w x u) : vd3 E rw' w x u := by
 cases x with
 | agg cs => obtain ⟨us, rfl, hl⟩ := h; exact ⟨us, rfl, hl.mono fun x u _ hp => by cases x <;> first | exact hp | exact hp.elim⟩
 | tup _ => exact h.elim
 | clo _ _ _ => exact h.elim
 | _ => exact h
theorem resF_vd (hd : Den τ w0 E s bs w) {x : SV} {u : Value} (h : vd3 E s.rows w x u) : vdf E0 [] w (resF s x) u := by
 cases x with
 | agg cs => obtain ⟨us, rfl, hl⟩ := h; exact ⟨us, rfl, plainL_vd hd hl⟩
 | _ => exact vdf_of_vd0 (resP_vd hd h)
theorem mapP_vd {p q : SV → Value → Prop} {f : SV → SV} (hf : ∀ x u, p x u → q (f x) u) {l : List SV} {us : List Value} (h : L0 p l us) : L0 q (mapP f l) us := by
 induction l generalizing us with
 | nil => obtain rfl := h.inv_nil; exact L0.nil
 | cons x l ih => obtain ⟨u, us', rfl, h1, h2⟩ := h.inv_cons; exact .cons (hf x u h1) (ih h2)
theorem resA_vd (hd : Den τ w0 E s bs w) {x : SV} {u : Value} (h : vd3 E s.rows w x u) : vd3 E0 [] w (resA s x) u := by
 cases x with
 | clo f b c =>
   obtain ⟨us, vs, rfl, h1, h2⟩ := h
   exact ⟨us, vs, rfl, mapP_vd (fun x u h => resF_vd hd (vd3_of_vdf h)) h1, mapP_vd (fun x u h => resP_vd hd (vd3_of_vd0 h)) h2⟩
 | _ => exact vd3_of_vdf (resF_vd hd h)
theorem args_vd (hd : Den τ w0 E s bs w) {xs : List SV} {us : List Value} (h : L0 (vd3 E s.rows w) xs us) : L0 (vd3 E0 [] w) (mapP (resA s) xs) us := mapP_vd (fun _ _ h => resA_vd hd h) h
def idx (kb k : Nat) : Option Nat := if kb ≤ k ∧ (k - kb) % 100000 = 0 then some ((k - kb) / 100000) else none
theorem idx_iff (kb k i : Nat) : idx kb k = some i ↔ k = kb + 100000 * i := by
 unfold idx
 split
 · rename_i h; simp; omega
 · rename_i h; simp; omega
theorem lk_addRows (kb : Nat) : ∀ (rows : List Rw) (R : List (Nat × Ent)) (n k : Nat), lk (addRows R kb rows n) k = match idx kb k with
  | some i => if n ≤ i then (match rows[i - n]? with
    | some r => some (.own r)
    | none => lk R k) else lk R k
  | none => lk R k
 | [], R, n, k => by
   simp only [addRows]
   cases idx kb k <;> simp
 | r :: rows, R, n, k => by
   simp only [addRows]
   rw [lk_addRows kb rows _ (n + 1) k]
   have hu := lk_upd R (kb + 100000 * n) (.own r) k
   cases hi : idx kb k with
   | none =>
     simp only [hu]
     rw [if_neg]
     intro h
     rw [(idx_iff kb k n).2 h] at hi
     simp at hi
   | some i =>
     have hk := (idx_iff kb k i).1 hi
     simp only [hu]
     by_cases h1 : n + 1 ≤ i
     · have : ¬ k = kb + 100000 * n := by omega
       simp only [if_pos h1, if_pos (show n ≤ i by omega), if_neg this]
       obtain ⟨j, rfl⟩ : ∃ j, i = n + 1 + j := ⟨i - (n + 1), by omega⟩
       rw [show n + 1 + j - (n + 1) = j by omega, show n + 1 + j - n = j + 1 by omega]
       simp
     · simp only [if_neg h1]
       by_cases h2 : n = i
       · subst h2; simp [hk]
       · rw [if_neg (show ¬ k = kb + 100000 * n by omega), if_neg (show ¬ n ≤ i by omega)]
theorem lk_resRows : ∀ (rows : List Rw) (n i : Nat), lk (resRows rows n) i = if n ≤ i then (rows[i - n]?).map Ent.own else none
 | [], n, i => by simp [resRows, lk]
 | r :: rows, n, i => by
   simp only [resRows, lk]
   rw [lk_resRows rows (n + 1) i]
   split
   · rename_i h
     have := Nat.eq_of_beq_eq_true h
     subst this
     simp
   · rename_i h
     have hne : n ≠ i := fun e => by subst e; simp at h
     by_cases h1 : n + 1 ≤ i
     · rw [if_pos h1, if_pos (by omega)]
       obtain ⟨j, rfl⟩ : ∃ j, i = n + 1 + j := ⟨i - (n + 1), by omega⟩
       rw [show n + 1 + j - (n + 1) = j by omega, show n + 1 + j - n = j + 1 by omega]
       simp
     · rw [if_neg h1, if_neg (by omega)]
def Env.join (E Er : Env) (kb n : Nat) : Env := ⟨E.base, E.M, E.bs, fun k => match idx kb k with
 | some i => if i < n then Er.hs i else E.hs k
 | none => E.hs k, fun g => E.ow g ∨ Er.ow g⟩
theorem keysFree_no {kb : Nat} : ∀ {n : Nat}, keysFree s kb n = true → ∀ i, i < n → s.has (own0 (kb + 100000 * i)) = false
 | 0, _, i, hi => by omega
 | n + 1, h, i, hi => by
   simp only [keysFree] at h
   split at h
   · simp at h
   · rename_i h1
     by_cases e : i = n
     · subst e; exact h1
     · exact keysFree_no h i (by omega)
theorem join_hs {Er : Env} {kb n i : Nat} (hi : i < n) : (E.join Er kb n).hs (kb + 100000 * i) = Er.hs i := by
 simp [Env.join, (idx_iff kb _ i).2 rfl, hi]
theorem join_F {Er : Env} {kb n : Nat} {B : Nat} (hB : Er.M = B) (hM : E.M ≤ B) (hE : ∀ g, E.ow g → g < B) {w : World} {g : Nat} (h : Er.F w .new g) : (E.join Er kb n).F w .new g := by
 obtain ⟨h1, h2, hu⟩ := h
 have h2 : Er.M ≤ g := h2
 refine ⟨?_, Nat.le_trans hM (by omega), hu⟩
 rintro (h3 | h3)
 · have := hE g h3; omega
 · exact h1 h3
theorem renum0_vd {Er : Env} {kb : Nat} {rows : List Rw} {w' : World} (hB : Er.M = w.heap.size) (hM : E.M ≤ w.heap.size) (hE : ∀ g, E.ow g → g < w.heap.size) {R : List (Nat × Ent)} {x : SV} {u : Value}
  (ho : resOk0 rows.length x = true) (h : vd0 Er (resRows rows 0) w' x u) : vd0 (E.join Er kb rows.length) (addRows R kb rows 0) w' (renum0 kb x) u := by
 cases x with
 | own i =>
   simp only [resOk0] at ho
   have hi : i < rows.length := Nat.le_of_ble_eq_true ho
   simp only [vd0, renum0] at h ⊢
   rw [lk_resRows, if_pos (Nat.zero_le _), Nat.sub_zero, List.getElem?_eq_getElem hi] at h
   rw [lk_addRows, (idx_iff kb _ i).2 rfl]
   simp only [Nat.zero_le, if_true, Nat.sub_zero, List.getElem?_eq_getElem hi]
   rw [join_hs hi]
   exact h
 | row t r =>
   cases t <;> simp [resOk0, Tag.isNew] at ho
   exact RowDen.mono h fun g hg _ => ⟨rfl, join_F hB hM hE hg⟩
 | int k n => exact h
 | bool b => exact h
 | lit b => exact h
 | str s => exact h
 | nilS r => exact h
 | _ => simp [resOk0] at ho
theorem renumL_vd {p q : SV → Value → Prop} {ok : SV → Bool} {f : SV → SV} (hf : ∀ x u, ok x = true → p x u → q (f x) u) {l : List SV} {us : List Value} (ho : allB ok l = true) (h : L0 p l us) : L0 q (renumL f l) us := by
 induction l generalizing us with
 | nil => obtain rfl := h.inv_nil; exact L0.nil
 | cons x l ih =>
   obtain ⟨u, us', rfl, h1, h2⟩ := h.inv_cons
   simp only [allB] at ho
   split at ho
   · rename_i hx; exact .cons (hf x u hx h1) (ih ho h2)
   · simp at ho
theorem renum1_vd {Er : Env} {kb : Nat} {rows : List Rw} {w' : World} (hB : Er.M = w.heap.size) (hM : E.M ≤ w.heap.size) (hE : ∀ g, E.ow g → g < w.heap.size) {R : List (Nat × Ent)} {x : SV} {u : Value}
  (ho : resOk1 rows.length x = true) (h : vd2 Er (resRows rows 0) w' x u) : vd2 (E.join Er kb rows.length) (addRows R kb rows 0) w' (renum1 kb x) u := by
 have key : ∀ y v, resOk0 rows.length y = true → vd1 Er (resRows rows 0) w' y v → vd1 (E.join Er kb rows.length) (addRows R kb rows 0) w' (renum0 kb y) v := by
  intro y v hy hv
  have := renum0_vd (kb := kb) (R := R) hB hM hE hy (u := v) (w' := w') (by cases y <;> first | exact hv | simp [resOk0] at hy)
  cases y <;> first | exact this | simp [resOk0] at hy
 cases x with
 | agg cs =>
   obtain ⟨us, rfl, hl⟩ := h
   exact ⟨us, rfl, renumL_vd key ho hl⟩
 | tup vs => simp [resOk1, resOk0] at ho
 | clo f b c => simp [resOk1, resOk0] at ho
 | int k n => exact key (.int k n) u ho h
 | bool b => exact key (.bool b) u ho h
 | lit b => exact key (.lit b) u ho h
 | str s => exact key (.str s) u ho h
 | row t r => exact key (.row t r) u ho h
 | nilS r => exact key (.nilS r) u ho h
 | pre t r n => exact key (.pre t r n) u ho h
 | own i => exact key (.own i) u ho h
 | box k off => exact key (.box k off) u ho h
 | pt t c => exact key (.pt t c) u ho h
 | oel k i off => exact key (.oel k i off) u ho h
 | junk => exact key (.junk) u ho h
theorem renum2_vd {Er : Env} {kb : Nat} {rows : List Rw} {w' : World} (hB : Er.M = w.heap.size) (hM : E.M ≤ w.heap.size) (hE : ∀ g, E.ow g → g < w.heap.size) {R : List (Nat × Ent)} {x : SV} {u : Value}
  (ho : resOk2 rows.length x = true) (h : vd3 Er (resRows rows 0) w' x u) : vd3 (E.join Er kb rows.length) (addRows R kb rows 0) w' (renum2 kb x) u := by
 cases x with
 | tup vs =>
   obtain ⟨us, rfl, hl⟩ := h
   exact ⟨us, rfl, renumL_vd (fun y v hy hv => renum1_vd hB hM hE hy hv) ho hl⟩
 | agg cs => exact renum1_vd (kb := kb) (rows := rows) (w' := w') (R := R) hB hM hE (x := .agg cs) (u := u) ho h
 | clo f b c => simp [resOk2, resOk1, resOk0] at ho
 | int k n => exact renum1_vd (kb := kb) (rows := rows) (w' := w') (R := R) hB hM hE (x := .int k n) (u := u) ho h
 | bool b => exact renum1_vd (kb := kb) (rows := rows) (w' := w') (R := R) hB hM hE (x := .bool b) (u := u) ho h
 | lit b => exact renum1_vd (kb := kb) (rows := rows) (w' := w') (R := R) hB hM hE (x := .lit b) (u := u) ho h
 | str s => exact renum1_vd (kb := kb) (rows := rows) (w' := w') (R := R) hB hM hE (x := .str s) (u := u) ho h
 | row t r => exact renum1_vd (kb := kb) (rows := rows) (w' := w') (R := R) hB hM hE (x := .row t r) (u := u) ho h
 | nilS r => exact renum1_vd (kb := kb) (rows := rows) (w' := w') (R := R) hB hM hE (x := .nilS r) (u := u) ho h
 | pre t r n => exact renum1_vd (kb := kb) (rows := rows) (w' := w') (R := R) hB hM hE (x := .pre t r n) (u := u) ho h
 | own i => exact renum1_vd (kb := kb) (rows := rows) (w' := w') (R := R) hB hM hE (x := .own i) (u := u) ho h
 | box k off => exact renum1_vd (kb := kb) (rows := rows) (w' := w') (R := R) hB hM hE (x := .box k off) (u := u) ho h
 | pt t c => exact renum1_vd (kb := kb) (rows := rows) (w' := w') (R := R) hB hM hE (x := .pt t c) (u := u) ho h
 | oel k i off => exact renum1_vd (kb := kb) (rows := rows) (w' := w') (R := R) hB hM hE (x := .oel k i off) (u := u) ho h
 | junk => exact renum1_vd (kb := kb) (rows := rows) (w' := w') (R := R) hB hM hE (x := .junk) (u := u) ho h
theorem Den.join (h : Den τ w0 E ⟨fr, stk, bx, rw', dep⟩ bs w) {Er : Env} {kb : Nat} {rows : List Rw} {w' : World} (hw : Below w.heap.size w w') (hB : Er.M = w.heap.size)
  (how : ∀ g, Er.ow g → w.heap.size ≤ g ∧ g < w'.heap.size) (hown : ∀ i r, rows[i]? = some r → OwnD τ Er w' i r.len r)
  (hrr : ∀ i j ri rj g, rows[i]? = some ri → rows[j]? = some rj → i ≠ j → (Er.hs i).ownBlock = some g → (Er.hs j).ownBlock ≠ some g)
  (hfree : keysFree ⟨fr, stk, bx, rw', dep⟩ kb rows.length = true) :
  Den τ w0 (E.join Er kb rows.length) ⟨fr, stk, bx, addRows rw' kb rows 0, dep⟩ bs w' := by
 have hM := h.Mh
 have hEo : ∀ g, E.ow g → g < w.heap.size := fun g hg => (h.owb g hg).2
 have hk : Keeps E (E.join Er kb rows.length) w w' := ⟨rfl, hw.size, fun g _ hg => hw.block g hg, fun g hg => hg.elim .inl fun hg => .inr (how g hg).1⟩
 -- which rows there are
 have hl : ∀ k e lo r, lk (addRows rw' kb rows 0) k = some e → e.mine = some (lo, r) →
   (∃ i ri, k = kb + 100000 * i ∧ rows[i]? = some ri ∧ e = .own ri ∧ (E.join Er kb rows.length).hs k = Er.hs i) ∨
   (lk rw' k = some e ∧ (E.join Er kb rows.length).hs k = E.hs k) := by
  intro k e lo r hk hm
  rw [lk_addRows] at hk
  cases hi : idx kb k with
  | none =>
    rw [hi] at hk
    exact .inr ⟨hk, by simp [Env.join, hi]⟩
  | some i =>
    rw [hi] at hk
    simp only [Nat.zero_le, if_true, Nat.sub_zero] at hk
    cases hri : rows[i]? with
    | none =>
      rw [hri] at hk
      refine .inr ⟨hk, ?_⟩
      have : ¬ i < rows.length := by intro hlt; rw [List.getElem?_eq_getElem hlt] at hri; simp at hri
      simp [Env.join, hi, this]
    | some ri =>
      rw [hri] at hk
      have hlt : i < rows.length := (List.getElem?_eq_some_iff.1 hri).1
      refine .inl ⟨i, ri, (idx_iff kb k i).1 hi, hri, ?_, ?_⟩
      · simpa using hk.symm
      · simp [Env.join, hi, hlt]
 have hblk : ∀ i ri g, rows[i]? = some ri → (Er.hs i).ownBlock = some g → w.heap.size ≤ g ∧ g < w'.heap.size := fun i ri g hi hg => how g ((hown i ri hi).ow g hg)
 have hold : ∀ k e m g, lk rw' k = some e → e.mine = some m → (E.hs k).ownBlock = some g → g < w.heap.size := fun k e m g h1 h2 h3 => (h.own k e m.1 m.2 h1 h2).lt h.owb h3
 refine h.move hk rfl (hw.mono (Nat.le_trans h.bM hM)) ?_ rfl rfl ?_ ?_ ?_ ?_ ?_ ?_
 · refine ⟨fun k hk => ?_, fun _ _ => rfl⟩
   have hno : ∀ i, i < rows.length → k ≠ kb + 100000 * i := fun i hi e => by rw [e, keysFree_no hfree i hi] at hk; exact absurd hk (by simp)
   dsimp only
   rw [lk_addRows]
   cases hi : idx kb k with
   | none => exact ⟨by simp [Env.join, hi], entLike.refl _ _ _ _⟩
   | some i =>
     have : ¬ i < rows.length := fun hlt => hno i hlt ((idx_iff kb k i).1 hi)
     simp only [Nat.zero_le, if_true, Nat.sub_zero, List.getElem?_eq_none (Nat.le_of_not_lt this)]
     exact ⟨by simp [Env.join, hi, this], entLike.refl _ _ _ _⟩
 · rintro g (hg | hg)
   · exact ⟨(h.owb g hg).1, Nat.lt_of_lt_of_le (h.owb g hg).2 hw.size⟩
   · exact ⟨Nat.le_trans h.bM (Nat.le_trans hM (how g hg).1), (how g hg).2⟩
 · intro k T cs hb
   obtain ⟨ho, us, hheap, hcs⟩ := h.box k T cs hb
   refine ⟨.inl ho, us, ?_, ?_⟩
   · show w'.heap[E.bs k]? = _
     rw [hw.block _ (h.owb _ ho).2]
     exact hheap
   · refine hcs.mono fun x u hx hp => vd1.keeps hk (fun j hj => ?_) (fun j hj => rfl) hp
     have hj' : St.has (own0 j) ⟨fr, stk, bx, rw', dep⟩ = true := has_box hb hx hj
     have hno : ∀ i, i < rows.length → j ≠ kb + 100000 * i := fun i hi e => by rw [e, keysFree_no hfree i hi] at hj'; exact absurd hj' (by simp)
     dsimp only
     rw [lk_addRows]
     cases hi : idx kb j with
     | none => exact ⟨by simp [Env.join, hi], entLike.refl _ _ _ _⟩
     | some i =>
       have : ¬ i < rows.length := fun hlt => hno i hlt ((idx_iff kb j i).1 hi)
       simp only [Nat.zero_le, if_true, Nat.sub_zero, List.getElem?_eq_none (Nat.le_of_not_lt this)]
       exact ⟨by simp [Env.join, hi, this], entLike.refl _ _ _ _⟩
 · intro k e lo r hk' hm
   rcases hl k e lo r hk' hm with ⟨i, ri, rfl, hri, rfl, hh⟩ | ⟨ho, hh⟩
   · simp [Ent.mine] at hm
     obtain ⟨rfl, rfl⟩ := hm
     obtain ⟨h1, h2, us, h3, h4⟩ := hown i ri hri
     refine ⟨fun g hg => .inr (h1 g (hh ▸ hg)), h2, us, ?_, ?_⟩
     · rw [hh]
       refine ⟨h3.1, ?_⟩
       rcases h3.2 with h5 | ⟨g, cap, cur, hv, hg, h5⟩
       · exact .inl h5
       · exact .inr ⟨g, cap, cur, hv, Nat.le_trans hM (by omega), h5⟩
     · intro i' j x hi' hx
       obtain ⟨u, hu, hc⟩ := h4 i' j x hi' hx
       rw [if_pos hi'] at hc ⊢
       exact ⟨u, hu, cd1.mono hc fun g hg _ => ⟨rfl, join_F hB hM hEo hg⟩⟩
   · exact (h.own k e lo r ho hm).keeps hk hh rfl (fun g hg => .inl ((h.own k e lo r ho hm).ow g hg)) fun g hg => hw.block g (hold k e _ g ho hm hg)
 · exact h.bb
 · intro k k' b e m hb he hm
   rcases hl k' e m.1 m.2 he hm with ⟨i, ri, rfl, hri, rfl, hh⟩ | ⟨ho, hh⟩
   · rw [hh]
     intro hg
     have h1 := (hblk i ri _ hri hg).1
     have h2 := h.box_lt hb
     exact absurd h2 (Nat.not_lt.2 h1)
   · rw [hh]; exact h.br k k' b e m hb ho hm
 · intro k k' e e' m m' g he he' hm hm' hne hg
   rcases hl k e m.1 m.2 he hm with ⟨i, ri, rfl, hri, rfl, hh⟩ | ⟨ho, hh⟩
   · rw [hh] at hg
     rcases hl k' e' m'.1 m'.2 he' hm' with ⟨i', ri', rfl, hri', rfl, hh'⟩ | ⟨ho', hh'⟩
     · rw [hh']
       exact hrr i i' ri ri' g hri hri' (fun e => hne (by rw [e])) hg
     · rw [hh']
       intro hg'
       have h1 := (hblk i ri _ hri hg).1
       have h2 := hold k' e' m' g ho' hm' hg'
       omega
   · rw [hh] at hg
     rcases hl k' e' m'.1 m'.2 he' hm' with ⟨i', ri', rfl, hri', rfl, hh'⟩ | ⟨ho', hh'⟩
     · rw [hh']
       intro hg'
       have h1 := (hblk i' ri' _ hri' hg').1
       have h2 := hold k e m g ho hm hg
       omega
     · rw [hh']; exact h.rr k k' e e' m m' g ho ho' hm hm' hne hg
end
end Go.Proofs.YtjjpakdlkjaigaaGreat

/- A symbolic executor for loaded Go code: the bytes of a string. -/
namespace Go.Proofs.YtjjpakdlkjaigaaGreat
open Go.RowKit
section
variable {P : Program} {τ : Tys} {w0 : World} {E : Env} {aS : List (Array Value)} {a : Act} {w : World}
variable {s : St} {bs : List (Array Value)} {o : Oper}
variable {fr : List (Nat × SV)} {stk : List (List (Nat × SV))} {bx : List (Nat × (TypeId × List SV))} {rw' : List (Nat × Ent)} {dep : Nat}
theorem Den.grow (h : Den τ w0 E s bs w) {w' : World} (hB : Below w.heap.size w w') : Den τ w0 E s bs w' := by
 have hk : Keeps E E w w' := ⟨rfl, hB.size, fun g _ hg => hB.block g hg, fun _ h => .inl h⟩
 have hs := Shift.refl E s s w' rfl
 refine h.move hk rfl (hB.mono (Nat.le_trans h.bM h.Mh)) hs rfl rfl (fun g hg => ⟨(h.owb g hg).1, Nat.lt_of_lt_of_le (h.owb g hg).2 hB.size⟩) ?_ ?_ h.bb h.br h.rr
 · intro k T cs hb
   obtain ⟨ho, us, hh, hc⟩ := h.box k T cs hb
   exact ⟨ho, us, by rw [hB.block _ (h.owb _ ho).2]; exact hh, hs.cells hk hb hc⟩
 · intro k e lo r hl hm
   exact (h.own k e lo r hl hm).keeps hk rfl rfl (h.own k e lo r hl hm).ow fun g hg => hB.block g ((h.own k e lo r hl hm).lt h.owb hg)
theorem bytesL_len (b : ByteArray) : (bytesL b).length = b.size := by
 show (b.toList.map _).length = b.data.size
 rw [List.length_map, ByteArray.toList_eq, Array.length_toList]
theorem bytesL_get (b : ByteArray) {i : Nat} (h : i < b.size) : (bytesL b).getD i 0 = (b[i].toNat : Int) := by
 have h' : i < b.data.size := h
 simp only [bytesL, ByteArray.toList_eq, List.getD_eq_getElem?_getD, List.getElem?_map, Array.getElem?_toList, Array.getElem?_eq_getElem h']
 rfl
theorem bytes_good (hτ : TysOk P τ) (hd : Den τ w0 E ⟨fr, stk, bx, rw', dep⟩ (a.tmps :: aS) w) (hdst : ∀ t, o.dst = some t → t < a.tmps.size) (src dst : TypeId) (x : Operand) (ho : o.op = .convert src dst x) :
  (stepBytes τ src dst x o.dst ⟨fr, stk, bx, rw', dep⟩).good (OpGood P τ w0 E aS o a w) := by
 unfold stepBytes
 split
 · rename_i e htd hts
   split
   · rename_i hte
     rw [SV.force_eq]
     have hx := hd.get x
     split
     · rename_i b hb
       rw [hb] at hx
       obtain hx : a.eval x = .string b := hx
       intro hsz
       obtain ⟨d2, hu2, hd2⟩ := hτ.td hts (by simp)
       obtain rfl : d2 = _ := hd2
       obtain ⟨d3, hu3, hd3⟩ := hτ.td hte (by simp)
       obtain rfl : d3 = _ := hd3
       have hr := run_bytes_of_string (P := P) w src dst e b hu2 (hτ.slice htd) hu3
       generalize hC : bytesRow b (grownCap w b.size 0 e) = C at hr
       generalize hc : grownCap w b.size 0 e = c at hr hC
       have hle : b.size ≤ c := by rw [← hc]; exact grownCap_ge w _ _ _
       have hB : Below w.heap.size w (w.drew.alloc (.cells C e (C.size, C.size + 1))) := ((Below.refl _ _).drew).alloc (Nat.le_refl _) _
       have hd2 := hd.grow hB
       refine opGood_value (v := .slice (some ⟨w.heap.size, 0, none⟩) b.size c) (w' := w.drew.alloc (.cells C e (C.size, C.size + 1))) (E' := E) ?_ ?_ rfl rfl
       · simp only [execOp, ho, hx, Sem.run_bind, hr]
         rfl
       · refine hd2.put ?_ hdst
         refine ⟨by simpa [Rw.len, Rw.bts, Rw.kd, kdBytes, bytesL_len] using hsz, some ⟨w.heap.size, 0, none⟩, c, by simp [Rw.len, bytesL_len], by simpa [Rw.len, bytesL_len] using hle, fun _ => ⟨_, rfl, rfl, ⟨fun hg => ?_, Nat.le_trans hd.Mh (Nat.le_refl _), fun c' T' lo hi hc' => ?_⟩, ?_⟩⟩
         · exact absurd (hd.owb _ hg).2 (Nat.lt_irrefl _)
         · have hheap : (w.drew.alloc (.cells C e (C.size, C.size + 1))).heap[w.heap.size]? = some (.cells C e (C.size, C.size + 1)) := by
            show (w.heap.push _)[w.heap.size]? = _
            simp
           rw [hheap] at hc'
           injection hc' with hc'
           injection hc' with h1 _ h3
           injection h3 with h4 h5
           subst h1
           exact .inr (by omega)
         · intro i j y hi hy
           have hi' : i < b.size := by simpa [Rw.len, bytesL_len] using hi
           have hj : j = 0 := by
            have := (List.getElem?_eq_some_iff.1 hy).1
            simp [Rw.cell] at this
            exact this
           subst hj
           simp [Rw.cell] at hy
           refine ⟨.int .u8 (b[i].toNat : Int), ?_, ?_⟩
           · have hheap : (w.drew.alloc (.cells C e (C.size, C.size + 1))).heap[w.heap.size]? = some (.cells C e (C.size, C.size + 1)) := by
              show (w.heap.push _)[w.heap.size]? = _
              simp
             have hi2 : i < b.data.size := hi'
             have hCi : C[i]? = some (.int .u8 (b[i].toNat : Int)) := by
              rw [← hC]
              unfold bytesRow
              rw [Array.getElem?_append_left (by simpa using hi2), Array.getElem?_map, Array.getElem?_eq_getElem hi2]
              rfl
             have hadd : (⟨w.heap.size, 0, none⟩ : Addr).add (i * (Rw.bytes (bytesL b)).sz + 0) = ⟨w.heap.size, i, none⟩ := by
              unfold Addr.add
              split <;> simp_all [Rw.sz, Rw.kd, kdSz]
             rw [hadd]
             unfold World.cell?
             dsimp only
             rw [hheap]
             exact hCi
           · subst hy
             have := bytesL_get b hi'
             rw [List.getD_eq_getElem?_getD] at this
             simp only [cd1, sc]
             rw [this]
     · trivial
   · trivial
 · trivial
end
end Go.Proofs.YtjjpakdlkjaigaaGreat

/- A symbolic executor for loaded Go code: calls, and every operation. -/
namespace Go.Proofs.YtjjpakdlkjaigaaGreat
open Go.RowKit
section
variable {P : Program} {τ : Tys} {w0 : World} {E : Env} {aS : List (Array Value)} {a : Act} {w : World}
variable {s : St} {bs : List (Array Value)} {o : Oper}
variable {fr : List (Nat × SV)} {stk : List (List (Nat × SV))} {bx : List (Nat × (TypeId × List SV))} {rw' : List (Nat × Ent)} {dep : Nat}
theorem putRes_good (hd : Den τ w0 E ⟨fr, stk, bx, rw', dep⟩ (a.tmps :: aS) w) (hdst : ∀ t, o.dst = some t → t < a.tmps.size) (f : FuncId) (args : List Value)
  (hrun : (execOp a.eval o).run P w = .ok (.enter f args.toArray) w) (v : SV) (rows : List Rw) (q : Prop) (K : St → RS) (hK : ∀ s' p, (K s').good p ↔ (q → p s'))
  (hc : q → Calls P f args.toArray w fun e w' => ∃ z, e = .returned z ∧ Below w.heap.size w w' ∧ Res τ w.heap.size w' v rows z) :
  (putRes o.dst v rows K ⟨fr, stk, bx, rw', dep⟩).good (OpGood P τ w0 E aS o a w) := by
 unfold putRes
 simp only [keysOk_eq0]
 split
 · rename_i hok
   split
   · rename_i hdn
     refine (hK _ _).2 fun hq next Q h => ?_
     unfold Oper.wp
     rw [hrun, Oper.upon_enter]
     refine (hc hq).mono ?_
     rintro e w' ⟨z, rfl, hb, Er, h1, h2, h3, h4, h5, h6⟩
     have hj := hd.join (kb := 0) (rows := []) hb h2 h3 (fun i r h => by simp at h) (fun i j ri rj g h => by simp at h) rfl
     refine h (E.join Er 0 0) z w' ?_ rfl rfl
     rw [hdn]
     exact hj
   · rename_i d hdn
     have go : ∀ kb, keysFree ⟨fr, stk, bx, rw', dep⟩ kb rows.length = true → ((renum2 kb v).force fun v => K ⟨(d, v) :: fr, stk, bx, addRows rw' kb rows 0, dep⟩).good (OpGood P τ w0 E aS o a w) := by
      intro kb hfree
      rw [SV.force_eq]
      refine (hK _ _).2 fun hq next Q h => ?_
      unfold Oper.wp
      rw [hrun, Oper.upon_enter]
      refine (hc hq).mono ?_
      rintro e w' ⟨z, rfl, hb, Er, h1, h2, h3, h4, h5, h6⟩
      have hj := hd.join (kb := kb) (rows := rows) hb h2 h3 h4 h5 hfree
      have hz := renum2_vd (kb := kb) (R := rw') h2 hd.Mh (fun g hg => (hd.owb g hg).2) hok h6
      have hp := hj.put (d := some d) hz (fun t ht => by simp at ht; subst ht; exact hdst d hdn)
      refine h (E.join Er kb rows.length) z w' ?_ rfl rfl
      rw [hdn]
      exact hp
     split
     · rename_i hfree; exact go _ hfree
     · split
       · rename_i hfree; exact go _ hfree
       · trivial
 · trivial
theorem value_good (hτ : TysOk P τ) {C : Ctx} (hC : CtxOk P τ C) (hd : Den τ w0 E ⟨fr, stk, bx, rw', dep⟩ (a.tmps :: aS) w) (hdst : ∀ t, o.dst = some t → t < a.tmps.size) (c : Call) (x : Operand) (ho : o.op = .call c) (hb : c.callee = .value x) :
  (stepCall τ C c o.dst ⟨fr, stk, bx, rw', dep⟩).good (OpGood P τ w0 E aS o a w) := by
 unfold stepCall
 rw [hb]
 dsimp only
 rw [SV.force_eq]
 have hx := hd.get x
 split
 · rename_i g ls cs hg
   rw [hg] at hx
   obtain ⟨us, vs, hf, h1, h2⟩ := hx
   split
   · rename_i sp hsp
     rw [forceL_eq]
     have hargs : L0 (vd3 E rw' w) (ls ++ getN τ ⟨fr, stk, bx, rw', dep⟩ c.args.toList c.argTypes.toList ++ cs) (us ++ c.args.toList.map a.eval ++ vs) :=
      ((h1.mono fun _ _ _ h => vd3_of_vdf h).append (getN_vd hd _ _)).append (h2.mono fun _ _ _ h => vd3_of_vd0 h)
     have hv := hC.valid g sp hsp _ _ w (args_vd hd hargs)
     have hrun : (execOp a.eval o).run P w = .ok (.enter g (us ++ c.args.toList.map a.eval ++ vs).toArray) w := by
      have he := hC.enters g sp hsp (us ++ c.args.toList.map a.eval ++ vs).toArray w
      simp only [execOp, ho, resolve, hb, hf, Deferred.ofValue, invoke, Sem.run_bind, Sem.run_pure, Result.andThen_ok]
      rw [← he]
      congr 2
      apply Array.toList_inj.1
      simp
     split
     · rename_i v rows hs
       rw [hs] at hv
       exact putRes_good hd hdst g _ hrun v rows True _ (fun s' p => by simp [RS.good]) fun _ => hv
     · rename_i q v rows hs
       rw [hs] at hv
       exact putRes_good hd hdst g _ hrun v rows q _ (fun s' p => by simp [RS.good]) hv
     · trivial
   · trivial
 · trivial
theorem call_good (hτ : TysOk P τ) {C : Ctx} (hC : CtxOk P τ C) (hd : Den τ w0 E ⟨fr, stk, bx, rw', dep⟩ (a.tmps :: aS) w) (hdst : ∀ t, o.dst = some t → t < a.tmps.size) (c : Call) (ho : o.op = .call c) :
  (stepCall τ C c o.dst ⟨fr, stk, bx, rw', dep⟩).good (OpGood P τ w0 E aS o a w) := by
 cases hb : c.callee with
 | value x => exact value_good hτ hC hd hdst c x ho hb
 | invoke r n => unfold stepCall; rw [hb]; trivial
 | builtin b =>
   unfold stepCall
   rw [hb]
   cases b with
   | len =>
     dsimp only
     split
     · rename_i x T hx hT
       rw [SV.force_eq]
       split
       · rename_i n b hn htd hs
         exact len_good hτ hd hdst c x T ho hb hx hT hn (.inl ⟨htd, b, hs⟩)
       · rename_i n e t r hn htd hs
         exact len_good hτ hd hdst c x T ho hb hx hT hn (.inr ⟨⟨_, htd⟩, fun b => by rw [hs]; simp⟩)
       · rename_i n e k hn htd hs
         exact len_good hτ hd hdst c x T ho hb hx hT hn (.inr ⟨⟨_, htd⟩, fun b => by rw [hs]; simp⟩)
       · rename_i n e r hn htd hs
         exact len_good hτ hd hdst c x T ho hb hx hT hn (.inr ⟨⟨_, htd⟩, fun b => by rw [hs]; simp⟩)
       · trivial
     · trivial
   | append =>
     dsimp only
     split
     · rename_i x y T T' hx hT
       split
       · rename_i hTT
         obtain rfl := Nat.eq_of_beq_eq_true hTT
         exact append_good hτ hd hdst c T x y ho hb hx hT
       · trivial
     · trivial
   | min =>
     dsimp only
     split
     · rename_i x y hx
       rw [SV.force_eq, SV.force_eq]
       exact min_good hd hdst c x y .min (.inl rfl) ho hb hx
     · trivial
   | max =>
     dsimp only
     split
     · rename_i x y hx
       rw [SV.force_eq, SV.force_eq]
       exact min_good hd hdst c x y .max (.inr rfl) ho hb hx
     · trivial
   | _ => trivial
theorem step_good (hτ : TysOk P τ) {C : Ctx} (hC : CtxOk P τ C) (hd : Den τ w0 E ⟨fr, stk, bx, rw', dep⟩ (a.tmps :: aS) w) (hdst : ∀ t, o.dst = some t → t < a.tmps.size) :
  (step τ C o ⟨fr, stk, bx, rw', dep⟩).good (OpGood P τ w0 E aS o a w) := by
 unfold step
 dsimp only
 split
 · rename_i x ho; exact move_good hτ hd hdst x (.inl ho)
 · rename_i x ho; exact move_good hτ hd hdst x (.inr ho)
 · rename_i c x y ho; simp only [SV.force_eq]; exact pick_good hd hdst c x y ho
 · rename_i T ho; exact alloc_good hτ hd hdst T ho
 · rename_i T x ho; exact box_good hτ hd hdst T x ho
 · rename_i T ps ho; exact build_good hτ hd hdst T ps ho
 · rename_i T n ps ho; exact lit_good hτ hd hdst T n ps ho
 · rename_i T x ho; rw [SV.force_eq]; exact load_good hτ hd hdst T x ho
 · rename_i T x v ho
   split
   · rename_i hdn; exact store_good hτ hd hdn T x v ho
   · trivial
 · rename_i x ho; rw [SV.force_eq]; exact check_good hd hdst x ho
 · rename_i op T x y T' ho; simp only [SV.force_eq]; exact bin_good hτ hd hdst op T T' x y ho
 · rename_i op T x ho; simp only [SV.force_eq]; exact un_good hd hdst op T x ho
 · rename_i b c x ho
   split
   · exact bytes_good hτ hd hdst b c x ho
   · simp only [SV.force_eq]; exact conv_good hτ hd hdst b c x ho
 · rename_i fn b c ho; exact func_good hd hdst fn b c ho
 · rename_i T n c ho
   split
   · rename_i hnc
     obtain rfl := sameOp_eq hnc
     exact make_good hτ hd hdst T _ ho
   · trivial
 · rename_i T x lo hi mx ho; exact slice_good hτ hd hdst T x lo hi mx ho
 · rename_i S x j ho; rw [SV.force_eq]; exact fieldAddr_good hτ hd hdst S x j ho
 · rename_i S x j ho; rw [SV.force_eq]; exact field_good hτ hd hdst S x j ho
 · rename_i T x i ho; simp only [SV.force_eq]; exact indexAddr_good hτ hd hdst T x i ho
 · rename_i T x i ho; simp only [SV.force_eq]; exact index_good hτ hd hdst T x i ho
 · rename_i x j ho; rw [SV.force_eq]; exact extract_good hd hdst x j ho
 · rename_i c ho; exact call_good hτ hC hd hdst c ho
 · trivial
end
end Go.Proofs.YtjjpakdlkjaigaaGreat

/- A symbolic executor for loaded Go code: a region whose operations come in any order that its edges allow. Definitions alone. -/
namespace Go.Proofs.YtjjpakdlkjaigaaGreat
open Go.RowKit
structure Ob (p : Prop) : Prop where
 out : p
def forceSt (s : St) (K : St → Prop) : Prop := match s with
 | ⟨fr, stk, bx, rw, dep⟩ => forceR rw fun rw => K ⟨fr, stk, bx, rw, dep⟩
theorem forceSt_eq (s : St) (K : St → Prop) : forceSt s K = K s := by cases s; simp only [forceSt, forceR_eq]
def forceAll (s : St) (K : St → Prop) : Prop := match s with
 | ⟨fr, stk, bx, rw, dep⟩ => forceF fr fun fr => forceB bx fun bx => forceR rw fun rw => K ⟨fr, stk, bx, rw, dep⟩
theorem forceAll_eq (s : St) (K : St → Prop) : forceAll s K = K s := by cases s; simp only [forceAll, forceF_eq, forceB_eq, forceR_eq]
structure Stop (p : Prop) : Prop where
 out : p
def RS.wp (r : RS) (K : St → Prop) : Prop := match r with
 | .ok s => forceSt s K
 | .ob p s => Ob p ∧ (p → forceSt s K)
 | .bad => False
noncomputable def stepW (τ : Tys) (C : Ctx) (o : Oper) (s : St) (K : St → Prop) : Prop := match o.op with
 | .call c => match c.callee with
   | .value f => (s.get f).force fun f => match f with
     | .clo g a cs => match C.tr g with
       | some T => forceL (a ++ rawN τ s c.args.toList c.argTypes.toList ++ cs) fun args => T args s fun v s' => v.force fun v => forceSt (putv o.dst v s') K
       | none => (step τ C o s).wp K
     | _ => (step τ C o s).wp K
   | _ => (step τ C o s).wp K
 | _ => (step τ C o s).wp K
def gslot (ops : List Oper) (j : Nat) : Option Tmp := match nth ops j with
 | some o => o.dst
 | none => none
def setLit (t : Nat) (b : Bool) : St → St
 | ⟨fr, stk, bx, rw, dep⟩ => ⟨(t, .lit b) :: fr, stk, bx, rw, dep⟩
def sameB : Bool → Bool → Bool
 | true, true => true
 | false, false => true
 | _, _ => false
def skipO (d : Option Tmp) : St → St
 | ⟨fr, stk, bx, rw, dep⟩ => match d with
   | some d => ⟨(d, .tup []) :: fr, stk, bx, rw, dep⟩
   | none => ⟨fr, stk, bx, rw, dep⟩
def skipV : SV → SV
 | .tup [] => .tup []
 | _ => .junk
def guardO (all : List Oper) (o : Oper) (s : St) (yes no : St → Prop) : Prop := match o.guard with
 | none => yes s
 | some (j, want) => match gslot all j with
   | none => False
   | some t => match lkv s.fr t with
     | .lit b => match sameB b want with
       | true => yes s
       | false => no s
     | .bool b => match want with
       | true => (b = true → yes (setLit t true s)) ∧ (b = false → no (setLit t false s))
       | false => (b = false → yes (setLit t false s)) ∧ (b = true → no (setLit t true s))
     | .tup _ => no s
     | _ => False
def subV : SV → SV → Prop
 | .junk, _ => True
 | .bool c, .lit b => b = c
 | .bool c, .bool b => b = c
 | .lit c, .lit b => b = c
 | .int k' n', .int k n => k = k' ∧ n = n'
 | .str c, .str b => b = c
 | .row .any r', .row _ r => r = r'
 | .row .new r', .row .new r => r = r'
 | .row .old r', .row .old r => r = r'
 | .row _ r', .nilS r => r = r'
 | x, y => x = y
def inM (j m : Nat) : Bool := Nat.beq (Nat.land (Nat.shiftRight m j) 1) 1
def subM (a b : Nat) : Bool := Nat.beq (Nat.land a b) a
def addM (j m : Nat) : Nat := Nat.lor m (Nat.shiftLeft 1 j)
def forceN {α : Type} (n : Nat) (K : Nat → α) : α := match n with
 | 0 => K 0
 | m + 1 => K (m + 1)
theorem forceN_eq {α : Type} (n : Nat) (K : Nat → α) : forceN n K = K n := by cases n <;> rfl
def isR (o : Oper) : Bool := match o.dst with
 | none => false
 | some _ => match o.op with
   | .move _ => true
   | .assign _ => true
   | .pick _ _ _ => true
   | .load _ _ => true
   | .nilCheck _ => true
   | .binOp _ _ _ _ _ => true
   | .unOp _ _ _ => true
   | .convert _ _ _ => true
   | .makeFunc _ _ _ => true
   | .fieldAddr _ _ _ => true
   | .field _ _ _ => true
   | .indexAddr _ _ _ => true
   | .index _ _ _ => true
   | .extract _ _ => true
   | .build _ _ => true
   | .call c => match c.callee with
     | .builtin .len => true
     | .builtin .min => true
     | .builtin .max => true
     | _ => false
   | _ => false
noncomputable def evR (τ : Tys) (s : St) (o : Oper) : RV := match o.op with
 | .move x => .ok (rawT τ s o.type x)
 | .assign x => .ok (rawT τ s o.type x)
 | .pick c a b => (s.get c).force fun c => (s.get a).force fun a => (s.get b).force fun b => evPick c a b
 | .load T x => (s.get x).force fun x => evLoad τ s T x
 | .nilCheck x => (s.get x).force fun x => evCheck s x
 | .binOp op T x y _ => (s.get x).force fun x => (s.get y).force fun y => evBin τ T op x y
 | .unOp op _ x => (s.get x).force fun x => evUn op x
 | .convert a b x => (s.get x).force fun x => evConv τ s a b x
 | .makeFunc fn a c => evFunc fn (getN τ s a.toList []) (getN τ s c.toList [])
 | .fieldAddr S x j => (s.get x).force fun x => evField τ s S j x
 | .field S x j => (s.get x).force fun x => evPart τ S j x
 | .indexAddr T x i => (s.get x).force fun x => (s.get i).force fun i => evIndexAddr τ s T x i
 | .index T x i => (s.get x).force fun x => (s.get i).force fun i => evIndex τ T x i
 | .extract x j => (s.get x).force fun x => evExtract x j
 | .build T ps => evBuild τ s T ps
 | .call c => match c.callee with
   | .builtin .len => match c.args.toList, c.argTypes.toList with
     | [x], [T] => (s.get x).force fun x => match lenOf s.rows x, τ.td T, x with
       | some n, .str, .str _ => .ok (.int .i64 n)
       | some n, .slice _, .row _ _ => .ok (.int .i64 n)
       | some n, .slice _, .own _ => .ok (.int .i64 n)
       | some n, .slice _, .nilS _ => .ok (.int .i64 n)
       | _, _, _ => .bad
     | _, _ => .bad
   | .builtin .min => match c.args.toList with
     | [x, y] => (s.get x).force fun x => (s.get y).force fun y => evMin .min x y
     | _ => .bad
   | .builtin .max => match c.args.toList with
     | [x, y] => (s.get x).force fun x => (s.get y).force fun y => evMin .max x y
     | _ => .bad
   | _ => .bad
 | _ => .bad
def RV.wp (r : RV) (K : SV → Prop) : Prop := match r with
 | .ok v => v.force K
 | .ob q v => Ob q ∧ (q → v.force K)
 | .bad => False
def relV (old : Option SV) (v : SV) (K : SV → Prop) : Prop := match old with
 | none => K v
 | some x => match v, x with
   | .bool b, .lit c => Ob (b = c) ∧ K (.lit c)
   | v, x => subV v x ∧ K v
def putS (d : Tmp) (v : SV) : St → St
 | ⟨fr, stk, bx, rw, dep⟩ => ⟨(d, v) :: fr, stk, bx, rw, dep⟩
noncomputable def fill (τ : Tys) (all : List Oper) (p avO su : Nat) (old : List (Nat × SV)) : List Oper → List (Nat × Nat) → Nat → St → (Nat → St → Prop) → Prop
 | o :: os, (j, b) :: tab, av, s, K => match isR o, o.dst with
   | true, some d => match subM b av with
     | true => match inM j avO, inM j su with
       | true, true => (lkv old d).force fun v => forceN (addM j av) fun av => forceSt (putS d v s) fun s => fill τ all p avO su old os tab av s K
       | true, false => forceN (addM j av) fun av => guardO all o s (fun s => (evR τ s o).wp fun v => (lkv old d).force fun x => relV (some x) v fun v => forceSt (putS d v s) fun s => fill τ all p avO su old os tab av s K)
         fun s => (skipV (lkv old d)).force fun v => forceSt (putS d v s) fun s => fill τ all p avO su old os tab av s K
       | false, _ => forceN (addM j av) fun av => guardO all o s (fun s => (evR τ s o).wp fun v => forceSt (putS d v s) fun s => fill τ all p avO su old os tab av s K)
         fun s => forceSt (putS d (.tup []) s) fun s => fill τ all p avO su old os tab av s K
     | false => fill τ all p avO su old os tab av s K
   | true, none => False
   | false, d => match inM j p with
     | true => forceN (addM j av) fun av => match d with
       | some d => (lkv old d).force fun v => forceSt (putS d v s) fun s => fill τ all p avO su old os tab av s K
       | none => fill τ all p avO su old os tab av s K
     | false => fill τ all p avO su old os tab av s K
 | [], [], av, s, K => K av s
 | _, _, _, _, _ => False
def sureM : List (Nat × Nat) → Nat → Nat
 | [], m => m
 | (j, b) :: l, m => match inM j m with
   | true => forceN (Nat.lor m b) fun m => sureM l m
   | false => sureM l m
def candO (p av : Nat) (F : Nat → Oper → Prop) : List Oper → List (Nat × Nat) → Prop
 | o :: os, (j, b) :: tab => match isR o, inM j p, subM b av with
   | false, false, true => F j o ∧ candO p av F os tab
   | _, _, _ => candO p av F os tab
 | _, _ => True
def allW (p : Nat) : List Oper → List (Nat × Nat) → Bool
 | o :: os, (j, _) :: tab => match isR o, inM j p with
   | false, false => false
   | _, _ => allW p os tab
 | _, _ => true
def pop1 : St → St
 | ⟨fr, _ :: stk, bx, rw, dep⟩ => ⟨fr, stk, bx, rw, dep⟩
 | s => s
noncomputable def refill (τ : Tys) (all : List Oper) (tab : List (Nat × Nat)) (p avO su : Nat) (K : Nat → St → Prop) : St → Prop
 | ⟨old, fr0 :: stk, bx, rw, dep⟩ => fill τ all p avO su old all tab 0 ⟨fr0, old :: fr0 :: stk, bx, rw, dep⟩ fun av s => K av (pop1 s)
 | _ => False
noncomputable def wpNode (τ : Tys) (C : Ctx) (all : List Oper) (tab : List (Nat × Nat)) : Nat → Nat → Nat → St → (St → Prop) → Prop
 | 0, _, _, _, _ => False
 | f + 1, p, av, s, K => match allW p all tab with
   | true => K (pop1 s)
   | false => candO p av (fun j o => forceN (addM j p) fun p' => forceN (sureM tab.reverse p') fun su =>
      guardO all o s (fun s => stepW τ C o s fun s => refill τ all tab p' av su (fun av s => wpNode τ C all tab f p' av s K) s)
       fun s => refill τ all tab p' av su (fun av s => wpNode τ C all tab f p' av s K) (skipO o.dst s)) all tab
noncomputable def wpDraw (τ : Tys) (C : Ctx) (all : List Oper) (tab : List (Nat × Nat)) (K : St → Prop) : St → Prop
 | ⟨fr, stk, bx, rw, dep⟩ => refill τ all tab 0 0 0 (fun av s => wpNode τ C all tab (all.length + 1) 0 av s K) ⟨[], fr :: stk, bx, rw, dep⟩
noncomputable def fill2 (τ : Tys) (all : List Oper) (su : Nat) : List Oper → List (Nat × Nat) → Nat → St → (Nat → St → Prop) → Prop
 | o :: os, (j, b) :: tab, av, s, K => match isR o, o.dst with
   | true, some d => match inM j av with
     | true => match inM j su with
       | true => fill2 τ all su os tab av s K
       | false => guardO all o s (fun s => (evR τ s o).wp fun v => (lkv s.fr d).force fun x => relV (some x) v fun v => forceSt (putS d v s) fun s => fill2 τ all su os tab av s K)
         fun s => (skipV (lkv s.fr d)).force fun v => forceSt (putS d v s) fun s => fill2 τ all su os tab av s K
     | false => match subM b av with
       | true => forceN (addM j av) fun av => guardO all o s (fun s => (evR τ s o).wp fun v => forceSt (putS d v s) fun s => fill2 τ all su os tab av s K)
         fun s => forceSt (putS d (.tup []) s) fun s => fill2 τ all su os tab av s K
       | false => fill2 τ all su os tab av s K
   | true, none => False
   | false, _ => fill2 τ all su os tab av s K
 | [], [], av, s, K => K av s
 | _, _, _, _, _ => False
noncomputable def stepF (τ : Tys) (all : List Oper) (su : Nat) (o : Oper) (j b av : Nat) (s : St) (K : Nat → St → Prop) : Prop := match isR o, o.dst with
  | true, some d => match inM j av with
    | true => match inM j su with
      | true => K av s
      | false => guardO all o s (fun s => (evR τ s o).wp fun v => (lkv s.fr d).force fun x => relV (some x) v fun v => forceSt (putS d v s) fun s => K av s)
        fun s => (skipV (lkv s.fr d)).force fun v => forceSt (putS d v s) fun s => K av s
    | false => match subM b av with
      | true => forceN (addM j av) fun av => guardO all o s (fun s => (evR τ s o).wp fun v => forceSt (putS d v s) fun s => K av s)
        fun s => forceSt (putS d (.tup []) s) fun s => K av s
      | false => K av s
  | true, none => False
  | false, _ => K av s
structure Fill2 (τ : Tys) (all : List Oper) (su : Nat) (os : List Oper) (tab : List (Nat × Nat)) (av : Nat) (s : St) (K : Nat → St → Prop) : Prop where
 out : fill2 τ all su os tab av s K
theorem FlS {τ : Tys} {all : List Oper} {su : Nat} {o : Oper} {os : List Oper} {j b : Nat} {tab : List (Nat × Nat)} {av : Nat} {s : St} {K : Nat → St → Prop}
  (h : ∀ Kf : Nat → St → Prop, (∀ av s, Fill2 τ all su os tab av s K → Kf av s) → stepF τ all su o j b av s Kf) : Fill2 τ all su (o :: os) ((j, b) :: tab) av s K := by
 refine ⟨?_⟩
 rw [fill2]
 exact h (fun av s => fill2 τ all su os tab av s K) fun _ _ h => h.out
theorem FlN {τ : Tys} {all : List Oper} {su : Nat} {av : Nat} {s : St} {K : Nat → St → Prop} (h : K av s) : Fill2 τ all su [] [] av s K := by
 refine ⟨?_⟩
 rw [fill2]
 exact h
noncomputable def wpNode2 (τ : Tys) (C : Ctx) (all : List Oper) (tab : List (Nat × Nat)) : Nat → Nat → Nat → St → (St → Prop) → Prop
 | 0, _, _, _, _ => False
 | f + 1, p, av, s, K => match allW p all tab with
   | true => K s
   | false => candO p av (fun j o => forceN (addM j p) fun p' => forceN (sureM tab.reverse p') fun su => forceN (addM j av) fun av' =>
      guardO all o s (fun s => stepW τ C o s fun s => fill2 τ all su all tab av' s (fun av s => wpNode2 τ C all tab f p' av s K))
       fun s => forceSt (skipO o.dst s) fun s => fill2 τ all su all tab av' s (fun av s => wpNode2 τ C all tab f p' av s K)) all tab
noncomputable def stepN (τ : Tys) (C : Ctx) (all : List Oper) (tab : List (Nat × Nat)) (p av : Nat) (s : St) (K : St → Prop) (Kg : Nat → Nat → Nat → St → Prop) : Prop := match allW p all tab with
  | true => K s
  | false => candO p av (fun j o => forceN (addM j p) fun p' => forceN (sureM tab.reverse p') fun su => forceN (addM j av) fun av' =>
     guardO all o s (fun s => stepW τ C o s fun s => Kg p' su av' s)
      fun s => forceSt (skipO o.dst s) fun s => Kg p' su av' s) all tab
structure Node2 (τ : Tys) (C : Ctx) (all : List Oper) (tab : List (Nat × Nat)) (f p av : Nat) (s : St) (K : St → Prop) : Prop where
 out : wpNode2 τ C all tab f p av s K
theorem NdS {τ : Tys} {C : Ctx} {all : List Oper} {tab : List (Nat × Nat)} {f p av : Nat} {s : St} {K : St → Prop}
  (h : ∀ Kg : Nat → Nat → Nat → St → Prop, (∀ p' su av' s, Fill2 τ all su all tab av' s (fun av s => Node2 τ C all tab f p' av s K) → Kg p' su av' s) → stepN τ C all tab p av s K Kg) : Node2 τ C all tab (f + 1) p av s K := by
 refine ⟨?_⟩
 rw [wpNode2]
 exact h (fun p' su av' s => fill2 τ all su all tab av' s (fun av s => wpNode2 τ C all tab f p' av s K)) fun p' su av' s h => by
  have h := h.out
  rw [show (fun av s => Node2 τ C all tab f p' av s K) = fun av s => wpNode2 τ C all tab f p' av s K from funext fun av => funext fun s => propext ⟨fun h => h.out, fun h => ⟨h⟩⟩] at h
  exact h
noncomputable def wpDraw2 (τ : Tys) (C : Ctx) (all : List Oper) (tab : List (Nat × Nat)) (K : St → Prop) (s : St) : Prop := match all with
 | o :: os => forceN (os.length + 2) fun f => Fill2 τ (o :: os) 0 (o :: os) tab 0 s fun av s => Node2 τ C (o :: os) tab f 0 av s K
 | [] => False
def bindsB (e : Edge) : Bool := match e.ground with
 | .textOnly _ => false
 | .gcOnly _ => false
 | _ => true
def edgeM : List Edge → Nat → Nat
 | [], m => m
 | e :: l, m => match bindsB e with
   | true => edgeM l (addM e.on m)
   | false => edgeM l m
def tmpsOf : List Operand → List Nat
 | [] => []
 | .tmp t :: l => t :: tmpsOf l
 | _ :: l => tmpsOf l
def looks (all : List Oper) (o : Oper) : List Nat := match o.guard with
 | some (g, _) => match gslot all g with
   | some t => t :: tmpsOf o.op.operands.toList
   | none => tmpsOf o.op.operands.toList
 | none => tmpsOf o.op.operands.toList
def tabOk : List Oper → List (Nat × Nat) → Nat → Bool
 | [], [], _ => true
 | o :: os, (j, b) :: tab, n => Nat.beq j n && Nat.beq b (edgeM o.after.toList 0) && (o.after.toList.all fun e => Nat.blt e.on n || !bindsB e) && tabOk os tab (n + 1)
 | _, _, _ => false
def pairOk (all : List Oper) (j b : Nat) (o : Oper) (i c : Nat) (q : Oper) : Bool := match q.dst with
 | none => true
 | some t => match Nat.beq i j with
   | true => true
   | false => !(match o.dst with
      | some d => Nat.beq d t
      | none => false) && (!memT t (looks all o) || (inM i b || inM j c))
where memT (t : Nat) : List Nat → Bool
 | [] => false
 | x :: l => Nat.beq x t || memT t l
def pairsOk (all : List Oper) (tab : List (Nat × Nat)) (j b : Nat) (o : Oper) : List Oper → List (Nat × Nat) → Bool
 | q :: qs, (i, c) :: t => pairOk all j b o i c q && pairsOk all tab j b o qs t
 | _, _ => true
def allPairs (all : List Oper) (tab : List (Nat × Nat)) : List Oper → List (Nat × Nat) → Bool
 | o :: os, (j, b) :: t => pairsOk all tab j b o all tab && allPairs all tab os t
 | _, _ => true
def noSel : List Oper → Bool
 | [] => true
 | o :: l => match o.op with
   | .select _ _ => false
   | _ => noSel l
def slotsM : List Nat → Nat
 | [] => 0
 | t :: l => addM t (slotsM l)
def pairB (j b m : Nat) (od : Option Tmp) (i c : Nat) (qd : Option Tmp) : Bool := match qd with
 | none => true
 | some t => match Nat.beq i j with
   | true => true
   | false => !(match od with
      | some d => Nat.beq d t
      | none => false) && (!inM t m || (inM i b || inM j c))
def pairsB (j b m : Nat) (od : Option Tmp) : List Oper → List (Nat × Nat) → Bool
 | q :: qs, (i, c) :: t => match pairB j b m od i c q.dst with
   | true => pairsB j b m od qs t
   | false => false
 | _, _ => true
def allPairsB (all : List Oper) (tab : List (Nat × Nat)) : List Oper → List (Nat × Nat) → Bool
 | o :: os, (j, b) :: t => forceN (slotsM (looks all o)) fun m => match pairsB j b m o.dst all tab with
   | true => allPairsB all tab os t
   | false => false
 | _, _ => true
def overB (b m : Nat) : List Oper → List (Nat × Nat) → Bool
 | q :: qs, (i, _) :: t => match q.dst with
   | none => overB b m qs t
   | some d => match !inM d m || inM i b with
     | true => overB b m qs t
     | false => false
 | _, _ => true
def allOver (all : List Oper) (tab : List (Nat × Nat)) : List Oper → List (Nat × Nat) → Bool
 | o :: os, (_, b) :: t => forceN (slotsM (looks all o)) fun m => match overB b m all tab with
   | true => allOver all tab os t
   | false => false
 | _, _ => true
def noAsg : List Oper → Bool
 | [] => true
 | o :: l => match o.op with
   | .assign _ => false
   | _ => noAsg l
def forceSp {α β : Type} : List α → (List α → β) → β
 | [], K => K []
 | x :: l, K => forceSp l fun l' => K (x :: l')
theorem forceSp_eq {α β : Type} (l : List α) (K : List α → β) : forceSp l K = K l := by
 induction l generalizing K with
 | nil => rfl
 | cons x l ih => rw [forceSp, ih]
def growSel (all : List Oper) : Bool := match noAsg all with
 | true => true
 | false => Nat.blt 24 all.length
def drawOk (all : List Oper) (tab : List (Nat × Nat)) : Bool := tabOk all tab 0 && allPairsB all tab all tab && noSel all
end Go.Proofs.YtjjpakdlkjaigaaGreat

/- A symbolic executor for loaded Go code: what a body has to meet. Definitions alone. -/
namespace Go.Proofs.YtjjpakdlkjaigaaGreat
open Go.RowKit
inductive Ex where
 | normal
 | exit (id : Nat)
 | ret
abbrev KC := Ex → St → Prop
noncomputable def wpOpsL (τ : Tys) (C : Ctx) (all : List Oper) : List Oper → St → (St → Prop) → Prop
 | [], s, K => K s
 | o :: os, s, K => guardO all o s (fun s => stepW τ C o s fun s => wpOpsL τ C all os s K) fun s => wpOpsL τ C all os (skipO o.dst s) K
def subL : List SV → List SV → Prop
 | [], [] => True
 | x :: l, y :: l' => subV x y ∧ subL l l'
 | _, _ => False
def subFr (f : List (Nat × SV)) : List (Nat × SV) → Prop
 | [] => True
 | (t, v) :: l => subV v (lkv f t) ∧ subFr f l
def subBx (b : List (Nat × (TypeId × List SV))) : List (Nat × (TypeId × List SV)) → Prop
 | [] => True
 | (k, (T, cs)) :: l => (match lk b k with
   | some (T', cs') => T' = T ∧ subL cs cs'
   | none => False) ∧ subBx b l
def subE : Ent → Ent → Prop
 | .own r', .own r => r = r'
 | x, y => x = y
def subRw (R : List (Nat × Ent)) : List (Nat × Ent) → Prop
 | [] => True
 | (k, e) :: l => (match lk R k with
   | some e' => subE e e'
   | none => False) ∧ subRw R l
def subStk : List (List (Nat × SV)) → List (List (Nat × SV)) → Prop
 | [], [] => True
 | f :: l, f' :: l' => f = f' ∧ subStk l l'
 | _, _ => False
def St.sub : St → St → Prop
 | ⟨fr, stk, bx, rw, dep⟩, ⟨fr', stk', bx', rw', dep'⟩ => match Nat.beq dep dep' with
   | true => subStk stk stk' ∧ subFr fr' fr ∧ subBx bx' bx ∧ subRw rw' rw
   | false => False
def memN (n : Nat) : List Nat → Bool
 | [] => false
 | k :: l => match Nat.beq n k with
   | true => true
   | false => memN n l
def cutF (W : List Nat) : List (Nat × SV) → List (Nat × SV)
 | [] => []
 | (t, v) :: l => match memN t W with
   | true => cutF W l
   | false => (t, v) :: cutF (t :: W) l
def cutK {α : Type} (W : List Nat) : List (Nat × α) → List (Nat × α)
 | [] => []
 | (k, v) :: l => match memN k W with
   | true => cutK W l
   | false => (k, v) :: cutK (k :: W) l
structure Inv where
 σ : Type
 W : List Nat
 X : List Nat
 ok : σ → Prop
 st : σ → St → St
 mu : σ → Nat
 fl : Option (List Nat)
 ad : List (Nat × (Nat × Nat))
def lkI : List (Nat × Inv) → Nat → Option Inv
 | [], _ => none
 | (k, v) :: l, t => match Nat.beq k t with
   | true => some v
   | false => lkI l t
def entry (W X : List Nat) (dep : Nat) : St → St
 | ⟨fr, stk, bx, rw, d⟩ => ⟨cutF W fr, stk, cutK (W.map (· + dep) ++ X) bx, cutK (W.map (· + dep) ++ X) rw, d⟩
def Code.first : Code → Nat
 | .region id _ _ => id
 | .seq a _ => Code.first a
 | .cond _ a _ => Code.first a
 | .block _ b => Code.first b
 | .loop b => Code.first b
 | .scope b => Code.first b
 | _ => 0
structure SubJ (T s : St) : Prop where
 out : St.sub T s
structure DrawJ (p : (St → Prop) → Prop) (K : St → Prop) : Prop where
 out : p K ∨ ∃ T, p (fun s => SubJ T s) ∧ K T
def noGuard : List Oper → Bool
 | [] => true
 | o :: l => match o.guard with
   | none => noGuard l
   | some _ => false
abbrev Draws := List (Nat × List (Nat × Nat))
def ownKeys (keep : List Nat) : List (Nat × Ent) → List SV
 | [] => []
 | (k, _) :: l => match memN k keep with
   | true => ownKeys keep l
   | false => .own k :: ownKeys keep l
def dem (e : Ent) : Ent := match e.row with
 | (t, r) => .shared t r
def demoteM (keep : List Nat) : List (Nat × Ent) → List (Nat × Ent)
 | [] => []
 | (k, e) :: l => match memN k keep with
   | true => (k, e) :: demoteM keep l
   | false => (k, dem e) :: demoteM keep l
def flat0 (R : List (Nat × Ent)) : SV → SV
 | .own k => match lk R k with
   | some (.shared t r) => .row t r
   | _ => .own k
 | v => v
def flatL (R : List (Nat × Ent)) : List SV → List SV
 | [] => []
 | v :: l => flat0 R v :: flatL R l
def flat1 (R : List (Nat × Ent)) : SV → SV
 | .agg cs => .agg (flatL R cs)
 | v => flat0 R v
def flatF (R : List (Nat × Ent)) : List (Nat × SV) → List (Nat × SV)
 | [] => []
 | (t, v) :: l => (t, flat1 R v) :: flatF R l
def flatB (R : List (Nat × Ent)) : List (Nat × (TypeId × List SV)) → List (Nat × (TypeId × List SV))
 | [] => []
 | (k, (T, cs)) :: l => (k, (T, flatL R cs)) :: flatB R l
def flatS0 (keep : List Nat) : St → St
 | ⟨fr, stk, bx, rw, dep⟩ => ⟨flatF (demoteM keep rw) fr, stk, flatB (demoteM keep rw) bx, demoteM keep rw, dep⟩
def ag0 : SV → SV
 | .row _ r => .row .old r
 | .pre _ r n => .pre .old r n
 | .pt _ cs => .pt .old cs
 | .own _ => .junk
 | .oel _ _ _ => .junk
 | .agg _ => .junk
 | .tup _ => .junk
 | .clo _ _ _ => .junk
 | v => v
def agL : List SV → List SV
 | [] => []
 | v :: l => ag0 v :: agL l
def ag1 : SV → SV
 | .agg cs => .agg (agL cs)
 | v => ag0 v
def agF : List (Nat × SV) → List (Nat × SV)
 | [] => []
 | (t, v) :: l => (t, ag1 v) :: agF l
def agS : List (List (Nat × SV)) → List (List (Nat × SV))
 | [] => []
 | f :: l => agF f :: agS l
def agB : List (Nat × (TypeId × List SV)) → List (Nat × (TypeId × List SV))
 | [] => []
 | (k, (T, cs)) :: l => (k, (T, agL cs)) :: agB l
def ageSt : St → St
 | ⟨fr, stk, bx, _, dep⟩ => ⟨agF fr, agS stk, agB bx, [], dep⟩
def flatSt (keep : List Nat) (s : St) : St := match memN 999999999 keep with
 | true => ageSt (flatS0 [] s)
 | false => flatS0 keep s
def adopt1 (t k kd : Nat) : St → St
 | ⟨fr, stk, bx, rw, dep⟩ => match lkv fr t with
   | .nilS r => match Nat.beq r.kd kd, Nat.blt kd 12, St.has (own0 (dep + k)) ⟨fr, stk, bx, rw, dep⟩ with
     | true, true, false => ⟨(t, .own (dep + k)) :: fr, stk, bx, upd rw (dep + k) (.own (mkEmpty kd)), dep⟩
     | _, _, _ => ⟨fr, stk, bx, rw, dep⟩
   | _ => ⟨fr, stk, bx, rw, dep⟩
def adoptSt : List (Nat × (Nat × Nat)) → St → St
 | [], s => s
 | (t, (k, kd)) :: l, s => adoptSt l (adopt1 t k kd s)
def keepOf : Option (List Nat) → List Nat
 | some l => l
 | none => []
def flatC0 {α : Type} (keep : List Nat) (s : St) (K : St → α) : α := match s with
 | ⟨fr, stk, bx, rw, dep⟩ => forceR rw fun rw => forceR (demoteM keep rw) fun R => forceF (flatF R fr) fun fr => forceB (flatB R bx) fun bx => K ⟨fr, stk, bx, R, dep⟩
def ageC {α : Type} (s : St) (K : St → α) : α := match s with
 | ⟨fr, stk, bx, _, dep⟩ => forceF (agF fr) fun fr => forceB (agB bx) fun bx => K ⟨fr, agS stk, bx, [], dep⟩
def flatC {α : Type} (keep : List Nat) (s : St) (K : St → α) : α := match memN 999999999 keep with
 | true => flatC0 [] s fun s => ageC s K
 | false => flatC0 keep s K
noncomputable def wpC (τ : Tys) (C : Ctx) (D : Draws) (L : List (Nat × Inv)) : Code → St → KC → Prop
 | .skip, s, K => K .normal s
 | .region id ops true, s, K => match lk D id with
   | some tab => match noGuard ops.toList with
     | true => DrawJ (fun K => wpDraw τ C ops.toList tab K s) (K .normal)
     | false => match growSel ops.toList with
       | true => forceSp ops.toList fun l => wpDraw2 τ C l tab (K .normal) s
       | false => wpDraw τ C ops.toList tab (K .normal) s
   | none => False
 | .region _ ops false, s, K => wpOpsL τ C ops.toList ops.toList s (K .normal)
 | .seq a b, s, K => match lkI L (1000000 + Code.first b) with
   | some ⟨σ, W, X, ok, st, _, fl, _⟩ => flatC (keepOf fl) (entry W X s.dep s) fun e0 => (wpC τ C D L a s fun e s' => match e with
     | .normal => ∃ g : σ, ok g ∧ flatC (keepOf fl) s' fun s1 => St.sub (st g e0) s1
     | e => K e s') ∧ ∀ g : σ, ok g → forceAll (st g e0) fun s0 => Stop (wpC τ C D L b s0 K)
   | none => wpC τ C D L a s fun e s => match e with
     | .normal => wpC τ C D L b s K
     | e => K e s
 | .cond c a b, s, K => match s.get c with
   | .lit true => wpC τ C D L a s K
   | .lit false => wpC τ C D L b s K
   | .bool t => match c with
     | .tmp n => (t = true → wpC τ C D L a (setLit n true s) K) ∧ (t = false → wpC τ C D L b (setLit n false s) K)
     | _ => (t = true → wpC τ C D L a s K) ∧ (t = false → wpC τ C D L b s K)
   | _ => False
 | .block id b, s, K => wpC τ C D L b s fun e s => match e with
   | .exit i => match Nat.beq i id with
     | true => K .normal s
     | false => K (.exit i) s
   | e => K e s
 | .loop b, s, K => match lkI L (Code.first b) with
   | some ⟨σ, W, X, ok, st, mu, none, ad⟩ => (∃ g : σ, ok g ∧ St.sub (st g (entry W X s.dep s)) (adoptSt ad s)) ∧ ∀ g : σ, ok g → forceAll (st g (entry W X s.dep s)) fun s0 => Stop (wpC τ C D L b s0 fun e s' => match e with
     | .normal => ∃ g' : σ, ok g' ∧ mu g' < mu g ∧ St.sub (st g' (entry W X s.dep s)) s'
     | e => K e s')
   | some ⟨σ, W, X, ok, st, mu, some keep, ad⟩ => flatC keep (entry W X s.dep s) fun e0 => (∃ g : σ, ok g ∧ flatC keep (adoptSt ad s) fun s1 => St.sub (st g e0) s1) ∧ ∀ g : σ, ok g → forceAll (st g e0) fun s0 => Stop (wpC τ C D L b s0 fun e s' => match e with
     | .normal => ∃ g' : σ, ok g' ∧ mu g' < mu g ∧ flatC keep s' fun s1 => St.sub (st g' e0) s1
     | e => K e s')
   | none => False
 | .exit id, s, K => K (.exit id) s
 | .ret, s, K => K .ret s
 | _, _, _ => False
def SV.old0 : SV → SV
 | .row .any r => .row .old r
 | .pt .any cs => .pt .old cs
 | v => v
def oldL : List SV → List SV
 | [] => []
 | v :: l => v.old0 :: oldL l
def SV.old : SV → SV
 | .agg cs => .agg (oldL cs)
 | v => v.old0
def enterF : List SV → Nat → List (Nat × SV)
 | [], _ => []
 | v :: l, n => (n, v.old) :: enterF l (n + 1)
def startSt (args : List SV) : St := ⟨enterF args 0, [], [], [], 0⟩
def matchV (R : List (Nat × Ent)) (rows : List Rw) : SV → SV → Prop
 | .int k n, .int k' n' => k = k' ∧ n = n'
 | .bool b, .bool c => b = c
 | .lit b, .bool c => b = c
 | .str b, .str c => b = c
 | .own k, .own i => match lk R k, nth rows i with
   | some (.own r), some r' => r = r'
   | some (.part lo r), some r' => r = r' ∧ r.len ≤ lo
   | _, _ => False
 | .nilS r, .own i => match nth rows i with
   | some r' => r = r'
   | none => False
 | .row .new r, .row .new r' => r = r'
 | .nilS r, .row .new r' => r = r'
 | .own k, .row .new r' => match lk R k with
   | some (.shared .new r) => r = r'
   | _ => False
 | _, _ => False
def matchL (p : SV → SV → Prop) : List SV → List SV → Prop
 | [], [] => True
 | x :: l, y :: l' => p x y ∧ matchL p l l'
 | _, _ => False
def matchA (R : List (Nat × Ent)) (rows : List Rw) : SV → SV → Prop
 | .agg cs, .agg cs' => matchL (matchV R rows) cs cs'
 | x, y => matchV R rows x y
def matchT (R : List (Nat × Ent)) (rows : List Rw) : SV → SV → Prop
 | .tup cs, .tup cs' => matchL (matchA R rows) cs cs'
 | x, y => matchA R rows x y
def pairV : SV → SV → List (Nat × Option Nat)
 | .own k, .own i => [(i, some k)]
 | .nilS _, .own i => [(i, none)]
 | _, _ => []
def pairL (p : SV → SV → List (Nat × Option Nat)) : List SV → List SV → List (Nat × Option Nat)
 | x :: l, y :: l' => p x y ++ pairL p l l'
 | _, _ => []
def pairA : SV → SV → List (Nat × Option Nat)
 | .agg cs, .agg cs' => pairL pairV cs cs'
 | x, y => pairV x y
def pairT : SV → SV → List (Nat × Option Nat)
 | .tup cs, .tup cs' => pairL pairA cs cs'
 | x, y => pairA x y
def soleK (i k : Nat) : List (Nat × Option Nat) → Bool
 | [] => true
 | (j, some k') :: l => match Nat.beq j i, Nat.beq k k' with
   | true, true => soleK i k l
   | false, false => soleK i k l
   | _, _ => false
 | (j, none) :: l => match Nat.beq j i with
   | true => false
   | false => soleK i k l
def soleAll : List (Nat × Option Nat) → List (Nat × Option Nat) → Bool
 | _, [] => true
 | A, (i, some k) :: l => match soleK i k A with
   | true => soleAll A l
   | false => false
 | A, (_, none) :: l => soleAll A l
def coverAll (A : List (Nat × Option Nat)) : Nat → Bool
 | 0 => true
 | n + 1 => match lk A n with
   | some _ => coverAll A n
   | none => false
def resVals (τ : Tys) (s : St) : List ResultVar → List SV → (List SV → Prop) → Prop
 | [], acc, K => K acc.reverse
 | .tmp t :: l, acc, K => (lkv s.fr t).force fun v => resVals τ s l (v :: acc) K
 | .cell a T :: l, acc, K => match evLoad τ s T (lkv s.fr a) with
   | .ok v => v.force fun v => resVals τ s l (v :: acc) K
   | _ => False
def notTup : List SV → Bool
 | [] => true
 | .tup _ :: _ => false
 | _ :: l => notTup l
def oneOf : List SV → SV
 | [v] => v
 | vs => .tup vs
def readV : SV → SV → List SV
 | .own k, .row _ _ => [.own k]
 | _, _ => []
def readL (p : SV → SV → List SV) : List SV → List SV → List SV
 | x :: l, y :: l' => p x y ++ readL p l l'
 | _, _ => []
def readA : SV → SV → List SV
 | .agg cs, .agg cs' => readL readV cs cs'
 | x, y => readV x y
def readT : SV → SV → List SV
 | .tup cs, .tup cs' => readL readA cs cs'
 | x, y => readA x y
def retK (τ : Tys) (res : List ResultVar) (v : SV) (rows : List Rw) : KC := fun e s => match e with
 | .exit _ => False
 | _ => resVals τ s res [] fun vs => (oneOf vs).force fun x => match soleAll (pairT x v) (pairT x v), coverAll (pairT x v) rows.length with
   | true, true => forceR (demoteL (readT x v) s.rows) fun R => matchT R rows x v
   | _, _ => False
def Out.vc (r : Out) (p : SV → List Rw → Prop) : Prop := match r with
 | .ok v rows => p v rows
 | .ob q v rows => q → p v rows
 | .bad => True
def Rw.deep : Rw → Prop
 | .ints l => l.length * 8 ≤ 140737488355328
 | .bytes l => l.length * 1 ≤ 140737488355328
 | .strs l => l.length * 16 ≤ 140737488355328
 | .peers l => l.length * 16 ≤ 140737488355328
 | .items l => l.length * 40 ≤ 140737488355328
 | .tolds l => l.length * 24 ≤ 140737488355328
 | .cuts l => l.length * 16 ≤ 140737488355328
 | .msgs l => l.length * 104 ≤ 140737488355328 ∧ ∀ m ∈ l, m.ids.length * 8 ≤ 140737488355328
 | .nodes l => l.length * 112 ≤ 140737488355328 ∧ ∀ n ∈ l, n.view.peers.length * 16 ≤ 140737488355328 ∧ n.view.passive.length * 8 ≤ 140737488355328 ∧ n.items.length * 40 ≤ 140737488355328 ∧ n.log.length * 24 ≤ 140737488355328
 | .acts l => l.length * 72 ≤ 140737488355328 ∧ ∀ m ∈ l, m.ids.length * 8 ≤ 140737488355328
 | .intss l => l.length * 24 ≤ 140737488355328 ∧ ∀ m ∈ l, m.length * 8 ≤ 140737488355328
 | .bools l => l.length * 1 ≤ 140737488355328
def fits0 : SV → Prop
 | .row _ r => r.deep
 | _ => True
def fitsL : List SV → Prop
 | [] => True
 | x :: l => fits0 x ∧ fitsL l
def fitsV : SV → Prop
 | .pt _ cs => fitsL cs
 | .agg cs => fitsL cs
 | x => fits0 x
def argFits : List SV → Prop
 | [] => True
 | x :: l => fitsV x ∧ argFits l
def dstOk (n : Nat) : List Oper → Bool
 | [] => true
 | o :: l => match o.dst with
   | some d => match Nat.blt d n with
     | true => dstOk n l
     | false => false
   | none => dstOk n l
def growOk (all : List Oper) (tab : List (Nat × Nat)) : Bool := match noGuard all, growSel all with
 | false, true => allOver all tab all tab
 | _, _ => true
def codeOk (D : Draws) (n : Nat) : Code → Bool
 | .region _ ops false => dstOk n ops.toList
 | .region id ops true => dstOk n ops.toList && match lk D id with
   | some tab => drawOk ops.toList tab && growOk ops.toList tab
   | none => true
 | .seq a b => match codeOk D n a with
   | true => codeOk D n b
   | false => false
 | .cond _ a b => match codeOk D n a with
   | true => codeOk D n b
   | false => false
 | .block _ b => codeOk D n b
 | .loop b => codeOk D n b
 | .scope b => codeOk D n b
 | _ => true
end Go.Proofs.YtjjpakdlkjaigaaGreat

/- A symbolic executor for loaded Go code: a body that meets what it has to is what the contract says. -/
namespace Go.Proofs.YtjjpakdlkjaigaaGreat
open Go.RowKit
section
variable {P : Program} {τ : Tys} {w0 : World} {base M nn : Nat} {aS : List (Array Value)}
theorem subV_cases {v x : SV} (h : subV v x) : v = .junk ∨ v = x ∨ (∃ b, v = .bool b ∧ x = .lit b) ∨ (∃ t r, v = .row .any r ∧ x = .row t r) ∨ ∃ t r, v = .row t r ∧ x = .nilS r := by
 unfold subV at h
 split at h
 · exact .inl rfl
 · subst h; exact .inr (.inr (.inl ⟨_, rfl, rfl⟩))
 · subst h; exact .inr (.inl rfl)
 · subst h; exact .inr (.inl rfl)
 · obtain ⟨rfl, rfl⟩ := h; exact .inr (.inl rfl)
 · subst h; exact .inr (.inl rfl)
 · subst h; exact .inr (.inr (.inr (.inl ⟨_, _, rfl, rfl⟩)))
 · subst h; exact .inr (.inl rfl)
 · subst h; exact .inr (.inl rfl)
 · subst h; exact .inr (.inr (.inr (.inr ⟨_, _, rfl, rfl⟩)))
 · exact .inr (.inl h)
def RwLe (R' R : List (Nat × Ent)) : Prop := ∀ k e, lk R' k = some e → lk R k = some e
theorem vd0.less {E : Env} {R R' : List (Nat × Ent)} {w : World} (hR : RwLe R' R) {x : SV} {u : Value} (h : vd0 E R w x u) : vd0 E R' w x u := by
 cases x with
 | own k =>
   simp only [vd0] at h ⊢
   cases hk : lk R' k with
   | none => trivial
   | some e => rw [hR k e hk] at h; exact h
 | oel k i off =>
   simp only [vd0] at h ⊢
   cases hk : lk R' k with
   | none => trivial
   | some e => rw [hR k e hk] at h; exact h
 | _ => exact h
theorem vdf.less {E : Env} {R R' : List (Nat × Ent)} {w : World} (hR : RwLe R' R) {x : SV} {u : Value} (h : vdf E R w x u) : vdf E R' w x u := by
 cases x with
 | agg cs => obtain ⟨us, rfl, hl⟩ := h; exact ⟨us, rfl, hl.mono fun _ _ _ h => vd0.less hR h⟩
 | own k => exact vd0.less (x := .own k) hR h
 | oel k i off => exact vd0.less (w := w) (x := .oel k i off) hR h
 | _ => exact h
theorem vd1.less {E : Env} {R R' : List (Nat × Ent)} {w : World} (hR : RwLe R' R) {x : SV} {u : Value} (h : vd1 E R w x u) : vd1 E R' w x u := by
 cases x with
 | clo f b c => obtain ⟨us, vs, rfl, h1, h2⟩ := h; exact ⟨us, vs, rfl, h1.mono fun _ _ _ h => vdf.less hR h, h2.mono fun _ _ _ h => vd0.less hR h⟩
 | own k => exact vd0.less (x := .own k) hR h
 | oel k i off => exact vd0.less (w := w) (x := .oel k i off) hR h
 | _ => exact h
theorem vd2.less {E : Env} {R R' : List (Nat × Ent)} {w : World} (hR : RwLe R' R) {x : SV} {u : Value} (h : vd2 E R w x u) : vd2 E R' w x u := by
 cases x with
 | agg cs => obtain ⟨us, rfl, hl⟩ := h; exact ⟨us, rfl, hl.mono fun _ _ _ h => vd1.less hR h⟩
 | clo f b c => exact vd1.less (x := .clo f b c) hR h
 | own k => exact vd0.less (x := .own k) hR h
 | oel k i off => exact vd0.less (w := w) (x := .oel k i off) hR h
 | _ => exact h
theorem vd3.less {E : Env} {R R' : List (Nat × Ent)} {w : World} (hR : RwLe R' R) {x : SV} {u : Value} (h : vd3 E R w x u) : vd3 E R' w x u := by
 cases x with
 | tup cs => obtain ⟨us, rfl, hl⟩ := h; exact ⟨us, rfl, hl.mono fun _ _ _ h => vd2.less hR h⟩
 | agg cs => exact vd2.less (x := .agg cs) hR h
 | clo f b c => exact vd1.less (x := .clo f b c) hR h
 | own k => exact vd0.less (x := .own k) hR h
 | oel k i off => exact vd0.less (w := w) (x := .oel k i off) hR h
 | _ => exact h
theorem sub_vd3 {E : Env} {R R' : List (Nat × Ent)} {w : World} (hR : RwLe R' R) {v x : SV} {u : Value} (hs : subV v x) (h : vd3 E R w x u) : vd3 E R' w v u := by
 rcases subV_cases hs with rfl | rfl | ⟨b, rfl, rfl⟩ | ⟨t, r, rfl, rfl⟩ | ⟨t, r, rfl, rfl⟩
 · trivial
 · exact h.less hR
 · exact h
 · exact RowDen.any h
 · obtain ⟨rfl, h0⟩ := h; exact empty_row h0 _
theorem sub_vd1 {E : Env} {R R' : List (Nat × Ent)} {w : World} (hR : RwLe R' R) {v x : SV} {u : Value} (hs : subV v x) (h : vd1 E R w x u) : vd1 E R' w v u := by
 rcases subV_cases hs with rfl | rfl | ⟨b, rfl, rfl⟩ | ⟨t, r, rfl, rfl⟩ | ⟨t, r, rfl, rfl⟩
 · trivial
 · exact h.less hR
 · exact h
 · exact RowDen.any h
 · obtain ⟨rfl, h0⟩ := h; exact empty_row h0 _
theorem subFr_lkv {f : List (Nat × SV)} : ∀ {l : List (Nat × SV)}, subFr f l → ∀ t, subV (lkv l t) (lkv f t)
 | [], _, t => by unfold lkv; exact trivial
 | (k, v) :: l, h, t => by
   simp only [lkv]
   split
   · rename_i hk
     obtain rfl := Nat.eq_of_beq_eq_true hk
     exact h.1
   · exact subFr_lkv h.2 t
theorem subE_eq {e e' : Ent} (h : subE e e') : e = e' := by
 unfold subE at h
 split at h
 · subst h; rfl
 · exact h
theorem subRw_le {R : List (Nat × Ent)} : ∀ {l : List (Nat × Ent)}, subRw R l → RwLe l R
 | [], _, k, e, hk => by simp [lk] at hk
 | (j, e') :: l, h, k, e, hk => by
   simp only [lk] at hk
   split at hk
   · rename_i hj
     obtain rfl := Nat.eq_of_beq_eq_true hj
     simp at hk
     subst hk
     have := h.1
     split at this
     · rename_i e2 he2; rw [he2, subE_eq this]
     · exact this.elim
   · exact subRw_le h.2 k e hk
theorem subBx_lk {b : List (Nat × (TypeId × List SV))} : ∀ {l : List (Nat × (TypeId × List SV))}, subBx b l → ∀ k T cs, lk l k = some (T, cs) → ∃ cs', lk b k = some (T, cs') ∧ subL cs cs'
 | [], _, k, T, cs, hk => by simp [lk] at hk
 | (j, (T', cs')) :: l, h, k, T, cs, hk => by
   simp only [lk] at hk
   split at hk
   · rename_i hj
     obtain rfl := Nat.eq_of_beq_eq_true hj
     simp at hk
     obtain ⟨rfl, rfl⟩ := hk
     have := h.1
     split at this
     · rename_i T2 cs2 he2
       obtain ⟨rfl, h2⟩ := this
       exact ⟨cs2, he2, h2⟩
     · exact this.elim
   · exact subBx_lk h.2 k T cs hk
theorem subL_get : ∀ {cs cs' : List SV}, subL cs cs' → cs.length = cs'.length ∧ ∀ (j : Nat) x, cs[j]? = some x → ∃ y, cs'[j]? = some y ∧ subV x y
 | [], [], _ => ⟨rfl, fun j x h => by simp at h⟩
 | x :: l, y :: l', h => by
   obtain ⟨h1, h2⟩ := subL_get h.2
   refine ⟨by simp [h1], fun j z hz => ?_⟩
   cases j with
   | zero => simp at hz; subst hz; exact ⟨y, by simp, h.1⟩
   | succ j => simpa using h2 j z (by simpa using hz)
 | [], _ :: _, h => h.elim
 | _ :: _, [], h => h.elim
theorem subStk_eq : ∀ {k k' : List (List (Nat × SV))}, subStk k k' → k = k'
 | [], [], _ => rfl
 | f :: l, f' :: l', h => by rw [h.1, subStk_eq h.2]
 | [], _ :: _, h => h.elim
 | _ :: _, [], h => h.elim
theorem St.sub_spec {T s : St} (h : St.sub T s) : T.stk = s.stk ∧ T.dep = s.dep ∧ subFr s.fr T.fr ∧ subBx s.boxes T.boxes ∧ subRw s.rows T.rows := by
 obtain ⟨fr, stk, bx, rw, dep⟩ := T
 obtain ⟨fr', stk', bx', rw', dep'⟩ := s
 simp only [St.sub] at h
 split at h
 · rename_i hd
   exact ⟨subStk_eq h.1, Nat.eq_of_beq_eq_true hd, h.2⟩
 · exact h.elim
theorem Den.sub {E : Env} {T s : St} {bs : List (Array Value)} {w : World} (hs : St.sub T s) (h : Den τ w0 E s bs w) : Den τ w0 E T bs w := by
 obtain ⟨h1, h2, h3, h4, h5⟩ := St.sub_spec hs
 have hR := subRw_le h5
 refine ⟨h.below, h.bM, h.Mh, h.owb, ?_, ?_, ?_, ?_, ?_, ?_⟩
 · intro i f hf
   cases i with
   | zero =>
     simp at hf
     subst hf
     obtain ⟨b, hb, hd⟩ := h.fr 0 s.fr (by simp)
     exact ⟨b, hb, fun t => sub_vd3 hR (subFr_lkv h3 t) (hd t)⟩
   | succ i =>
     obtain ⟨b, hb, hd⟩ := h.fr (i + 1) f (by simpa [h1] using hf)
     exact ⟨b, hb, fun t => (hd t).less hR⟩
 · intro k T' cs hk
   obtain ⟨cs', hk', hl⟩ := subBx_lk h4 k T' cs hk
   obtain ⟨ho, us, hheap, hcs⟩ := h.box k T' cs' hk'
   obtain ⟨g1, g2⟩ := subL_get hl
   refine ⟨ho, us, hheap, g1.trans hcs.1, fun j x hx => ?_⟩
   obtain ⟨y, hy, hv⟩ := g2 j x hx
   obtain ⟨u, hu, hp⟩ := hcs.2 j y hy
   exact ⟨u, hu, sub_vd1 hR hv hp⟩
 · intro k e lo r hk hm; exact h.own k e lo r (hR k e hk) hm
 · intro k k' b b' hk hk'
   obtain ⟨c, hc, _⟩ := subBx_lk h4 k b.1 b.2 hk
   obtain ⟨c', hc', _⟩ := subBx_lk h4 k' b'.1 b'.2 hk'
   exact h.bb k k' _ _ hc hc'
 · intro k k' b e m hk hk' hm
   obtain ⟨c, hc, _⟩ := subBx_lk h4 k b.1 b.2 hk
   exact h.br k k' _ e m hc (hR k' e hk') hm
 · intro k k' e e' m m' g hk hk'; exact h.rr k k' e e' m m' g (hR k e hk) (hR k' e' hk')
def At (τ : Tys) (w0 : World) (base M nn : Nat) (aS : List (Array Value)) (s : St) (a : Act) (w : World) : Prop :=
 ∃ E, Den τ w0 E s (a.tmps :: aS) w ∧ E.base = base ∧ M ≤ E.M ∧ nn ≤ a.tmps.size ∧ a.defers = []
theorem put_size (a : Act) (d : Option Tmp) (v : Value) : (a.put d v).tmps.size = a.tmps.size ∧ (a.put d v).defers = a.defers := by
 cases d <;> simp [Act.put]
theorem At.sub {s T : St} {a : Act} {w : World} (h : At τ w0 base M nn aS s a w) (hs : St.sub T s) : At τ w0 base M nn aS T a w := by
 obtain ⟨E, hd, h1⟩ := h
 exact ⟨E, hd.sub hs, h1⟩
def Ex.of : Ex → Exit
 | .normal => .normal
 | .exit id => .exit id
 | .ret => .ret
theorem flatC0_eq {α : Type} (keep : List Nat) (s : St) (K : St → α) : flatC0 keep s K = K (flatS0 keep s) := by
 obtain ⟨fr, stk, bx, rw, dep⟩ := s
 simp only [flatC0, flatS0, forceF_eq, forceB_eq, forceR_eq]
theorem ageC_eq {α : Type} (s : St) (K : St → α) : ageC s K = K (ageSt s) := by
 obtain ⟨fr, stk, bx, rw, dep⟩ := s
 simp only [ageC, ageSt, forceF_eq, forceB_eq]
theorem flatC_eq {α : Type} (keep : List Nat) (s : St) (K : St → α) : flatC keep s K = K (flatSt keep s) := by
 unfold flatC flatSt
 cases memN 999999999 keep with
 | true => simp only [flatC0_eq, ageC_eq]
 | false => exact flatC0_eq keep s K
theorem dem_dem (e : Ent) : dem (dem e) = dem e := by
 unfold dem
 rfl
theorem lk_demoteM (keep : List Nat) : ∀ (R : List (Nat × Ent)) (k : Nat), lk (demoteM keep R) k = (lk R k).map fun e => if memN k keep = true then e else dem e
 | [], k => rfl
 | (j, e) :: l, k => by
   simp only [demoteM]
   split
   · rename_i h
     simp only [lk]
     split
     · rename_i hj; obtain rfl := Nat.eq_of_beq_eq_true hj; simp [h]
     · exact lk_demoteM keep l k
   · rename_i h
     simp only [lk]
     split
     · rename_i hj; obtain rfl := Nat.eq_of_beq_eq_true hj; simp [h]
     · exact lk_demoteM keep l k
theorem lk_demote1 (R : List (Nat × Ent)) (j k : Nat) : lk (demote1 R j) k = (lk R k).map fun e => if k = j then dem e else e := by
 unfold demote1
 split
 · rename_i e he
   show lk (upd R j (dem e)) k = _
   rw [lk_upd]
   split
   · rename_i h; subst h; simp [he]
   · rename_i h; simp
 · rename_i he
   by_cases h : k = j
   · subst h; simp [he]
   · simp [h]
theorem lk_demoteL : ∀ (ks : List Nat) (R : List (Nat × Ent)) (k : Nat), lk (demoteL (ks.map .own) R) k = (lk R k).map fun e => if k ∈ ks then dem e else e
 | [], R, k => by simp [demoteL]
 | j :: ks, R, k => by
   simp only [List.map_cons, demoteL]
   rw [lk_demoteL ks, lk_demote1]
   cases lk R k with
   | none => rfl
   | some e =>
     simp only [Option.map_some, List.mem_cons]
     by_cases h1 : k = j
     · subst h1
       by_cases h2 : k ∈ ks <;> simp [h2, dem_dem]
     · by_cases h2 : k ∈ ks <;> simp [h1, h2]
def keysK (keep : List Nat) : List (Nat × Ent) → List Nat
 | [] => []
 | (k, _) :: l => match memN k keep with
   | true => keysK keep l
   | false => k :: keysK keep l
theorem ownKeys_eq (keep : List Nat) : ∀ R : List (Nat × Ent), ownKeys keep R = (keysK keep R).map .own
 | [] => rfl
 | (k, e) :: l => by
   simp only [ownKeys, keysK]
   cases memN k keep with
   | true => exact ownKeys_eq keep l
   | false =>
     dsimp only
     rw [List.map_cons, ownKeys_eq keep l]
theorem mem_keysK {keep : List Nat} : ∀ {R : List (Nat × Ent)} {k : Nat} {e : Ent}, lk R k = some e → (k ∈ keysK keep R ↔ memN k keep = false)
 | [], k, e, h => by simp [lk] at h
 | (j, e') :: l, k, e, h => by
   simp only [lk] at h
   simp only [keysK]
   split at h
   · rename_i hj
     obtain rfl := Nat.eq_of_beq_eq_true hj
     split
     · rename_i hm
       have : ∀ (R : List (Nat × Ent)), j ∉ keysK keep R := by
        intro R
        induction R with
        | nil => simp [keysK]
        | cons x R ih =>
          obtain ⟨q, e2⟩ := x
          simp only [keysK]
          split
          · exact ih
          · rename_i hq
            intro hx
            rcases List.mem_cons.1 hx with rfl | hx
            · rw [hm] at hq; simp at hq
            · exact ih hx
       constructor
       · intro hx; exact absurd hx (this l)
       · intro hx; rw [hm] at hx; simp at hx
     · rename_i hm
       simp [hm]
   · rename_i hj
     have hne : k ≠ j := fun e => by subst e; rw [Nat.beq_refl] at hj; simp at hj
     split
     · exact mem_keysK h
     · rw [List.mem_cons, mem_keysK h]
       simp [hne]
theorem lk_same (keep : List Nat) (R : List (Nat × Ent)) (k : Nat) : lk (demoteM keep R) k = lk (demoteL (ownKeys keep R) R) k := by
 rw [ownKeys_eq, lk_demoteL, lk_demoteM]
 cases h : lk R k with
 | none => rfl
 | some e =>
   simp only [Option.map_some]
   have := mem_keysK (keep := keep) h
   cases hm : memN k keep with
   | true => rw [if_pos rfl, if_neg (fun h2 => by rw [this.1 h2] at hm; simp at hm)]
   | false => rw [if_neg (by simp), if_pos (this.2 hm)]
theorem Den.rows {E : Env} {fr : List (Nat × SV)} {stk : List (List (Nat × SV))} {bx : List (Nat × (TypeId × List SV))} {R R' : List (Nat × Ent)} {dep : Nat} {bs : List (Array Value)} {w : World} (h : Den τ w0 E ⟨fr, stk, bx, R, dep⟩ bs w) (hR : RwLe R' R) : Den τ w0 E ⟨fr, stk, bx, R', dep⟩ bs w := by
 refine ⟨h.below, h.bM, h.Mh, h.owb, ?_, ?_, ?_, h.bb, ?_, ?_⟩
 · intro i f hf
   obtain ⟨a, ha, hfr⟩ := h.fr i f hf
   exact ⟨a, ha, fun t => vd3.less hR (hfr t)⟩
 · intro k T cs hk
   obtain ⟨h1, us, h2, h3⟩ := h.box k T cs hk
   exact ⟨h1, us, h2, h3.mono fun x u _ hp => vd1.less hR hp⟩
 · intro k e lo r hk hm
   exact h.own k e lo r (hR k e hk) hm
 · intro k k' b e m hk hk' hm
   exact h.br k k' b e m hk (hR k' e hk') hm
 · intro k k' e e' m m' g hk hk' hm hm' hne hg
   exact h.rr k k' e e' m m' g (hR k e hk) (hR k' e' hk') hm hm' hne hg
theorem flat0_vd {E : Env} {R : List (Nat × Ent)} {w : World} {x : SV} {u : Value} (h : vd0 E R w x u) : vd0 E R w (flat0 R x) u := by
 cases x with
 | own k =>
   simp only [flat0]
   split
   · rename_i t r hk
     simp only [vd0] at h
     rw [hk] at h
     exact h
   · exact h
 | _ => exact h
theorem flat0_vd1 {E : Env} {R : List (Nat × Ent)} {w : World} {x : SV} {u : Value} (h : vd1 E R w x u) : vd1 E R w (flat0 R x) u := by
 cases x with
 | own k =>
   have := flat0_vd (R := R) (x := .own k) h
   revert this
   simp only [flat0]
   split <;> exact fun h => h
 | _ => exact h
theorem flatL_vd {E : Env} {R : List (Nat × Ent)} {w : World} {cs : List SV} {us : List Value} (h : L0 (vd1 E R w) cs us) : L0 (vd1 E R w) (flatL R cs) us := by
 induction cs generalizing us with
 | nil => exact h
 | cons x cs ih =>
   obtain ⟨u, us', rfl, h1, h2⟩ := h.inv_cons
   exact .cons (flat0_vd1 h1) (ih h2)
theorem flat1_vd {E : Env} {R : List (Nat × Ent)} {w : World} {x : SV} {u : Value} (h : vd3 E R w x u) : vd3 E R w (flat1 R x) u := by
 cases x with
 | agg cs =>
   obtain ⟨us, rfl, hl⟩ := h
   exact ⟨us, rfl, flatL_vd hl⟩
 | own k =>
   have := flat0_vd (R := R) (x := .own k) h
   revert this
   simp only [flat1, flat0]
   split <;> exact fun h => h
 | _ => exact h
theorem flatF_lkv {R : List (Nat × Ent)} : ∀ (f : List (Nat × SV)) (t : Nat), lkv (flatF R f) t = flat1 R (lkv f t)
 | [], t => rfl
 | (k, v) :: l, t => by
   simp only [flatF, lkv]
   split
   · rfl
   · exact flatF_lkv l t
theorem flatB_lk {R : List (Nat × Ent)} : ∀ {b : List (Nat × (TypeId × List SV))} {k : Nat} {T : TypeId} {cs : List SV}, lk (flatB R b) k = some (T, cs) → ∃ cs', lk b k = some (T, cs') ∧ cs = flatL R cs'
 | [], _, _, _, h => by simp [flatB, lk] at h
 | (j, (T', cs')) :: l, k, T, cs, h => by
   simp only [flatB, lk] at h ⊢
   split at h
   · simp at h
     obtain ⟨rfl, rfl⟩ := h
     exact ⟨cs', rfl, rfl⟩
   · exact flatB_lk h
theorem At.flat0 {keep : List Nat} {s : St} {a : Act} {w : World} (h : At τ w0 base M nn aS s a w) : At τ w0 base M nn aS (flatS0 keep s) a w := by
 obtain ⟨E, hd, h1, h2, h3⟩ := h
 obtain ⟨fr, stk, bx, rw', dep⟩ := s
 obtain ⟨E', g1, g2, _, _, _, hd0, _, _⟩ := hd.demoteL (ownKeys keep rw')
 have hd' := hd0.rows (R' := demoteM keep rw') fun k e hk => by rw [← lk_same]; exact hk
 refine ⟨E', ?_, g1.trans h1, by rw [g2]; exact h2, h3⟩
 refine ⟨hd'.below, hd'.bM, hd'.Mh, hd'.owb, ?_, ?_, hd'.own, ?_, ?_, hd'.rr⟩
 · intro i f hf
   cases i with
   | zero =>
     simp [flatS0] at hf
     subst hf
     obtain ⟨b, hb, hfr⟩ := hd'.fr 0 fr (by simp)
     refine ⟨b, hb, fun t => ?_⟩
     rw [flatF_lkv]
     exact flat1_vd (hfr t)
   | succ i => exact hd'.fr (i + 1) f hf
 · intro k T cs hk
   obtain ⟨cs', hk', rfl⟩ := flatB_lk hk
   have hb := hd'.box k T cs' hk'
   obtain ⟨us, hu, hl⟩ := hb.cells
   exact ⟨hb.ow, us, hu, flatL_vd hl⟩
 · rintro k k' ⟨T, cs⟩ ⟨T', cs'⟩ hk hk' hne
   obtain ⟨_, hk, _⟩ := flatB_lk hk
   obtain ⟨_, hk', _⟩ := flatB_lk hk'
   exact hd'.bb k k' _ _ hk hk' hne
 · rintro k k' ⟨T, cs⟩ e m hk hk' hm
   obtain ⟨_, hk, _⟩ := flatB_lk hk
   exact hd'.br k k' _ e m hk hk' hm
def Env.age (E : Env) (w : World) : Env := { E with M := w.heap.size }
theorem age_F {E : Env} {w : World} {t : Tag} : ∀ g, E.F w t g → g < w.heap.size → w.heap[g]? = w.heap[g]? ∧ (E.age w).F w .old g := fun g h hlt => ⟨rfl, h.1, hlt⟩
theorem ag0_vd {E : Env} {R : List (Nat × Ent)} {w : World} {x : SV} {u : Value} (h : vd1 E R w x u) : vd1 (E.age w) [] w (ag0 x) u := by
 cases x with
 | row t r => exact RowDen.mono h age_F
 | pre t r n => obtain ⟨A, c, h1, h2, h3⟩ := h; exact ⟨A, c, h1, h2, RowDen.mono h3 age_F⟩
 | pt t cs =>
   obtain ⟨ad, h1, h2, h3, h4, h5⟩ := h
   exact ⟨ad, h1, h2, h3, (age_F _ h4 h3).2, fun j x hx => by
    obtain ⟨u', hu, hd⟩ := h5 j x hx
    exact ⟨u', hu, cd2.mono hd age_F⟩⟩
 | own k => trivial
 | oel k i off => trivial
 | agg cs => trivial
 | tup cs => trivial
 | clo f a c => trivial
 | _ => exact h
theorem agL_vd {E : Env} {R : List (Nat × Ent)} {w : World} {cs : List SV} {us : List Value} (h : L0 (vd1 E R w) cs us) : L0 (vd1 (E.age w) [] w) (agL cs) us := by
 induction cs generalizing us with
 | nil => exact ⟨h.1, fun j x hx => by simp [agL] at hx⟩
 | cons x cs ih =>
   obtain ⟨u, us', rfl, h1, h2⟩ := h.inv_cons
   exact .cons (ag0_vd h1) (ih h2)
theorem ag1_vd {E : Env} {R : List (Nat × Ent)} {w : World} {x : SV} {u : Value} (h : vd3 E R w x u) : vd3 (E.age w) [] w (ag1 x) u := by
 cases x with
 | agg cs =>
   obtain ⟨us, rfl, hl⟩ := h
   exact ⟨us, rfl, agL_vd hl⟩
 | tup cs => trivial
 | clo f a c => trivial
 | row t r => exact ag0_vd (R := R) (x := .row t r) h
 | pre t r n => exact ag0_vd (R := R) (x := .pre t r n) h
 | pt t cs => exact ag0_vd (R := R) (x := .pt t cs) h
 | own k => trivial
 | oel k i off => trivial
 | _ => exact h
theorem agF_lkv : ∀ (f : List (Nat × SV)) (t : Nat), lkv (agF f) t = ag1 (lkv f t)
 | [], t => rfl
 | (k, v) :: l, t => by
   simp only [agF, lkv]
   split
   · rfl
   · exact agF_lkv l t
theorem agS_get : ∀ {l : List (List (Nat × SV))} {i : Nat} {f : List (Nat × SV)}, (agS l)[i]? = some f → ∃ f0, l[i]? = some f0 ∧ f = agF f0
 | [], i, f, h => by simp [agS] at h
 | g :: l, 0, f, h => by simp [agS] at h; exact ⟨g, rfl, h.symm⟩
 | g :: l, i + 1, f, h => by simpa using agS_get (l := l) (i := i) (by simpa [agS] using h)
theorem agB_lk : ∀ {b : List (Nat × (TypeId × List SV))} {k : Nat} {T : TypeId} {cs : List SV}, lk (agB b) k = some (T, cs) → ∃ cs', lk b k = some (T, cs') ∧ cs = agL cs'
 | [], _, _, _, h => by simp [agB, lk] at h
 | (j, (T', cs')) :: l, k, T, cs, h => by
   simp only [agB, lk] at h ⊢
   split at h
   · simp at h
     obtain ⟨rfl, rfl⟩ := h
     exact ⟨cs', rfl, rfl⟩
   · exact agB_lk h
theorem At.age {s : St} {a : Act} {w : World} (h : At τ w0 base M nn aS s a w) : At τ w0 base M nn aS (ageSt s) a w := by
 obtain ⟨E, hd, h1, h2, h3⟩ := h
 obtain ⟨fr, stk, bx, rw', dep⟩ := s
 refine ⟨E.age w, ⟨hd.below, Nat.le_trans hd.bM hd.Mh, Nat.le_refl _, hd.owb, ?_, ?_, ?_, ?_, ?_, ?_⟩, h1, Nat.le_trans h2 hd.Mh, h3⟩
 · intro i f hf
   cases i with
   | zero =>
     simp [ageSt] at hf
     subst hf
     obtain ⟨b, hb, hfr⟩ := hd.fr 0 fr (by simp)
     refine ⟨b, hb, fun t => ?_⟩
     rw [agF_lkv]
     exact ag1_vd (hfr t)
   | succ i =>
     obtain ⟨f0, hf0, rfl⟩ := agS_get (l := stk) (i := i) (by simpa [ageSt] using hf)
     obtain ⟨b, hb, hfr⟩ := hd.fr (i + 1) f0 (by simpa using hf0)
     refine ⟨b, hb, fun t => ?_⟩
     rw [agF_lkv]
     exact ag1_vd (hfr t)
 · intro k T cs hk
   obtain ⟨cs', hk', rfl⟩ := agB_lk hk
   obtain ⟨ho, us, hu, hl⟩ := hd.box k T cs' hk'
   exact ⟨ho, us, hu, agL_vd hl⟩
 · intro k e lo r hk; simp [ageSt, lk] at hk
 · rintro k k' ⟨T, cs⟩ ⟨T', cs'⟩ hk hk' hne
   obtain ⟨_, hk, _⟩ := agB_lk hk
   obtain ⟨_, hk', _⟩ := agB_lk hk'
   exact hd.bb k k' _ _ hk hk' hne
 · intro k k' b e m _ hk'; simp [ageSt, lk] at hk'
 · intro k k' e e' m m' g hk; simp [ageSt, lk] at hk
theorem At.flat {keep : List Nat} {s : St} {a : Act} {w : World} (h : At τ w0 base M nn aS s a w) : At τ w0 base M nn aS (flatSt keep s) a w := by
 unfold flatSt
 cases memN 999999999 keep with
 | true => exact (At.flat0 h).age
 | false => exact At.flat0 h
theorem At.adopt1 {s : St} {a : Act} {w : World} (h : At τ w0 base M nn aS s a w) (t k kd : Nat) : At τ w0 base M nn aS (adopt1 t k kd s) a w := by
 obtain ⟨fr, stk, bx, rw', dep⟩ := s
 unfold Go.Proofs.YtjjpakdlkjaigaaGreat.adopt1
 dsimp only
 split
 · rename_i r hr
   split
   · rename_i h1 h2 h3
     obtain ⟨E, hd, g1, g2, g3⟩ := h
     have hk12 : kd < 12 := Nat.lt_of_succ_le (Nat.le_of_ble_eq_true h2)
     have hkd : (mkEmpty kd).kd = kd := by
      match kd, hk12 with
      | 0, _ | 1, _ | 2, _ | 3, _ | 4, _ | 5, _ | 6, _ | 7, _ | 8, _ | 9, _ | 10, _ | 11, _ => rfl
     have hl := len_mkEmpty kd
     have hg : w.grownBy w none := ⟨rfl, rfl, rfl, Nat.le_refl _, fun _ _ _ => rfl⟩
     have hv : vd3 E rw' w (.nilS r) (a.tmps.getD t undef) := by
      obtain ⟨b, hb, hf⟩ := hd.fr 0 fr (by simp)
      simp at hb
      subst hb
      have := hf t
      rwa [hr] at this
     obtain ⟨hv, _⟩ : a.tmps.getD t undef = .slice none 0 0 ∧ r.len = 0 := hv
     have hd2 := hd.newRow (dep + k) h3 w hg (.slice none 0 0) (.own (mkEmpty kd)) (mkEmpty kd).len (mkEmpty kd) rfl [] (fun g hg => by simp [Value.ownBlock] at hg) (by rw [hl]; simp) (by rw [hl]; exact World.ownsRow_nil _ _ _ _) (fun i j x hi => by rw [hl] at hi; omega)
     refine ⟨E.add (dep + k) (.slice none 0 0), ⟨hd2.below, hd2.bM, hd2.Mh, hd2.owb, ?_, hd2.box, hd2.own, hd2.bb, hd2.br, hd2.rr⟩, g1, g2, g3⟩
     intro i f hf
     cases i with
     | zero =>
       simp at hf
       subst hf
       obtain ⟨b, hb, hfr⟩ := hd2.fr 0 fr (by simp)
       refine ⟨b, hb, fun t' => ?_⟩
       simp at hb
       subst hb
       simp only [lkv]
       split
       · rename_i ht
         obtain rfl := Nat.eq_of_beq_eq_true ht
         rw [hv]
         simp [vd3, vd2, vd1, vd0, lk_upd, Env.add]
       · exact hfr t'
     | succ i => exact hd2.fr (i + 1) f hf
   · exact h
 · exact h
theorem At.adopt {a : Act} {w : World} : ∀ (ad : List (Nat × (Nat × Nat))) {s : St}, At τ w0 base M nn aS s a w → At τ w0 base M nn aS (adoptSt ad s) a w
 | [], _, h => h
 | (t, (k, kd)) :: l, _, h => At.adopt l (h.adopt1 t k kd)
theorem sameB_eq {b c : Bool} (h : sameB b c = true) : b = c := by cases b <;> cases c <;> simp_all [sameB]
theorem sameB_ne {b c : Bool} (h : sameB b c = false) : b ≠ c := by cases b <;> cases c <;> simp_all [sameB]
theorem At.setLit {s : St} {a : Act} {w : World} (h : At τ w0 base M nn aS s a w) {t : Nat} {b : Bool} (hv : a.tmps.getD t undef = .bool b) : At τ w0 base M nn aS (setLit t b s) a w := by
 obtain ⟨E, hd, h1⟩ := h
 refine ⟨E, ?_, h1⟩
 obtain ⟨fr, stk, bx, rw', dep⟩ := s
 refine ⟨hd.below, hd.bM, hd.Mh, hd.owb, ?_, hd.box, hd.own, hd.bb, hd.br, hd.rr⟩
 intro i f hf
 cases i with
 | zero =>
   simp [Go.Proofs.YtjjpakdlkjaigaaGreat.setLit] at hf
   subst hf
   obtain ⟨c, hc, hfr⟩ := hd.fr 0 fr (by simp)
   refine ⟨c, hc, fun t' => ?_⟩
   simp at hc
   subst hc
   simp only [lkv]
   split
   · rename_i hk
     obtain rfl := Nat.eq_of_beq_eq_true hk
     exact hv
   · exact hfr t'
 | succ i => exact hd.fr (i + 1) f hf
theorem At.skip {s : St} {a : Act} {w : World} (h : At τ w0 base M nn aS s a w) {d : Option Tmp} (hd : ∀ t, d = some t → t < nn) : At τ w0 base M nn aS (skipO d s) (a.put d undef) w := by
 obtain ⟨E, h0, h1, h2, h3, h4⟩ := h
 refine ⟨E, ?_, h1, h2, by rw [(put_size a d undef).1]; exact h3, by rw [(put_size a d undef).2]; exact h4⟩
 obtain ⟨fr, stk, bx, rw', dep⟩ := s
 have := h0.put (x := .tup []) (v := undef) (d := d) ⟨[], rfl, L0.nil⟩ (fun t ht => Nat.lt_of_lt_of_le (hd t ht) h3)
 cases d with
 | none => exact this
 | some d => exact this
theorem At.get {s : St} {a : Act} {w : World} (h : At τ w0 base M nn aS s a w) (t : Nat) : ∃ E R, vd3 E R w (lkv s.fr t) (a.tmps.getD t undef) := by
 obtain ⟨E, hd, _⟩ := h
 obtain ⟨b, hb, hfr⟩ := hd.fr 0 s.fr (by simp)
 simp at hb
 subst hb
 exact ⟨E, _, hfr t⟩
theorem dstOk_mem {n : Nat} : ∀ {l : List Oper}, dstOk n l = true → ∀ o ∈ l, ∀ t, o.dst = some t → t < n
 | [], _, o, ho => by simp at ho
 | o' :: l, h, o, ho => by
   unfold dstOk at h
   split at h
   · rename_i d hd
     split at h
     · rename_i hlt
       rcases List.mem_cons.1 ho with rfl | ho
       · intro t ht; rw [hd] at ht; simp at ht; subst ht; exact Nat.lt_of_succ_le (Nat.le_of_ble_eq_true hlt)
       · exact dstOk_mem h o ho
     · simp at h
   · rename_i hd
     rcases List.mem_cons.1 ho with rfl | ho
     · intro t ht; rw [hd] at ht; simp at ht
     · exact dstOk_mem h o ho
theorem guardO_sound {ops : Array Oper} {o : Oper} {s : St} {a : Act} {w : World} {yes no : St → Prop} (hat : At τ w0 base M nn aS s a w) (hw : guardO ops.toList o s yes no) :
  (Region.wanted o (yielded ops a.tmps) = true ∧ ∃ s', yes s' ∧ At τ w0 base M nn aS s' a w) ∨ (Region.wanted o (yielded ops a.tmps) = false ∧ ∃ s', no s' ∧ At τ w0 base M nn aS s' a w) := by
 unfold guardO at hw
 split at hw
 · rename_i hg
   exact .inl ⟨by simp [Region.wanted, hg], s, hw, hat⟩
 · rename_i j want hg
   have hwd : ∀ b, yielded ops a.tmps j = some b → Region.wanted o (yielded ops a.tmps) = (b == want) := fun b hb => by simp [Region.wanted, hg, hb]
   split at hw
   · exact hw.elim
   · rename_i t ht
     have hy : ∀ b, a.tmps.getD t undef = .bool b → yielded ops a.tmps j = some b := by
      intro b hb
      unfold gslot at ht
      rw [nth_eq] at ht
      split at ht
      · rename_i o' ho'
        have ho2 : ops[j]? = some o' := by simpa using ho'
        unfold yielded
        rw [ho2]
        simp only [Option.bind_some, ht]
        have : a.tmps[t]? = some (.bool b) := by
         cases hx : a.tmps[t]? with
         | none => rw [Array.getD_eq_getD_getElem?, hx] at hb; simp [undef] at hb
         | some x => rw [Array.getD_eq_getD_getElem?, hx] at hb; simpa using hb
        rw [this]
      · simp at ht
     obtain ⟨E', R', hval⟩ := hat.get t
     split at hw
     · rename_i b hl
       rw [hl] at hval
       have hb := hwd b (hy b hval)
       split at hw
       · rename_i hs
         exact .inl ⟨by rw [hb, sameB_eq hs]; simp, s, hw, hat⟩
       · rename_i hs
         exact .inr ⟨by rw [hb]; simpa using sameB_ne hs, s, hw, hat⟩
     · rename_i b hl
       rw [hl] at hval
       have hb := hwd b (hy b hval)
       have hlit := fun c (e : b = c) => hat.setLit (t := t) (b := c) (by rw [← e]; exact hval)
       split at hw
       · cases hbb : b with
         | true => exact .inl ⟨by rw [hb, hbb]; rfl, _, hw.1 hbb, hlit true hbb⟩
         | false => exact .inr ⟨by rw [hb, hbb]; rfl, _, hw.2 hbb, hlit false hbb⟩
       · cases hbb : b with
         | false => exact .inl ⟨by rw [hb, hbb]; rfl, _, hw.1 hbb, hlit false hbb⟩
         | true => exact .inr ⟨by rw [hb, hbb]; rfl, _, hw.2 hbb, hlit true hbb⟩
     · rename_i vs hl
       rw [hl] at hval
       obtain ⟨us, hv, _⟩ := hval
       refine .inr ⟨?_, s, hw, hat⟩
       have : yielded ops a.tmps j = none := by
        unfold gslot at ht
        rw [nth_eq] at ht
        split at ht
        · rename_i o' ho'
          have ho2 : ops[j]? = some o' := by simpa using ho'
          unfold yielded
          rw [ho2]
          simp only [Option.bind_some, ht]
          cases hx : a.tmps[t]? with
          | none => rfl
          | some x =>
            rw [Array.getD_eq_getD_getElem?, hx] at hv
            simp at hv
            subst hv
            rfl
        · simp at ht
       simp [Region.wanted, hg, this]
     · exact hw.elim
variable (hτ : TysOk P τ) {C : Ctx} (hC : CtxOk P τ C)
include hτ hC
theorem step_wp {o : Oper} {s : St} {a : Act} {w : World} {K : St → Prop} {next : Act → World → Prop} {Q : Exit → Act → World → Prop} (h : At τ w0 base M nn aS s a w) (hd : ∀ t, o.dst = some t → t < nn)
  (hw : (step τ C o s).wp K) (hK : ∀ s' a' w', K s' → At τ w0 base M nn aS s' a' w' → next a' w') : o.wp P a w next Q := by
 obtain ⟨E, h0, h1, h2, h3, h4⟩ := h
 obtain ⟨fr, stk, bx, rw', dep⟩ := s
 have hg := step_good hτ hC h0 (o := o) fun t ht => Nat.lt_of_lt_of_le (hd t ht) h3
 have fin : ∀ s', OpGood P τ w0 E aS o a w s' → K s' → o.wp P a w next Q := fun s' hgood hk =>
  hgood next Q fun E' v w' hden hb hM => hK s' _ w' hk ⟨E', hden, hb.trans h1, by rw [hM]; exact h2, by rw [(put_size _ _ _).1]; exact h3, by rw [(put_size _ _ _).2]; exact h4⟩
 cases hs : step τ C o ⟨fr, stk, bx, rw', dep⟩ with
 | bad => rw [hs] at hw; exact hw.elim
 | ok s' => rw [hs] at hw hg; simp only [RS.wp, forceSt_eq] at hw; exact fin s' hg hw
 | ob p s' => rw [hs] at hw hg; simp only [RS.wp, forceSt_eq] at hw; exact fin s' (hg hw.1.out) (hw.2 hw.1.out)
theorem stepW_wp {o : Oper} {s : St} {a : Act} {w : World} {K : St → Prop} {next : Act → World → Prop} {Q : Exit → Act → World → Prop} (h : At τ w0 base M nn aS s a w) (hd : ∀ t, o.dst = some t → t < nn)
  (hw : stepW τ C o s K) (hK : ∀ s' a' w', K s' → At τ w0 base M nn aS s' a' w' → next a' w') : o.wp P a w next Q := by
 unfold stepW at hw
 split at hw
 · rename_i c ho
   split at hw
   · rename_i x hb
     rw [SV.force_eq] at hw
     split at hw
     · rename_i g ls cs hg
       split at hw
       · rename_i T hT
         rw [forceL_eq] at hw
         obtain ⟨E, h0, h1, h2, h3, h4⟩ := h
         obtain ⟨fr, stk, bx, rw', dep⟩ := s
         have hx := h0.get x
         rw [hg] at hx
         obtain ⟨us, vs, hf, hl1, hl2⟩ := hx
         have hargs : L0 (vd3 E rw' w) (ls ++ rawN τ ⟨fr, stk, bx, rw', dep⟩ c.args.toList c.argTypes.toList ++ cs) (us ++ c.args.toList.map a.eval ++ vs) :=
          ((hl1.mono fun _ _ _ h => vd3_of_vdf h).append (rawN_vd h0 _ _)).append (hl2.mono fun _ _ _ h => vd3_of_vd0 h)
         have hrun : (execOp a.eval o).run P w = .ok (.enter g (us ++ c.args.toList.map a.eval ++ vs).toArray) w := by
          have he := hC.trEnters g T hT (us ++ c.args.toList.map a.eval ++ vs).toArray w
          simp only [execOp, ho, resolve, hb, hf, Deferred.ofValue, invoke, Sem.run_bind, Sem.run_pure, Result.andThen_ok]
          rw [← he]
          congr 2
          apply Array.toList_inj.1
          simp
         unfold Oper.wp
         rw [hrun, Oper.upon_enter]
         refine (hC.trOk g T hT w0 E _ _ w _ _ _ h0 hargs hw).mono ?_
         rintro e w' ⟨z, v, s', E', rfl, hk, hden, hb', hM', hv⟩
         rw [SV.force_eq, forceSt_eq] at hk
         obtain ⟨fr', stk', bx', rw2, dep'⟩ := s'
         exact hK _ _ w' hk ⟨E', hden.put hv (fun t ht => Nat.lt_of_lt_of_le (hd t ht) h3), hb'.trans h1, Nat.le_trans h2 hM', by rw [(put_size _ _ _).1]; exact h3, by rw [(put_size _ _ _).2]; exact h4⟩
       · exact step_wp hτ hC h hd hw hK
     · exact step_wp hτ hC h hd hw hK
   · exact step_wp hτ hC h hd hw hK
 · exact step_wp hτ hC h hd hw hK
theorem opsL_sound {ops : Array Oper} {K : St → Prop} {Q : Exit → Act → World → Prop} (hok : dstOk nn ops.toList = true) (hK : ∀ s a w, K s → At τ w0 base M nn aS s a w → Q .normal a w) :
  ∀ (os : List Oper) (i : Nat) (s : St) (a : Act) (w : World), ops.toList.drop i = os → wpOpsL τ C ops.toList os s K → At τ w0 base M nn aS s a w → wpOps P ops Q (List.range' i os.length) a w := by
 intro os
 induction os with
 | nil => intro i s a w _ hw hat; simpa [wpOps] using hK s a w hw hat
 | cons o os ih =>
   intro i s a w hdrop hw hat
   have hi : ops[i]? = some o := by
    have : (ops.toList.drop i)[0]? = some o := by rw [hdrop]; rfl
    rw [List.getElem?_drop] at this
    simpa using this
   have hdrop' : ops.toList.drop (i + 1) = os := by
    have : (ops.toList.drop i).drop 1 = os := by rw [hdrop]; rfl
    simpa [List.drop_drop] using this
   have hd : ∀ t, o.dst = some t → t < nn := dstOk_mem hok o (by
    have : o ∈ ops.toList.drop i := by rw [hdrop]; simp
    exact List.mem_of_mem_drop this)
   simp only [List.length_cons, List.range'_succ, wpOps, hi]
   have exec : ∀ s', At τ w0 base M nn aS s' a w → (stepW τ C o s' fun s => wpOpsL τ C ops.toList os s K) → o.wp P a w (wpOps P ops Q (List.range' (i + 1) os.length)) Q := fun s' hat' hw' =>
    stepW_wp hτ hC hat' hd hw' fun s2 a2 w2 h2 hat2 => ih (i + 1) s2 a2 w2 hdrop' h2 hat2
   have skip : ∀ s', At τ w0 base M nn aS s' a w → wpOpsL τ C ops.toList os (skipO o.dst s') K → wpOps P ops Q (List.range' (i + 1) os.length) (a.put o.dst undef) w := fun s' hat' hw' =>
    ih (i + 1) _ _ w hdrop' hw' (hat'.skip hd)
   have yes : Region.wanted o (yielded ops a.tmps) = true → o.wp P a w (wpOps P ops Q (List.range' (i + 1) os.length)) Q → (if Region.wanted o (yielded ops a.tmps) = true then o.wp P a w (wpOps P ops Q (List.range' (i + 1) os.length)) Q ∨ (o.asks P a w ∧ LetsOut Q) else wpOps P ops Q (List.range' (i + 1) os.length) (a.put o.dst undef) w) := fun h1 h2 => by rw [if_pos h1]; exact .inl h2
   have no : Region.wanted o (yielded ops a.tmps) = false → wpOps P ops Q (List.range' (i + 1) os.length) (a.put o.dst undef) w → (if Region.wanted o (yielded ops a.tmps) = true then o.wp P a w (wpOps P ops Q (List.range' (i + 1) os.length)) Q ∨ (o.asks P a w ∧ LetsOut Q) else wpOps P ops Q (List.range' (i + 1) os.length) (a.put o.dst undef) w) := fun h1 h2 => by rw [if_neg (by rw [h1]; simp)]; exact h2
   unfold wpOpsL at hw
   rcases guardO_sound hat hw with ⟨h1, s', h2, h3⟩ | ⟨h1, s', h2, h3⟩
   · exact yes h1 (exec s' h3 h2)
   · exact no h1 (skip s' h3 h2)
end
end Go.Proofs.YtjjpakdlkjaigaaGreat

/- A symbolic executor for loaded Go code: drawn regions: what reads alone; places and edges. -/
namespace Go.Proofs.YtjjpakdlkjaigaaGreat
open Go.RowKit
section
variable {P : Program} {τ : Tys} {w0 : World} {E : Env} {aS : List (Array Value)} {a : Act} {w : World} {s : St} {o : Oper}
theorem evR_good (hτ : TysOk P τ) (hd : Den τ w0 E s (a.tmps :: aS) w) : (evR τ s o).good (Yld P o a w E s.rows) := by
 obtain ⟨fr, stk, bx, rw', dep⟩ := s
 unfold evR
 split
 · rename_i x ho; exact move_ok hτ hd x (.inl ho)
 · rename_i x ho; exact move_ok hτ hd x (.inr ho)
 · rename_i c x y ho; simp only [SV.force_eq]; exact pick_ok hd c x y ho
 · rename_i T x ho; rw [SV.force_eq]; exact loadOp_ok hτ hd T x ho
 · rename_i x ho; rw [SV.force_eq]; exact check_ok hd x ho
 · rename_i op T x y T' ho; simp only [SV.force_eq]; exact bin_ok hτ hd op T T' x y ho
 · rename_i op T x ho; simp only [SV.force_eq]; exact un_ok hd op T x ho
 · rename_i b c x ho; simp only [SV.force_eq]; exact conv_ok hτ hd b c x ho
 · rename_i fn b c ho; exact func_ok hd fn b c ho
 · rename_i S x j ho; rw [SV.force_eq]; exact fieldAddr_ok hτ hd S x j ho
 · rename_i S x j ho; rw [SV.force_eq]; exact field_ok hτ hd S x j ho
 · rename_i T x i ho; simp only [SV.force_eq]; exact indexAddr_ok hτ hd T x i ho
 · rename_i T x i ho; simp only [SV.force_eq]; exact index_ok hτ hd T x i ho
 · rename_i x j ho; rw [SV.force_eq]; exact extract_ok hd x j ho
 · rename_i T ps ho; exact build_ok hτ hd T ps ho
 · rename_i c ho
   split
   · rename_i hb
     split
     · rename_i x T hx hT
       rw [SV.force_eq]
       split
       · rename_i n b hn htd hs
         exact len_ok hτ hd c x T ho hb hx hT hn (.inl ⟨htd, b, hs⟩)
       · rename_i n e t r hn htd hs
         exact len_ok hτ hd c x T ho hb hx hT hn (.inr ⟨⟨_, htd⟩, fun b => by rw [hs]; simp⟩)
       · rename_i n e k hn htd hs
         exact len_ok hτ hd c x T ho hb hx hT hn (.inr ⟨⟨_, htd⟩, fun b => by rw [hs]; simp⟩)
       · rename_i n e r hn htd hs
         exact len_ok hτ hd c x T ho hb hx hT hn (.inr ⟨⟨_, htd⟩, fun b => by rw [hs]; simp⟩)
       · trivial
     · trivial
   · rename_i hb
     split
     · rename_i x y hx
       rw [SV.force_eq, SV.force_eq]
       exact min_ok hd c x y .min (.inl rfl) ho hb hx
     · trivial
   · rename_i hb
     split
     · rename_i x y hx
       rw [SV.force_eq, SV.force_eq]
       exact min_ok hd c x y .max (.inr rfl) ho hb hx
     · trivial
   · trivial
 · trivial
end
theorem inM_iff (j m : Nat) : inM j m = m.testBit j := by
 have h : ∀ n : Nat, Nat.beq n 1 = decide (n = 1) := fun n => by
  cases hb : Nat.beq n 1 with
  | true => simp [Nat.eq_of_beq_eq_true hb]
  | false => simp [Nat.ne_of_beq_eq_false hb]
 unfold inM
 rw [h]
 show decide ((m >>> j) &&& 1 = 1) = _
 unfold Nat.testBit
 rw [Nat.and_comm 1]
 rcases Nat.mod_two_eq_zero_or_one (m >>> j) with h2 | h2 <;> simp [Nat.and_one_is_mod, h2]
theorem inM_add (i j m : Nat) : inM i (addM j m) = (inM i m || decide (i = j)) := by
 simp only [inM_iff]
 show (m ||| (1 <<< j)).testBit i = _
 rw [Nat.testBit_or, Nat.shiftLeft_eq, Nat.one_mul, Nat.testBit_two_pow]
 congr 1
 simp [eq_comm]
theorem inM_zero (i : Nat) : inM i 0 = false := by simp [inM_iff]
theorem inM_or (i a b : Nat) : inM i (Nat.lor a b) = (inM i a || inM i b) := by
 simp only [inM_iff]
 exact Nat.testBit_or a b i
theorem subM_iff (a b : Nat) : subM a b = true ↔ ∀ i, inM i a = true → inM i b = true := by
 unfold subM
 constructor
 · intro h i hi
   have h : Nat.land a b = a := Nat.eq_of_beq_eq_true h
   rw [inM_iff] at hi ⊢
   have : (a &&& b).testBit i = true := by rw [show a &&& b = a from h]; exact hi
   rw [Nat.testBit_and] at this
   simp at this
   exact this.2
 · intro h
   have : a &&& b = a := by
    apply Nat.eq_of_testBit_eq
    intro i
    rw [Nat.testBit_and]
    have := h i
    simp only [inM_iff] at this
    cases ha : a.testBit i with
    | false => simp
    | true => simp [this ha]
   show Nat.beq (a &&& b) a = true
   rw [this]
   exact Nat.beq_refl a
section
variable {ops : Array Oper} {tab : List (Nat × Nat)}
theorem bindsB_eq (e : Edge) : bindsB e = Region.binds .any e := by
 obtain ⟨on, g⟩ := e
 cases g <;> rfl
theorem inM_edgeM (i : Nat) : ∀ (l : List Edge) (m : Nat), inM i (edgeM l m) = true ↔ inM i m = true ∨ ∃ e ∈ l, bindsB e = true ∧ e.on = i
 | [], m => by simp [edgeM]
 | e :: l, m => by
   simp only [edgeM]
   split
   · rename_i hb
     rw [inM_edgeM i l, inM_add]
     simp only [Bool.or_eq_true, decide_eq_true_eq, List.mem_cons]
     constructor
     · rintro ((h | h) | ⟨e', h1, h2⟩)
       · exact .inl h
       · exact .inr ⟨e, .inl rfl, hb, h.symm⟩
       · exact .inr ⟨e', .inr h1, h2⟩
     · rintro (h | ⟨e', rfl | h1, h2⟩)
       · exact .inl (.inl h)
       · exact .inl (.inr h2.2.symm)
       · exact .inr ⟨e', h1, h2⟩
   · rename_i hb
     rw [inM_edgeM i l]
     simp only [List.mem_cons]
     constructor
     · rintro (h | ⟨e', h1, h2⟩)
       · exact .inl h
       · exact .inr ⟨e', .inr h1, h2⟩
     · rintro (h | ⟨e', rfl | h1, h2⟩)
       · exact .inl h
       · rw [hb] at h2; exact absurd h2.1 (by simp)
       · exact .inr ⟨e', h1, h2⟩
def Waits (ops : Array Oper) (i j : Nat) : Prop := ∃ o, ops[j]? = some o ∧ ∃ e ∈ o.after, bindsB e = true ∧ e.on = i
structure DrawD (ops : Array Oper) (tb : List (Nat × Nat)) : Prop where
 len : tb.length = ops.size
 tab : ∀ (j : Nat) (o : Oper), ops[j]? = some o → tb[j]? = some (j, edgeM o.after.toList 0)
 back : ∀ i j, Waits ops i j → i < j
 dst : ∀ (i j : Nat) (o q : Oper) (t : Tmp), ops[j]? = some o → ops[i]? = some q → i ≠ j → q.dst = some t → o.dst ≠ some t
 reads : ∀ (i j : Nat) (o q : Oper) (t : Tmp), ops[j]? = some o → ops[i]? = some q → i ≠ j → q.dst = some t → t ∈ looks ops.toList o → Waits ops i j ∨ Waits ops j i
 sel : ∀ (j : Nat) (o : Oper) cs b, ops[j]? = some o → o.op ≠ .select cs b
theorem tabOk_spec : ∀ (os : List Oper) (tab : List (Nat × Nat)) (n : Nat), tabOk os tab n = true → tab.length = os.length ∧ ∀ (j : Nat) o, os[j]? = some o → tab[j]? = some (n + j, edgeM o.after.toList 0) ∧ ∀ e ∈ o.after, bindsB e = true → e.on < n + j
 | [], [], n, _ => ⟨rfl, fun j o h => by simp at h⟩
 | o :: os, (k, b) :: tab, n, h => by
   simp only [tabOk, Bool.and_eq_true] at h
   obtain ⟨⟨⟨h1, h2⟩, h3⟩, h4⟩ := h
   obtain ⟨g1, g2⟩ := tabOk_spec os tab (n + 1) h4
   refine ⟨by simp [g1], fun j q hq => ?_⟩
   cases j with
   | zero =>
     simp at hq
     subst hq
     refine ⟨by simp [Nat.eq_of_beq_eq_true h1, Nat.eq_of_beq_eq_true h2], fun e he hb => ?_⟩
     have := List.all_eq_true.1 h3 e (by simpa using he)
     simp only [hb, Bool.not_true, Bool.or_false] at this
     exact Nat.lt_of_succ_le (Nat.le_of_ble_eq_true this)
   | succ j =>
     obtain ⟨g3, g4⟩ := g2 j q (by simpa using hq)
     refine ⟨by simpa [Nat.add_assoc, Nat.add_comm 1] using g3, fun e he hb => by have := g4 e he hb; omega⟩
 | [], _ :: _, n, h => by simp [tabOk] at h
 | _ :: _, [], n, h => by simp [tabOk] at h
theorem pairsOk_spec {all : List Oper} {T : List (Nat × Nat)} {j b : Nat} {o : Oper} : ∀ {qs : List Oper} {t : List (Nat × Nat)}, pairsOk all T j b o qs t = true → t.length = qs.length → ∀ (i : Nat) q p, qs[i]? = some q → t[i]? = some p → pairOk all j b o p.1 p.2 q = true
 | [], t, _, _, i, q, p, hq, _ => by simp at hq
 | q' :: qs, (k, c) :: t, h, hl, i, q, p, hq, hp => by
   simp only [pairsOk, Bool.and_eq_true] at h
   cases i with
   | zero => simp at hq hp; subst hq; subst hp; exact h.1
   | succ i => exact pairsOk_spec h.2 (by simpa using hl) i q p (by simpa using hq) (by simpa using hp)
 | _ :: _, [], _, hl, i, q, p, hq, _ => by simp at hl
theorem allPairs_spec {all : List Oper} {T : List (Nat × Nat)} : ∀ {os : List Oper} {t : List (Nat × Nat)}, allPairs all T os t = true → t.length = os.length → ∀ (j : Nat) o p, os[j]? = some o → t[j]? = some p → pairsOk all T p.1 p.2 o all T = true
 | [], t, _, _, i, q, p, hq, _ => by simp at hq
 | q' :: qs, (k, c) :: t, h, hl, i, q, p, hq, hp => by
   simp only [allPairs, Bool.and_eq_true] at h
   cases i with
   | zero => simp at hq hp; subst hq; subst hp; exact h.1
   | succ i => exact allPairs_spec h.2 (by simpa using hl) i q p (by simpa using hq) (by simpa using hp)
 | _ :: _, [], _, hl, i, q, p, hq, _ => by simp at hl
theorem memT_iff (t : Nat) : ∀ l : List Nat, pairOk.memT t l = true ↔ t ∈ l
 | [] => by simp [pairOk.memT]
 | x :: l => by
   simp only [pairOk.memT, Bool.or_eq_true, memT_iff t l, List.mem_cons]
   constructor
   · rintro (h | h)
     · exact .inl (Nat.eq_of_beq_eq_true h).symm
     · exact .inr h
   · rintro (rfl | h)
     · exact .inl (Nat.beq_refl _)
     · exact .inr h
theorem noSel_spec : ∀ {os : List Oper}, noSel os = true → ∀ o ∈ os, ∀ cs b, o.op ≠ .select cs b
 | [], _, o, ho => by simp at ho
 | q :: os, h, o, ho => by
   unfold noSel at h
   split at h
   · simp at h
   · rename_i hne
     rcases List.mem_cons.1 ho with rfl | ho
     · exact fun cs b e => hne cs b e
     · exact noSel_spec h o ho
theorem waits_inM {i j : Nat} {o : Oper} (h : ops[j]? = some o) : inM i (edgeM o.after.toList 0) = true ↔ Waits ops i j := by
 rw [inM_edgeM]
 simp only [inM_zero, Bool.false_eq_true, false_or]
 constructor
 · rintro ⟨e, he, h1⟩; exact ⟨o, h, e, by simpa using he, h1⟩
 · rintro ⟨o', h', e, he, h1⟩
   rw [h] at h'
   injection h' with h'
   subst h'
   exact ⟨e, by simpa using he, h1⟩
theorem inM_slotsM (t : Nat) : ∀ l : List Nat, inM t (slotsM l) = true ↔ t ∈ l
 | [] => by simp [slotsM, inM_zero]
 | x :: l => by
   unfold slotsM
   rw [inM_add, Bool.or_eq_true, inM_slotsM t l, decide_eq_true_eq, List.mem_cons]
   exact ⟨fun h => h.symm, fun h => h.symm⟩
theorem memT_slots (t : Nat) (l : List Nat) : inM t (slotsM l) = pairOk.memT t l := by
 have h1 := inM_slotsM t l
 have h2 := memT_iff t l
 cases h3 : inM t (slotsM l) <;> cases h4 : pairOk.memT t l <;> simp_all
theorem pairB_eq (all : List Oper) (j b : Nat) (o : Oper) (i c : Nat) (q : Oper) : pairB j b (slotsM (looks all o)) o.dst i c q.dst = pairOk all j b o i c q := by
 unfold pairB pairOk
 cases q.dst with
 | none => rfl
 | some t =>
   dsimp only
   rw [memT_slots]
theorem pairsB_eq (all : List Oper) (T : List (Nat × Nat)) (j b : Nat) (o : Oper) : ∀ (qs : List Oper) (t : List (Nat × Nat)), pairsB j b (slotsM (looks all o)) o.dst qs t = pairsOk all T j b o qs t
 | [], t => by cases t <;> simp [pairsB, pairsOk]
 | _ :: _, [] => by simp [pairsB, pairsOk]
 | q :: qs, (i, c) :: t => by
   unfold pairsB pairsOk
   rw [pairB_eq, pairsB_eq all T j b o qs t]
   cases pairOk all j b o i c q <;> rfl
theorem allPairsB_eq (all : List Oper) (T : List (Nat × Nat)) : ∀ (os : List Oper) (t : List (Nat × Nat)), allPairsB all T os t = allPairs all T os t
 | [], t => by cases t <;> simp [allPairsB, allPairs]
 | _ :: _, [] => by simp [allPairsB, allPairs]
 | o :: os, (j, b) :: t => by
   unfold allPairsB allPairs
   rw [forceN_eq, pairsB_eq all T, allPairsB_eq all T os t]
   cases pairsOk all T j b o all T <;> rfl
theorem drawOk_spec (h : drawOk ops.toList tab = true) : DrawD ops tab := by
 simp only [drawOk, Bool.and_eq_true, allPairsB_eq] at h
 obtain ⟨⟨h1, h2⟩, h3⟩ := h
 obtain ⟨g1, g2⟩ := tabOk_spec _ _ _ h1
 have ht : ∀ (j : Nat) (o : Oper), ops[j]? = some o → tab[j]? = some (j, edgeM o.after.toList 0) := fun j o ho => by simpa using (g2 j o (by simpa using ho)).1
 have pr : ∀ (i j : Nat) (o q : Oper), ops[j]? = some o → ops[i]? = some q → pairOk ops.toList j (edgeM o.after.toList 0) o i (edgeM q.after.toList 0) q = true := by
  intro i j o q ho hq
  have a1 := allPairs_spec h2 g1 j o _ (by simpa using ho) (ht j o ho)
  exact pairsOk_spec a1 g1 i q _ (by simpa using hq) (ht i q hq)
 refine ⟨by simpa using g1, ht, ?_, ?_, ?_, ?_⟩
 · rintro i j ⟨o, ho, e, he, hb, rfl⟩
   simpa using (g2 j o (by simpa using ho)).2 e he hb
 · intro i j o q t ho hq hne hd hod
   have := pr i j o q ho hq
   unfold pairOk at this
   rw [hd] at this
   simp only at this
   split at this
   · rename_i hij; exact hne (Nat.eq_of_beq_eq_true hij)
   · rw [hod] at this; simp at this
 · intro i j o q t ho hq hne hd hl
   have := pr i j o q ho hq
   unfold pairOk at this
   rw [hd] at this
   simp only at this
   split at this
   · rename_i hij; exact absurd (Nat.eq_of_beq_eq_true hij) hne
   · simp only [Bool.and_eq_true, Bool.or_eq_true, Bool.not_eq_true'] at this
     rcases this.2 with h | h | h
     · have := (memT_iff t _).2 hl; rw [h] at this; exact absurd this (by simp)
     · exact .inl ((waits_inM ho).1 h)
     · exact .inr ((waits_inM hq).1 h)
 · intro j o cs b ho
   exact noSel_spec h3 o (by
    have : ops.toList[j]? = some o := by simpa using ho
    exact List.mem_of_getElem? this) cs b
structure Fills (ops : Array Oper) (S : Nat → Prop) (z : Nat → Value) (a0 x : Array Value) : Prop where
 size : x.size = a0.size
 at_ : ∀ t, (∃ j o, ops[j]? = some o ∧ o.dst = some t ∧ S j ∧ x.getD t undef = z j) ∨ ((∀ j o, ops[j]? = some o → o.dst = some t → ¬ S j) ∧ x.getD t undef = a0.getD t undef)
variable {S S' : Nat → Prop} {z : Nat → Value} {a0 : Array Value} {x y : Act}
theorem getD_put (a : Act) (d : Option Tmp) (v : Value) (t : Nat) : (a.put d v).tmps.getD t undef = if d = some t ∧ t < a.tmps.size then v else a.tmps.getD t undef := by
 cases d with
 | none => simp [Act.put]
 | some d =>
   simp only [Act.put, Array.getD_eq_getD_getElem?, Option.some.injEq]
   by_cases h : d = t
   · subst h
     by_cases hl : d < a.tmps.size
     · simp [hl]
     · simp [hl]
   · simp [h, Array.getElem?_setIfInBounds_ne h]
theorem Fills.get (h : Fills ops S z a0 x.tmps) (D : DrawD ops tab) {j : Nat} {o : Oper} {t : Nat} (ho : ops[j]? = some o) (hd : o.dst = some t) (hS : S j) : x.tmps.getD t undef = z j := by
 rcases h.at_ t with ⟨i, q, hq, hqd, hSi, hv⟩ | ⟨hn, _⟩
 · by_cases e : i = j
   · subst e; exact hv
   · exact absurd hd (D.dst i j o q t ho hq e hqd)
 · exact absurd hS (hn j o ho hd)
theorem Fills.put (h : Fills ops S z a0 x.tmps) (D : DrawD ops tab) {j : Nat} {o : Oper} (ho : ops[j]? = some o) (hlt : ∀ t, o.dst = some t → t < x.tmps.size) (hS' : ∀ i, S' i ↔ S i ∨ i = j) : Fills ops S' z a0 (x.put o.dst (z j)).tmps := by
 refine ⟨by rw [(put_size _ _ _).1]; exact h.size, fun t => ?_⟩
 rw [getD_put]
 by_cases hd : o.dst = some t
 · rw [if_pos ⟨hd, hlt t hd⟩]
   exact .inl ⟨j, o, ho, hd, (hS' j).2 (.inr rfl), rfl⟩
 · rw [if_neg (fun h => hd h.1)]
   rcases h.at_ t with ⟨i, q, hq, hqd, hSi, hv⟩ | ⟨hn, hv⟩
   · exact .inl ⟨i, q, hq, hqd, (hS' i).2 (.inl hSi), hv⟩
   · refine .inr ⟨fun i q hq hqd hSi => ?_, hv⟩
     rcases (hS' i).1 hSi with h1 | rfl
     · exact hn i q hq hqd h1
     · rw [ho] at hq; injection hq with hq; subst hq; exact hd hqd
theorem Fills.congr {z' : Nat → Value} (h : Fills ops S z a0 x.tmps) (hS : ∀ i, S i ↔ S' i) (hz : ∀ i, S i → z' i = z i) : Fills ops S' z' a0 x.tmps := by
 refine ⟨h.size, fun t => ?_⟩
 rcases h.at_ t with ⟨i, q, hq, hqd, hSi, hv⟩ | ⟨hn, hv⟩
 · exact .inl ⟨i, q, hq, hqd, (hS i).1 hSi, by rw [hz i hSi]; exact hv⟩
 · exact .inr ⟨fun i q hq hqd hSi => hn i q hq hqd ((hS i).2 hSi), hv⟩
theorem Fills.agree (h : Fills ops S z a0 x.tmps) (h' : Fills ops S' z a0 y.tmps) (D : DrawD ops tab) {j : Nat} {o : Oper} (ho : ops[j]? = some o) (hp : ∀ i, Waits ops i j → S i ∧ S' i) (hq : ∀ i, Waits ops j i → ¬ S i ∧ ¬ S' i) (hS : ¬ S j) (hS' : ¬ S' j) :
  ∀ t ∈ looks ops.toList o, x.tmps.getD t undef = y.tmps.getD t undef := by
 intro t ht
 have key : ∀ {S1 S2 : Nat → Prop} {i : Nat} {q : Oper}, (∀ i, Waits ops i j → S1 i ∧ S2 i) → (∀ i, Waits ops j i → ¬ S1 i ∧ ¬ S2 i) → ¬ S1 j → ops[i]? = some q → q.dst = some t → S1 i → S2 i := by
  intro S1 S2 i q h1 h2 h3 hiq hd hSi
  have hne : i ≠ j := fun e => by subst e; exact h3 hSi
  rcases D.reads i j o q t ho hiq hne hd ht with hw | hw
  · exact (h1 i hw).2
  · exact absurd hSi (h2 i hw).1
 rcases h.at_ t with ⟨i, q, hiq, hqd, hSi, hv⟩ | ⟨hn, hv⟩
 · rw [hv, h'.get D hiq hqd (key hp hq hS hiq hqd hSi)]
 · rcases h'.at_ t with ⟨i, q, hiq, hqd, hSi, hv'⟩ | ⟨_, hv'⟩
   · exact absurd (key (fun i hi => (hp i hi).symm) (fun i hi => (hq i hi).symm) hS' hiq hqd hSi) (hn i q hiq hqd)
   · rw [hv, hv']
theorem tmpsOf_mem : ∀ {l : List Operand} {t : Nat}, Operand.tmp t ∈ l → t ∈ tmpsOf l
 | [], t, h => by simp at h
 | x :: l, t, h => by
   rcases List.mem_cons.1 h with rfl | h
   · simp [tmpsOf]
   · have := tmpsOf_mem h
     unfold tmpsOf
     split <;> first | (rename_i h1; simp at h1; done) | skip
     · rename_i h1; injection h1 with h1 h2; subst h2; exact List.mem_cons_of_mem _ this
     · rename_i h1; injection h1 with h1 h2; subst h2; exact this
theorem looks_tmps {o : Oper} {t : Nat} (h : t ∈ tmpsOf o.op.operands.toList) : t ∈ looks ops.toList o := by
 unfold looks
 split
 · split
   · exact List.mem_cons_of_mem _ h
   · exact h
 · exact h
theorem same_op (D : DrawD ops tab) {j : Nat} {o : Oper} (ho : ops[j]? = some o) (hs : x.tmps.size = y.tmps.size) (h : ∀ t ∈ looks ops.toList o, x.tmps.getD t undef = y.tmps.getD t undef) :
  execOp x.eval o = execOp y.eval o ∧ Region.wanted o (yielded ops x.tmps) = Region.wanted o (yielded ops y.tmps) := by
 constructor
 · refine execOp_congr o (fun cs b => D.sel j o cs b ho) fun u hu => ?_
   cases u with
   | tmp t => exact h t (looks_tmps (tmpsOf_mem (by simpa using hu)))
   | _ => rfl
 · unfold Region.wanted
   cases hg : o.guard with
   | none => rfl
   | some gw =>
     obtain ⟨g, want⟩ := gw
     have : yielded ops x.tmps g = yielded ops y.tmps g := by
      unfold yielded
      cases hd : (ops[g]?).bind (·.dst) with
      | none => rfl
      | some t =>
        have ht : t ∈ looks ops.toList o := by
         unfold looks
         rw [hg]
         have : gslot ops.toList g = some t := by
          unfold gslot
          rw [nth_eq]
          cases hq : ops[g]? with
          | none => rw [hq] at hd; simp at hd
          | some q => rw [hq] at hd; simp at hd; simp [hq, hd]
         simp [this]
        have hv := h t ht
        have : x.tmps[t]? = y.tmps[t]? := by
         by_cases hl : t < x.tmps.size
         · have hl' : t < y.tmps.size := hs ▸ hl
           simp only [Array.getD_eq_getD_getElem?, Array.getElem?_eq_getElem hl, Array.getElem?_eq_getElem hl', Option.getD_some] at hv ⊢
           rw [hv]
         · have hl' : ¬ t < y.tmps.size := hs ▸ hl
           rw [Array.getElem?_eq_none (Nat.le_of_not_lt hl), Array.getElem?_eq_none (Nat.le_of_not_lt hl')]
        simp [this]
     simp only [this]
end
end Go.Proofs.YtjjpakdlkjaigaaGreat

/- A symbolic executor for loaded Go code: drawn regions: the ghost's frame. -/
namespace Go.Proofs.YtjjpakdlkjaigaaGreat
open Go.RowKit
section
variable {P : Program} {τ : Tys} {w0 : World} {base M nn : Nat} {aS : List (Array Value)} {ops : Array Oper} {tab : List (Nat × Nat)} {w : World} {a0 oldA : Array Value}
def Comes' (P : Program) (ops : Array Oper) (w : World) (g : Act) (o : Oper) (v : Value) : Prop :=
 (Region.wanted o (yielded ops g.tmps) = true ∧ (execOp g.eval o).run P w = .ok (.value v) w) ∨ (Region.wanted o (yielded ops g.tmps) = false ∧ v = undef)
def RunFact (P : Program) (ops : Array Oper) (w : World) (z : Nat → Value) (a0 : Array Value) (j : Nat) (o : Oper) : Prop :=
 ∃ (g : Act) (S : Nat → Prop), Fills ops S z a0 g.tmps ∧ (∀ k, S k → k < j) ∧ (∀ k, Waits ops k j → S k) ∧ Comes' P ops w g o (z j)
theorem RunFact.congr {z z' : Nat → Value} {j : Nat} {o : Oper} (h : RunFact P ops w z a0 j o) (hz : ∀ k, k ≤ j → z' k = z k) : RunFact P ops w z' a0 j o := by
 obtain ⟨g, S, h1, h2, h3, h4⟩ := h
 exact ⟨g, S, h1.congr (fun _ => Iff.rfl) (fun i hi => hz i (Nat.le_of_lt (h2 i hi))), h2, h3, by rw [hz j (Nat.le_refl _)]; exact h4⟩
def Avl (ops : Array Oper) (p av j : Nat) (o : Oper) : Prop := (isR o = true ∧ ∀ k, Waits ops k j → inM k av = true) ∨ (isR o = false ∧ inM j p = true)
def AtV (τ : Tys) (w0 : World) (base M nn : Nat) (aS : List (Array Value)) (s : St) (a : Act) (w : World) (x : SV) (v : Value) : Prop :=
 ∃ E, Den τ w0 E s (a.tmps :: aS) w ∧ E.base = base ∧ M ≤ E.M ∧ nn ≤ a.tmps.size ∧ a.defers = [] ∧ vd3 E s.rows w x v
theorem AtV.put {s : St} {g : Act} {x : SV} {v : Value} {d : Tmp} (h : AtV τ w0 base M nn aS s g w x v) (hd : d < nn) : At τ w0 base M nn aS (putS d x s) (g.put (some d) v) w := by
 obtain ⟨E, h0, h1, h2, h3, h4, h5⟩ := h
 refine ⟨E, ?_, h1, h2, by rw [(put_size _ _ _).1]; exact h3, by rw [(put_size _ _ _).2]; exact h4⟩
 obtain ⟨fr, stk, bx, rw', dep⟩ := s
 exact h0.put (d := some d) h5 fun t ht => by simp at ht; subst ht; exact Nat.lt_of_lt_of_le hd h3
theorem At.junk {s : St} {g : Act} (h : At τ w0 base M nn aS s g w) (v : Value) : AtV τ w0 base M nn aS s g w .junk v := by
 obtain ⟨E, h0, h1, h2, h3, h4⟩ := h
 exact ⟨E, h0, h1, h2, h3, h4, trivial⟩
theorem At.skipped {s : St} {g : Act} (h : At τ w0 base M nn aS s g w) : AtV τ w0 base M nn aS s g w (.tup []) undef := by
 obtain ⟨E, h0, h1, h2, h3, h4⟩ := h
 exact ⟨E, h0, h1, h2, h3, h4, [], rfl, L0.nil⟩
theorem skipV_vd {E : Env} {R : List (Nat × Ent)} {x : SV} {v : Value} (h : vd3 E R w x v) : vd3 E R w (skipV x) v := by
 unfold skipV
 split
 · exact h
 · trivial
theorem skipV_undef {E : Env} {R : List (Nat × Ent)} (x : SV) {v : Value} (h : vd3 E R w (.tup []) v) : vd3 E R w (skipV x) v := by
 unfold skipV
 split
 · exact h
 · trivial
theorem At.second {s : St} {g : Act} {old : List (Nat × SV)} (h : At τ w0 base M nn (oldA :: aS) s g w) (hs : ∃ r, s.stk = old :: r) (t : Nat) : AtV τ w0 base M nn (oldA :: aS) s g w (lkv old t) (oldA.getD t undef) := by
 obtain ⟨E, h0, h1, h2, h3, h4⟩ := h
 obtain ⟨r, hr⟩ := hs
 obtain ⟨b, hb, hf⟩ := h0.fr 1 old (by simp [hr])
 simp at hb
 subst hb
 exact ⟨E, h0, h1, h2, h3, h4, hf t⟩
theorem AtV.conv {s : St} {g : Act} {x y : SV} {v : Value} (h : AtV τ w0 base M nn aS s g w x v) (hc : ∀ (E : Env) (R : List (Nat × Ent)), vd3 E R w x v → vd3 E R w y v) : AtV τ w0 base M nn aS s g w y v := by
 obtain ⟨E, h0, h1, h2, h3, h4, h5⟩ := h
 exact ⟨E, h0, h1, h2, h3, h4, hc _ _ h5⟩
theorem RwLe.refl (R : List (Nat × Ent)) : RwLe R R := fun _ _ h => h
theorem relV_spec {x v : SV} {K : SV → Prop} (h : relV (some x) v K) : ∃ v', K v' ∧ (∀ (E : Env) (R : List (Nat × Ent)) (w : World) (u : Value), vd3 E R w x u → vd3 E R w v' u) ∧ ∀ (E : Env) (R : List (Nat × Ent)) (w : World) (u : Value), vd3 E R w v u → vd3 E R w v' u := by
 unfold relV at h
 dsimp only at h
 split at h
 · rename_i b c
   have hbc := h.1.out
   subst hbc
   exact ⟨_, h.2, fun _ _ _ _ h => h, fun _ _ _ _ h => h⟩
 · exact ⟨v, h.2, fun E R w u hx => sub_vd3 (RwLe.refl R) h.1 hx, fun _ _ _ _ h => h⟩
theorem RV.wp_good {r : RV} {K Y : SV → Prop} (h : r.wp K) (hg : r.good Y) : ∃ v, K v ∧ Y v := by
 cases r with
 | bad => exact h.elim
 | ok v => simp only [RV.wp, SV.force_eq] at h; exact ⟨v, h, hg⟩
 | ob q v => simp only [RV.wp, SV.force_eq] at h; exact ⟨v, h.2 h.1.out, hg h.1.out⟩
theorem setLit_stk (t : Nat) (b : Bool) (s : St) : (setLit t b s).stk = s.stk := by cases s; rfl
theorem putS_stk (d : Nat) (x : SV) (s : St) : (putS d x s).stk = s.stk := by cases s; rfl
theorem guardO_stk {o : Oper} {s : St} {yes no : St → Prop} (hw : guardO ops.toList o s yes no) : guardO ops.toList o s (fun s' => yes s' ∧ s'.stk = s.stk) (fun s' => no s' ∧ s'.stk = s.stk) := by
 unfold guardO at hw ⊢
 split
 · rename_i hg; rw [hg] at hw; exact ⟨hw, rfl⟩
 · rename_i j want hg
   rw [hg] at hw
   dsimp only at hw
   split
   · rename_i h; rw [h] at hw; exact hw
   · rename_i t ht
     rw [ht] at hw
     dsimp only at hw
     split
     · rename_i b hb
       rw [hb] at hw
       dsimp only at hw
       split
       · rename_i h; rw [h] at hw; exact ⟨hw, rfl⟩
       · rename_i h; rw [h] at hw; exact ⟨hw, rfl⟩
     · rename_i b hb
       rw [hb] at hw
       dsimp only at hw
       split
       · exact ⟨fun h => ⟨hw.1 h, setLit_stk _ _ _⟩, fun h => ⟨hw.2 h, setLit_stk _ _ _⟩⟩
       · exact ⟨fun h => ⟨hw.1 h, setLit_stk _ _ _⟩, fun h => ⟨hw.2 h, setLit_stk _ _ _⟩⟩
     · rename_i vs hb
       rw [hb] at hw
       exact ⟨hw, rfl⟩
     · rename_i h1 h2 h3
       split at hw
       · rename_i b hb; exact absurd hb (h1 b)
       · rename_i b hb; exact absurd hb (h2 b)
       · rename_i b hb; exact absurd hb (h3 b)
       · exact hw
variable (hτ : TysOk P τ)
include hτ
theorem fill_sound (D : DrawD ops tab) {p avO su : Nat} {old : List (Nat × SV)} {Dn : Nat → Prop} {z : Nat → Value} (hdst : dstOk nn ops.toList = true)
  (hW : ∀ (j : Nat) (o : Oper), ops[j]? = some o → isR o = false → inM j p = true → Dn j)
  (hR : ∀ (j : Nat) (o : Oper), ops[j]? = some o → isR o = true → Dn j → inM j avO = true)
  (hsu : ∀ j, inM j su = true → Dn j)
  (hold : ∀ (j : Nat) (o : Oper) (t : Tmp), ops[j]? = some o → o.dst = some t → Dn j → oldA.getD t undef = z j)
  {K : Nat → St → Prop} {G : Prop}
  (hK : ∀ (av : Nat) (s : St) (g : Act) (z' : Nat → Value), K av s → At τ w0 base M nn (oldA :: aS) s g w → (∃ r, s.stk = old :: r) → Fills ops (fun i => inM i av = true) z' a0 g.tmps → (∀ j, Dn j → z' j = z j) →
    (∀ (j : Nat) (o : Oper), ops[j]? = some o → (inM j av = true ↔ Avl ops p av j o)) → (∀ (j : Nat) (o : Oper), ops[j]? = some o → isR o = true → inM j av = true → ¬ Dn j → RunFact P ops w z' a0 j o) → G) :
  ∀ (os : List Oper) (tb : List (Nat × Nat)) (m av : Nat) (s : St) (g : Act) (z' : Nat → Value), ops.toList.drop m = os → tab.drop m = tb → fill τ ops.toList p avO su old os tb av s K → At τ w0 base M nn (oldA :: aS) s g w → (∃ r, s.stk = old :: r) →
   Fills ops (fun i => inM i av = true) z' a0 g.tmps → (∀ j, Dn j → z' j = z j) → (∀ (j : Nat) (o : Oper), ops[j]? = some o → j < m → (inM j av = true ↔ Avl ops p av j o)) → (∀ j, inM j av = true → j < m) →
   (∀ (j : Nat) (o : Oper), ops[j]? = some o → isR o = true → inM j av = true → ¬ Dn j → RunFact P ops w z' a0 j o) → G := by
 intro os
 induction os with
 | nil =>
   intro tb m av s g z' hos htb hw hat hstk hF hD hA hU hRun
   have htn : tb = [] := by
    have h1 : ops.toList.length ≤ m := by simpa using List.drop_eq_nil_iff.1 hos
    rw [← htb]
    exact List.drop_eq_nil_of_le (by rw [D.len]; simpa using h1)
   subst htn
   have hm : ∀ (j : Nat) (o : Oper), ops[j]? = some o → j < m := fun j o ho => by
    have h1 : ops.toList.length ≤ m := by simpa using List.drop_eq_nil_iff.1 hos
    have h2 := (Array.getElem?_eq_some_iff.1 ho).1
    simp at h1
    omega
   exact hK av s g z' hw hat hstk hF hD (fun j o ho => hA j o ho (hm j o ho)) hRun
 | cons o os ih =>
   intro tb m av s g z' hos htb hw hat hstk hF hD hA hU hRun
   have ho : ops[m]? = some o := by
    have : (ops.toList.drop m)[0]? = some o := by rw [hos]; rfl
    rw [List.getElem?_drop] at this
    simpa using this
   have hos' : ops.toList.drop (m + 1) = os := by
    have : (ops.toList.drop m).drop 1 = os := by rw [hos]; rfl
    simpa [List.drop_drop] using this
   have htab := D.tab m o ho
   have htb0 : tb = (m, edgeM o.after.toList 0) :: tab.drop (m + 1) := by
    rw [← htb]
    have hlt := (List.getElem?_eq_some_iff.1 htab).1
    rw [List.drop_eq_getElem_cons hlt]
    congr 1
    exact (List.getElem?_eq_some_iff.1 htab).2
   subst htb0
   have hdn : ∀ t, o.dst = some t → t < nn := dstOk_mem hdst o (by
    have : o ∈ ops.toList.drop m := by rw [hos]; simp
    exact List.mem_of_mem_drop this)
   have hmav : inM m av = false := by
    cases h : inM m av with
    | false => rfl
    | true => exact absurd (hU m h) (Nat.lt_irrefl _)
   -- one more has run
   have next : ∀ (s1 : St) (g1 : Act) (v0 : Value), At τ w0 base M nn (oldA :: aS) s1 (g.put o.dst v0) w → (∃ r, s1.stk = old :: r) → (Dn m → v0 = z m) → (isR o = true → ¬ Dn m → Comes' P ops w g o v0) → Avl ops p av m o →
     fill τ ops.toList p avO su old os (tab.drop (m + 1)) (addM m av) s1 K → G := by
    intro s1 _ v0 hat1 hstk1 hDm hcm havl hfill
    let z2 : Nat → Value := fun k => if k = m then v0 else z' k
    have hz2 : ∀ k, k ≠ m → z2 k = z' k := fun k hk => by simp [z2, hk]
    have hz2m : z2 m = v0 := by simp [z2]
    have hF2 : Fills ops (fun i => inM i av = true) z2 a0 g.tmps := hF.congr (fun _ => Iff.rfl) fun i hi => hz2 i (Nat.ne_of_lt (hU i hi))
    have hsz : nn ≤ g.tmps.size := by obtain ⟨_, _, _, _, h, _⟩ := hat; exact h
    have hin : ∀ i, inM i (addM m av) = true ↔ inM i av = true ∨ i = m := fun i => by rw [inM_add]; simp
    refine ih _ (m + 1) (addM m av) s1 (g.put o.dst v0) z2 hos' rfl hfill hat1 hstk1 ?_ ?_ ?_ ?_ ?_
    · rw [← hz2m]
      exact hF2.put D ho (fun t ht => Nat.lt_of_lt_of_le (hdn t ht) hsz) hin
    · intro j hj
      by_cases e : j = m
      · subst e; rw [hz2m]; exact hDm hj
      · rw [hz2 j e]; exact hD j hj
    · intro j q hq hlt
      have hmono : ∀ (j : Nat) (q : Oper), ops[j]? = some q → j ≤ m → (Avl ops p (addM m av) j q ↔ Avl ops p av j q) := by
       intro j q hq hle
       unfold Avl
       constructor
       · rintro (⟨h1, h2⟩ | h)
         · exact .inl ⟨h1, fun k hk => ((hin k).1 (h2 k hk)).resolve_right (fun e => by subst e; have := D.back _ _ hk; omega)⟩
         · exact .inr h
       · rintro (⟨h1, h2⟩ | h)
         · exact .inl ⟨h1, fun k hk => (hin k).2 (.inl (h2 k hk))⟩
         · exact .inr h
      rw [hin, hmono j q hq (by omega)]
      by_cases e : j = m
      · subst e
        rw [ho] at hq
        injection hq with hq
        subst hq
        exact ⟨fun _ => havl, fun _ => .inr rfl⟩
      · rw [← hA j q hq (by omega)]
        exact ⟨fun h => h.resolve_right e, .inl⟩
    · intro j hj
      rcases (hin j).1 hj with h | rfl
      · have := hU j h; omega
      · omega
    · intro j q hq hRq hj hnd
      by_cases e : j = m
      · subst e
        rw [ho] at hq
        injection hq with hq
        subst hq
        refine ⟨g, _, hF2, hU, ?_, by rw [hz2m]; exact hcm hRq hnd⟩
        rcases havl with h | h
        · exact h.2
        · rw [hRq] at h; exact absurd h.1 (by simp)
      · have hj' := ((hin j).1 hj).resolve_right e
        exact (hRun j q hq hRq hj' hnd).congr fun k hk => hz2 k (by have := hU j hj'; omega)
   -- it has not run
   have pass : ¬ Avl ops p av m o → fill τ ops.toList p avO su old os (tab.drop (m + 1)) av s K → G := by
    intro hn hfill
    refine ih _ (m + 1) av s g z' hos' rfl hfill hat hstk hF hD ?_ (fun j hj => by have := hU j hj; omega) hRun
    intro j q hq hlt
    by_cases e : j = m
    · subst e
      rw [ho] at hq
      injection hq with hq
      subst hq
      rw [hmav]
      exact ⟨fun h => by simp at h, fun h => absurd h hn⟩
    · exact hA j q hq (by omega)
   have putD : ∀ {s1 : St} {x : SV} {v0 : Value} {d : Tmp}, o.dst = some d → AtV τ w0 base M nn (oldA :: aS) s1 g w x v0 → At τ w0 base M nn (oldA :: aS) (putS d x s1) (g.put o.dst v0) w := by
    intro s1 x v0 d hd h
    rw [hd]
    exact h.put (hdn d hd)
   simp only [fill, forceSt_eq] at hw
   split at hw
   · rename_i d hr hd
     have hav : subM (edgeM o.after.toList 0) av = true ↔ ∀ k, Waits ops k m → inM k av = true := by
      rw [subM_iff]
      exact ⟨fun h k hk => h k ((waits_inM ho).2 hk), fun h k hk => h k ((waits_inM ho).1 hk)⟩
     split at hw
     · rename_i hsub
       have havl : Avl ops p av m o := .inl ⟨hr, hav.1 hsub⟩
       have hat1 := fun (s1 : St) (h : s1.stk = s.stk) => show ∃ r, s1.stk = old :: r by rw [h]; exact hstk
       split at hw
       · rename_i h1 h2
         rw [SV.force_eq, forceN_eq] at hw
         have hDm := hsu m h2
         have hv := hat.second hstk d
         rw [hold m o d ho hd hDm] at hv
         exact next _ g (z m) (putD hd hv) (by rw [putS_stk]; exact hstk) (fun _ => rfl) (fun _ h => absurd hDm h) havl hw
       · rename_i h1 h2
         rw [forceN_eq] at hw
         rcases guardO_sound hat (guardO_stk hw) with ⟨hwd, s1, ⟨g2, gs⟩, g3⟩ | ⟨hwd, s1, ⟨g2, gs⟩, g3⟩
         · obtain ⟨E, e0, e1, e2, e3, e4⟩ := id g3
           obtain ⟨v, hKv, zz, hrun, hvd⟩ := RV.wp_good g2 (evR_good (o := o) hτ e0)
           rw [SV.force_eq] at hKv
           obtain ⟨v', hfill, hx, hv⟩ := relV_spec hKv
           by_cases hDm : Dn m
           · have hv0 := g3.second (hat1 s1 gs) d
             rw [hold m o d ho hd hDm] at hv0
             exact next _ g (z m) (putD hd (hv0.conv fun E R h => hx E R w _ h)) (by rw [putS_stk]; exact hat1 s1 gs) (fun _ => rfl) (fun _ h => absurd hDm h) havl hfill
           · exact next _ g zz (putD hd ⟨E, e0, e1, e2, e3, e4, hv _ _ _ _ hvd⟩) (by rw [putS_stk]; exact hat1 s1 gs) (fun h => absurd h hDm) (fun _ _ => .inl ⟨hwd, hrun⟩) havl hfill
         · rw [SV.force_eq] at g2
           by_cases hDm : Dn m
           · have hv0 := g3.second (hat1 s1 gs) d
             rw [hold m o d ho hd hDm] at hv0
             exact next _ g (z m) (putD hd (hv0.conv fun E R h => skipV_vd h)) (by rw [putS_stk]; exact hat1 s1 gs) (fun _ => rfl) (fun _ h => absurd hDm h) havl g2
           · exact next _ g undef (putD hd (g3.skipped.conv fun E R h => skipV_undef _ h)) (by rw [putS_stk]; exact hat1 s1 gs) (fun h => absurd h hDm) (fun _ _ => .inr ⟨hwd, rfl⟩) havl g2
       · rename_i h1
         have hDm : ¬ Dn m := fun h => by rw [hR m o ho hr h] at h1; exact absurd h1 (by simp)
         rw [forceN_eq] at hw
         rcases guardO_sound hat (guardO_stk hw) with ⟨hwd, s1, ⟨g2, gs⟩, g3⟩ | ⟨hwd, s1, ⟨g2, gs⟩, g3⟩
         · obtain ⟨E, e0, e1, e2, e3, e4⟩ := id g3
           obtain ⟨v, hKv, zz, hrun, hvd⟩ := RV.wp_good g2 (evR_good (o := o) hτ e0)
           exact next _ g zz (putD hd ⟨E, e0, e1, e2, e3, e4, hvd⟩) (by rw [putS_stk]; exact hat1 s1 gs) (fun h => absurd h hDm) (fun _ _ => .inl ⟨hwd, hrun⟩) havl hKv
         · exact next _ g undef (putD hd g3.skipped) (by rw [putS_stk]; exact hat1 s1 gs) (fun h => absurd h hDm) (fun _ _ => .inr ⟨hwd, rfl⟩) havl g2
     · rename_i hsub
       refine pass ?_ hw
       rintro (h | h)
       · rw [hav.2 h.2] at hsub; exact absurd hsub (by simp)
       · rw [hr] at h; exact absurd h.1 (by simp)
   · exact hw.elim
   · rename_i d0 hr
     split at hw
     · rename_i hp
       have hDm := hW m o ho hr hp
       rw [forceN_eq] at hw
       have havl : Avl ops p av m o := .inr ⟨hr, hp⟩
       split at hw
       · rename_i d hd
         rw [SV.force_eq] at hw
         have hv := hat.second hstk d
         rw [hold m o d ho hd hDm] at hv
         exact next _ g (z m) (putD hd hv) (by rw [putS_stk]; exact hstk) (fun _ => rfl) (fun _ h => absurd hDm h) havl hw
       · rename_i hd
         refine next s g (z m) (by rw [hd]; exact hat) hstk (fun _ => rfl) (fun _ h => absurd hDm h) havl hw
     · rename_i hp
       refine pass ?_ hw
       rintro (h | h)
       · rw [hr] at h; exact absurd h.1 (by simp)
       · rw [hp] at h; exact absurd h.2 (by simp)
end
end Go.Proofs.YtjjpakdlkjaigaaGreat

/- A symbolic executor for loaded Go code: drawn regions: every order. -/
namespace Go.Proofs.YtjjpakdlkjaigaaGreat
open Go.RowKit
section
variable {P : Program} {τ : Tys} {w0 : World} {base M nn : Nat} {aS : List (Array Value)} {ops : Array Oper} {tab : List (Nat × Nat)}
theorem nodup_le : ∀ (n : Nat) (l : List Nat), l.Nodup → (∀ j ∈ l, j < n) → l.length ≤ n
 | 0, l, _, h => by
   cases l with
   | nil => simp
   | cons x l => exact absurd (h x (by simp)) (Nat.not_lt_zero _)
 | n + 1, l, hn, h => by
   have h1 : (l.erase n).Nodup := hn.erase n
   have h2 : ∀ j ∈ l.erase n, j < n := by
    intro j hj
    have hj' := List.mem_of_mem_erase hj
    have hne : j ≠ n := fun e => by subst e; exact (List.Nodup.not_mem_erase hn) hj
    have := h j hj'
    omega
   have h3 := nodup_le n _ h1 h2
   have h4 : l.length ≤ (l.erase n).length + 1 := by
    rw [List.length_erase]
    split <;> omega
   omega
theorem wp_transfer {o : Oper} {g a : Act} {w : World} {Mx : Act → World → Prop} {next : Act → World → Prop} {Q : Exit → Act → World → Prop} (he : execOp g.eval o = execOp a.eval o) (h : o.wp P g w Mx fun _ _ _ => False)
  (hdef : ∀ g' w', Mx g' w' → g'.defers = []) (hn : ∀ v w', Mx (g.put o.dst v) w' → next (a.put o.dst v) w') : o.wp P a w next Q := by
 unfold Oper.wp at *
 rw [← he]
 generalize (execOp g.eval o).run P w = r at *
 cases r with
 | ok n w' =>
   cases n <;> simp only [Oper.upon] at h ⊢
   case value v => exact hn v w' h
   case skip => exact hn undef w' h
   case defer d =>
    have := hdef _ _ h
    rw [(put_size _ _ _).2] at this
    simp at this
   case enter f args =>
    refine Calls.mono h fun e w'' he => ?_
    cases e with
    | returned v => exact hn v w'' he
    | panicked c => exact he.elim
    | outgrown => obtain ⟨_, _, hf⟩ := he; exact hf.elim
   case row row args => exact Rows.mono h fun v w'' he => hn v w'' he
 | halt x w' =>
   cases x <;> simp only [Oper.upon] at h
theorem allW_true {p : Nat} : ∀ (os : List Oper) (tb : List (Nat × Nat)), (∀ (j : Nat) o q, os[j]? = some o → tb[j]? = some q → isR o = false → inM q.1 p = true) → allW p os tb = true
 | [], tb, _ => by unfold allW; rfl
 | _ :: _, [], _ => by unfold allW; rfl
 | o :: os, (j, b) :: tb, h => by
   simp only [allW]
   split
   · rename_i h1 h2
     have := h 0 o (j, b) (by simp) (by simp) h1
     rw [this] at h2
     simp at h2
   · exact allW_true os tb fun i q r hq hr => h (i + 1) q r (by simpa using hq) (by simpa using hr)
theorem allW_all {p : Nat} : ∀ (os : List Oper) (tb : List (Nat × Nat)), allW p os tb = true → ∀ (j : Nat) o q, os[j]? = some o → tb[j]? = some q → isR o = false → inM q.1 p = true
 | [], tb, _, j, o, q, h, _, _ => by simp at h
 | _ :: _, [], _, j, o, q, _, h, _ => by simp at h
 | o' :: os, (k, b) :: tb, h, j, o, q, ho, hq, hr => by
   simp only [allW] at h
   split at h
   · simp at h
   · rename_i hne
     cases j with
     | zero =>
       simp at ho hq
       subst ho; subst hq
       cases hp : inM k p with
       | true => rfl
       | false => exact absurd hp (hne hr)
     | succ j => exact allW_all os tb h j o q (by simpa using ho) (by simpa using hq) hr
theorem candO_get {p av : Nat} {F : Nat → Oper → Prop} : ∀ (os : List Oper) (tb : List (Nat × Nat)), candO p av F os tb → ∀ (j : Nat) o q, os[j]? = some o → tb[j]? = some q → isR o = false → inM q.1 p = false → subM q.2 av = true → F q.1 o
 | [], tb, _, j, o, q, h, _, _, _, _ => by simp at h
 | _ :: _, [], _, j, o, q, _, h, _, _, _ => by simp at h
 | o' :: os, (k, b) :: tb, h, j, o, q, ho, hq, hr, hp, hs => by
   simp only [candO] at h
   cases j with
   | zero =>
     simp at ho hq
     subst ho; subst hq
     split at h
     · exact h.1
     · rename_i hne; exact absurd hs (hne hr hp)
   | succ j =>
     have := candO_get os tb (by split at h <;> first | exact h.2 | exact h) j o q (by simpa using ho) (by simpa using hq) hr hp hs
     exact this
theorem sureM_sub {X : Nat → Prop} : ∀ (l : List (Nat × Nat)) (m : Nat), (∀ j, inM j m = true → X j) → (∀ q ∈ l, X q.1 → ∀ k, inM k q.2 = true → X k) → ∀ j, inM j (sureM l m) = true → X j
 | [], m, h, _, j, hj => h j hj
 | (i, b) :: l, m, h, hc, j, hj => by
   simp only [sureM] at hj
   split at hj
   · rename_i hi
     rw [forceN_eq] at hj
     refine sureM_sub l _ ?_ (fun q hq => hc q (List.mem_cons_of_mem _ hq)) j hj
     intro k hk
     rw [inM_or] at hk
     simp only [Bool.or_eq_true] at hk
     rcases hk with hk | hk
     · exact h k hk
     · exact hc (i, b) (by simp) (h i hi) k hk
   · exact sureM_sub l m h (fun q hq => hc q (List.mem_cons_of_mem _ hq)) j hj
theorem At.pop {s : St} {g : Act} {w : World} {x : Array Value} (h : At τ w0 base M nn (x :: aS) s g w) : At τ w0 base M nn aS (pop1 s) g w := by
 obtain ⟨E, hd, h1⟩ := h
 refine ⟨E, ?_, h1⟩
 obtain ⟨fr, stk, bx, rw', dep⟩ := s
 cases stk with
 | nil =>
   refine ⟨hd.below, hd.bM, hd.Mh, hd.owb, ?_, hd.box, hd.own, hd.bb, hd.br, hd.rr⟩
   intro i f hf
   cases i with
   | zero =>
     obtain ⟨b, hb, hfr⟩ := hd.fr 0 f hf
     exact ⟨b, by simpa using hb, hfr⟩
   | succ i => simp [pop1] at hf
 | cons f0 stk =>
   refine ⟨hd.below, hd.bM, hd.Mh, hd.owb, ?_, hd.box, hd.own, hd.bb, hd.br, hd.rr⟩
   intro i f hf
   cases i with
   | zero =>
     obtain ⟨b, hb, hfr⟩ := hd.fr 0 f (by simpa [pop1] using hf)
     exact ⟨b, by simpa using hb, hfr⟩
   | succ i =>
     obtain ⟨b, hb, hfr⟩ := hd.fr (i + 2) f (by simpa [pop1] using hf)
     exact ⟨b, by simpa using hb, hfr⟩
theorem At.refill {old fr0 : List (Nat × SV)} {stk : List (List (Nat × SV))} {bx : List (Nat × (TypeId × List SV))} {rw' : List (Nat × Ent)} {dep : Nat} {g : Act} {w : World} {a0 : Array Value}
  (h : At τ w0 base M nn (a0 :: aS) ⟨old, fr0 :: stk, bx, rw', dep⟩ g w) (hs : a0.size = g.tmps.size) : At τ w0 base M nn (g.tmps :: a0 :: aS) ⟨fr0, old :: fr0 :: stk, bx, rw', dep⟩ { tmps := a0, defers := [] } w := by
 obtain ⟨E, hd, h1, h2, h3, h4⟩ := h
 refine ⟨E, ⟨hd.below, hd.bM, hd.Mh, hd.owb, ?_, hd.box, hd.own, hd.bb, hd.br, hd.rr⟩, h1, h2, by simpa [hs] using h3, rfl⟩
 intro i f hf
 cases i with
 | zero =>
   obtain ⟨b, hb, hfr⟩ := hd.fr 1 f (by simpa using hf)
   exact ⟨b, by simpa using hb, hfr⟩
 | succ i =>
   obtain ⟨b, hb, hfr⟩ := hd.fr i f (by simpa using hf)
   exact ⟨b, by simpa using hb, hfr⟩
theorem Fills.same {S S' : Nat → Prop} {z : Nat → Value} {a0 : Array Value} {x y : Act} (h : Fills ops S z a0 x.tmps) (h' : Fills ops S' z a0 y.tmps) (D : DrawD ops tab) (hS : ∀ (j : Nat) (o : Oper), ops[j]? = some o → (S j ↔ S' j)) : x.tmps = y.tmps := by
 have hsz : x.tmps.size = y.tmps.size := h.size.trans h'.size.symm
 have hv : ∀ t, x.tmps.getD t undef = y.tmps.getD t undef := by
  intro t
  rcases h.at_ t with ⟨i, q, hiq, hqd, hSi, hv⟩ | ⟨hn, hv⟩
  · rw [hv, h'.get D hiq hqd ((hS i q hiq).1 hSi)]
  · rcases h'.at_ t with ⟨i, q, hiq, hqd, hSi, hv'⟩ | ⟨_, hv'⟩
    · exact absurd ((hS i q hiq).2 hSi) (hn i q hiq hqd)
    · rw [hv, hv']
 refine Array.ext hsz fun i h1 h2 => ?_
 have := hv i
 simpa [Array.getD_eq_getD_getElem?, h1, h2] using this
theorem getD_tf {l : Array Bool} {j : Nat} (hj : j < l.size) : l.getD j true = l.getD j false := by simp [Array.getD_eq_getD_getElem?, hj]
theorem opLt {j : Nat} {o : Oper} (h : ops[j]? = some o) : j < ops.size := (Array.getElem?_eq_some_iff.1 h).1
theorem listed_av (D : DrawD ops tab) {listed : Array Bool} {p av : Nat} (hcl : ∀ j, listed.getD j false = true → ∀ k, Waits ops k j → listed.getD k false = true)
  (hW : ∀ (j : Nat) (o : Oper), ops[j]? = some o → isR o = false → (inM j p = true ↔ listed.getD j false = true)) (hA : ∀ (j : Nat) (o : Oper), ops[j]? = some o → (inM j av = true ↔ Avl ops p av j o)) :
  ∀ j, j < ops.size → listed.getD j false = true → inM j av = true := by
 intro j
 induction j using Nat.strongRecOn with
 | _ j ih =>
   intro hj hL
   have ho : ops[j]? = some ops[j] := Array.getElem?_eq_getElem hj
   refine (hA j _ ho).2 ?_
   cases hr : isR ops[j] with
   | true => exact .inl ⟨hr, fun k hk => ih k (D.back k j hk) (Nat.lt_trans (D.back k j hk) hj) (hcl j hL k hk)⟩
   | false => exact .inr ⟨hr, (hW j _ ho hr).2 hL⟩
theorem all_listed (D : DrawD ops tab) {listed : Array Bool} (hsz : listed.size = ops.size) (hr : Region.ready .any ops listed = []) : ∀ j, j < ops.size → listed.getD j false = true := by
 intro j
 induction j using Nat.strongRecOn with
 | _ j ih =>
   intro hj
   cases hL : listed.getD j false with
   | true => rfl
   | false =>
     exfalso
     have ho : ops[j]? = some ops[j] := Array.getElem?_eq_getElem hj
     have : j ∈ Region.ready .any ops listed := by
      refine mem_ready.2 ⟨by rw [getD_tf (by rw [hsz]; exact hj)]; exact hL, ops[j], ho, fun e he hb => ?_⟩
      have hw : Waits ops e.on j := ⟨_, ho, e, he, by rw [bindsB_eq]; exact hb, rfl⟩
      have hlt := D.back _ _ hw
      exact ih e.on hlt (Nat.lt_trans hlt hj)
     rw [hr] at this
     simp at this
theorem node_fin (D : DrawD ops tab) {τ : Tys} {C : Ctx} {Q : Exit → Act → World → Prop} {K : St → Prop} (hK : ∀ s a w, K s → At τ w0 base M nn aS s a w → Q .normal a w) {listed : Array Bool} {a g : Act} {w : World} {f p av : Nat} {s : St} {z : Nat → Value} {a0 : Array Value}
  (hall : ∀ j, j < ops.size → listed.getD j false = true) (hcl : ∀ j, listed.getD j false = true → ∀ k, Waits ops k j → listed.getD k false = true)
  (hat : At τ w0 base M nn (a0 :: aS) s g w) (hF : Fills ops (fun j => inM j av = true) z a0 g.tmps) (hL : Fills ops (fun j => listed.getD j false = true) z a0 a.tmps) (hdef : a.defers = [])
  (hW : ∀ (j : Nat) (o : Oper), ops[j]? = some o → isR o = false → (inM j p = true ↔ listed.getD j false = true)) (hA : ∀ (j : Nat) (o : Oper), ops[j]? = some o → (inM j av = true ↔ Avl ops p av j o))
  (hw : wpNode τ C ops.toList tab f p av s K) : Q .normal a w := by
 have hav := listed_av D hcl hW hA
 have heq : g.tmps = a.tmps := hF.same hL D fun j o ho => ⟨fun _ => hall j (opLt ho), fun h => hav j (opLt ho) h⟩
 have hga : g = a := by
  obtain ⟨_, _, _, _, _, hgd⟩ := id hat
  cases g; cases a
  simp_all
 subst hga
 cases f with
 | zero => exact hw.elim
 | succ f =>
   simp only [wpNode] at hw
   have : allW p ops.toList tab = true := allW_true _ _ fun j o q ho hq hr => by
    have ho' : ops[j]? = some o := by simpa using ho
    rw [D.tab j o ho'] at hq
    injection hq with hq
    subst hq
    exact (hW j o ho' hr).2 (hall j (opLt ho'))
   rw [this] at hw
   exact hK _ _ _ hw hat.pop
theorem set_listed {listed : Array Bool} {i : Nat} (hi : i < listed.size) (j : Nat) : (listed.setIfInBounds i true).getD j false = true ↔ listed.getD j false = true ∨ j = i := by
 by_cases h : i = j
 · subst h
   simp [Array.getD_eq_getD_getElem?, hi]
 · rw [getD_set_ne false h]
   exact ⟨.inl, fun h' => h'.resolve_right fun e => h e.symm⟩
variable (hτ : TysOk P τ) {C : Ctx} (hC : CtxOk P τ C)
include hτ hC
theorem node_sound (D : DrawD ops tab) (hdst : dstOk nn ops.toList = true) {Q : Exit → Act → World → Prop} {K : St → Prop} (hK : ∀ s a w, K s → At τ w0 base M nn aS s a w → Q .normal a w) :
  ∀ (F : Nat) (listed : Array Bool) (a : Act) (w : World) (f p av : Nat) (s : St) (z : Nat → Value) (a0 : Array Value) (g : Act),
   listed.size = ops.size → (∀ l : List Nat, l.Nodup → (∀ j ∈ l, j < ops.size ∧ listed.getD j true = false) → l.length ≤ F) →
   (∀ j, listed.getD j false = true → ∀ k, Waits ops k j → listed.getD k false = true) →
   At τ w0 base M nn (a0 :: aS) s g w → Fills ops (fun j => inM j av = true) z a0 g.tmps → Fills ops (fun j => listed.getD j false = true) z a0 a.tmps → a.defers = [] →
   (∀ (j : Nat) (o : Oper), ops[j]? = some o → isR o = false → (inM j p = true ↔ listed.getD j false = true)) →
   (∀ (j : Nat) (o : Oper), ops[j]? = some o → (inM j av = true ↔ Avl ops p av j o)) →
   (∀ (j : Nat) (o : Oper), ops[j]? = some o → isR o = true → inM j av = true → ¬ listed.getD j false = true → RunFact P ops w z a0 j o) →
   (∀ j, inM j p = true → ∃ o, ops[j]? = some o ∧ isR o = false) →
   wpNode τ C ops.toList tab f p av s K → wpAny P .any ops Q F listed a w := by
 intro F
 induction F with
 | zero =>
   intro listed a w f p av s z a0 g hsz hcnt hcl hat hF hL hdef hW hA hRun hP hw
   have hall : ∀ j, j < ops.size → listed.getD j false = true := by
    intro j hj
    cases h : listed.getD j false with
    | true => rfl
    | false =>
      have := hcnt [j] (by simp) (by
       intro k hk
       simp at hk
       subst hk
       exact ⟨hj, by rw [getD_tf (by rw [hsz]; exact hj)]; exact h⟩)
      simp at this
   refine ⟨?_, node_fin D hK hall hcl hat hF hL hdef hW hA hw⟩
   apply List.eq_nil_iff_forall_not_mem.2
   intro j hj
   obtain ⟨h1, o, ho, _⟩ := mem_ready.1 hj
   have hlt := opLt ho
   rw [getD_tf (by rw [hsz]; exact hlt), hall j hlt] at h1
   simp at h1
 | succ F ih =>
   intro listed a w f p av s z a0 g hsz hcnt hcl hat hF hL hdef hW hA hRun hP hw
   refine ⟨fun hr => node_fin D hK (all_listed D hsz hr) hcl hat hF hL hdef hW hA hw, fun i hi => ?_⟩
   obtain ⟨hun, o, ho, hall⟩ := mem_ready.1 hi
   have hlt := opLt ho
   have hnl : ¬ listed.getD i false = true := by rw [← getD_tf (by rw [hsz]; exact hlt), hun]; simp
   have hwait : ∀ k, Waits ops k i → listed.getD k false = true := by
    rintro k ⟨o', ho', e, he, hb, rfl⟩
    rw [ho] at ho'
    injection ho' with ho'
    subst ho'
    exact hall e he (by rw [← bindsB_eq]; exact hb)
   have hset := set_listed (listed := listed) (i := i) (by rw [hsz]; exact hlt)
   have hav := listed_av D hcl hW hA
   have hdn : ∀ t, o.dst = some t → t < nn := dstOk_mem hdst o (by
    have : ops.toList[i]? = some o := by simpa using ho
    exact List.mem_of_getElem? this)
   have hsz0 : g.tmps.size = a.tmps.size := hF.size.trans hL.size.symm
   have hnn : nn ≤ g.tmps.size := by obtain ⟨_, _, _, _, h, _⟩ := hat; exact h
   have hdl : ∀ t, o.dst = some t → t < a.tmps.size := fun t ht => hsz0 ▸ Nat.lt_of_lt_of_le (hdn t ht) hnn
   -- the same, with one more listed
   have hsz' : (listed.setIfInBounds i true).size = ops.size := by simp [hsz]
   have hcnt' : ∀ l : List Nat, l.Nodup → (∀ j ∈ l, j < ops.size ∧ (listed.setIfInBounds i true).getD j true = false) → l.length ≤ F := by
    intro l hn hl
    have := hcnt (i :: l) (List.nodup_cons.2 ⟨fun hm => by
      have := (hl i hm).2
      rw [getD_tf (by rw [hsz']; exact hlt), (hset i).2 (.inr rfl)] at this
      simp at this, hn⟩) (by
     intro j hj
     rcases List.mem_cons.1 hj with rfl | hj
     · exact ⟨hlt, hun⟩
     · obtain ⟨h1, h2⟩ := hl j hj
       refine ⟨h1, ?_⟩
       rw [getD_tf (by rw [hsz]; exact h1)]
       rw [getD_tf (by rw [hsz']; exact h1)] at h2
       cases h : listed.getD j false with
       | false => rfl
       | true => rw [(hset j).2 (.inl h)] at h2; exact h2)
    simpa using this
   have hcl' : ∀ j, (listed.setIfInBounds i true).getD j false = true → ∀ k, Waits ops k j → (listed.setIfInBounds i true).getD k false = true := by
    intro j hj k hk
    rcases (hset j).1 hj with h | rfl
    · exact (hset k).2 (.inl (hcl j h k hk))
    · exact (hset k).2 (.inl (hwait k hk))
   cases hr : isR o with
   | true =>
     have hi_av : inM i av = true := (hA i o ho).2 (.inl ⟨hr, fun k hk => hav k (Nat.lt_trans (D.back k i hk) hlt) (hwait k hk)⟩)
     obtain ⟨g', S, hS, hSlt, hSw, hcm⟩ := hRun i o ho hr hi_av hnl
     have hag := hS.agree hL D ho (fun k hk => ⟨hSw k hk, hwait k hk⟩) (fun k hk => ⟨fun h => by have := hSlt k h; have := D.back i k hk; omega, fun h => hnl (hcl k h i hk)⟩) (fun h => Nat.lt_irrefl _ (hSlt i h)) hnl
     obtain ⟨he, hwd⟩ := same_op D ho (hS.size.trans hL.size.symm) hag
     have go : wpAny P .any ops Q F (listed.setIfInBounds i true) (a.put o.dst (z i)) w := by
      refine ih _ _ w f p av s z a0 g hsz' hcnt' hcl' hat hF (hL.put D ho hdl hset) (by rw [(put_size _ _ _).2]; exact hdef) ?_ hA ?_ hP hw
      · intro j q hq hrq
        rw [hW j q hq hrq, hset]
        exact ⟨.inl, fun h => h.resolve_right fun e => by subst e; rw [ho] at hq; injection hq with hq; subst hq; rw [hr] at hrq; simp at hrq⟩
      · intro j q hq hrq hj hn
        exact hRun j q hq hrq hj fun h => hn ((hset j).2 (.inl h))
     unfold wpOp
     rw [ho]
     dsimp only
     rcases hcm with ⟨h1, h2⟩ | ⟨h1, h2⟩
     · rw [if_pos (hwd ▸ h1)]
       refine .inl ?_
       unfold Oper.wp
       rw [← he, h2]
       exact go
     · rw [if_neg (by rw [← hwd, h1]; simp), ← h2]
       exact go
   | false =>
     have hip : inM i p = false := by
      cases h : inM i p with
      | false => rfl
      | true => exact absurd ((hW i o ho hr).1 h) hnl
     cases f with
     | zero => exact hw.elim
     | succ f =>
       simp only [wpNode] at hw
       split at hw
       · rename_i h
         have := allW_all _ _ h i o (i, edgeM o.after.toList 0) (by simpa using ho) (D.tab i o ho) hr
         rw [hip] at this
         exact absurd this (by simp)
       · have hcand := candO_get _ _ hw i o _ (by simpa using ho) (D.tab i o ho) hr hip ((subM_iff _ _).2 fun k hk => hav k (by
           have hk := (waits_inM ho).1 hk
           exact Nat.lt_trans (D.back k i hk) hlt) (hwait k ((waits_inM ho).1 hk)))
         simp only [forceN_eq] at hcand
         have hnav : ∀ k, Waits ops i k → ¬ inM k av = true := by
          rintro k hk h
          obtain ⟨q, hq, _⟩ := id hk
          rcases (hA k q hq).1 h with h1 | h1
          · have := (hA i o ho).1 (h1.2 i hk)
            rcases this with h2 | h2
            · rw [hr] at h2; simp at h2
            · rw [hip] at h2; simp at h2
          · exact hnl (hcl k ((hW k q hq h1.1).1 h1.2) i hk)
         have hiav : ¬ inM i av = true := fun h => by
          rcases (hA i o ho).1 h with h2 | h2
          · rw [hr] at h2; simp at h2
          · rw [hip] at h2; simp at h2
         have hag := hF.agree hL D ho (fun k hk => ⟨hav k (Nat.lt_trans (D.back k i hk) hlt) (hwait k hk), hwait k hk⟩) (fun k hk => ⟨hnav k hk, fun h => hnl (hcl k h i hk)⟩) hiav hnl
         obtain ⟨he, hwd⟩ := same_op D ho hsz0 hag
         -- behind it
         have go : ∀ (s' : St) (v : Value) (w' : World), refill τ ops.toList tab (addM i p) av (sureM tab.reverse (addM i p)) (fun av s => wpNode τ C ops.toList tab f (addM i p) av s K) s' → At τ w0 base M nn (a0 :: aS) s' (g.put o.dst v) w' →
           wpAny P .any ops Q F (listed.setIfInBounds i true) (a.put o.dst v) w' := by
          intro s' v w' hrf hat'
          obtain ⟨old, stk, bx, rw', dep⟩ := s'
          cases stk with
          | nil => exact hrf.elim
          | cons fr0 stk =>
            simp only [refill] at hrf
            let z2 : Nat → Value := fun k => if k = i then v else z k
            have hz2 : ∀ k, k ≠ i → z2 k = z k := fun k hk => by simp [z2, hk]
            have hz2i : z2 i = v := by simp [z2]
            have hpin : ∀ j, inM j (addM i p) = true ↔ inM j p = true ∨ j = i := fun j => by rw [inM_add]; simp
            have hpW : ∀ (j : Nat) (q : Oper), ops[j]? = some q → isR q = false → (inM j (addM i p) = true ↔ (listed.setIfInBounds i true).getD j false = true) := by
             intro j q hq hrq
             rw [hpin, hset, hW j q hq hrq]
            have hL2 : Fills ops (fun j => (listed.setIfInBounds i true).getD j false = true) z2 a0 (a.put o.dst v).tmps := by
             have h1 : Fills ops (fun j => listed.getD j false = true) z2 a0 a.tmps := hL.congr (fun _ => Iff.rfl) fun j hj => hz2 j fun e => by subst e; exact hnl hj
             rw [← hz2i]
             exact h1.put D ho hdl hset
            have hgs : a0.size = (g.put o.dst v).tmps.size := by rw [(put_size _ _ _).1]; exact hF.size.symm
            refine fill_sound hτ D (p := addM i p) (avO := av) (su := sureM tab.reverse (addM i p)) (old := old) (Dn := fun j => (listed.setIfInBounds i true).getD j false = true) (z := z2) (a0 := a0) (oldA := (g.put o.dst v).tmps) (aS := a0 :: aS) (w := w') (w0 := w0) (base := base) (M := M) (nn := nn) hdst
             (fun j q hq hrq h => (hpW j q hq hrq).1 h) ?_ ?_ ?_ ?_ ops.toList tab 0 0 _ { tmps := a0, defers := [] } z2 rfl rfl hrf (hat'.refill hgs) ⟨_, rfl⟩ ?_ (fun _ _ => rfl) (fun j q _ hj => absurd hj (Nat.not_lt_zero _)) (fun j hj => by rw [inM_zero] at hj; simp at hj) (fun j q _ _ hj => by rw [inM_zero] at hj; simp at hj)
            · intro j q hq hrq hj
              rcases (hset j).1 hj with h | rfl
              · exact hav j (opLt hq) h
              · rw [ho] at hq; injection hq with hq; subst hq; rw [hr] at hrq; simp at hrq
            · refine sureM_sub _ _ ?_ ?_
              · intro j hj
                rcases (hpin j).1 hj with h | rfl
                · obtain ⟨q, hq, hrq⟩ := hP j h
                  exact (hset j).2 (.inl ((hW j q hq hrq).1 h))
                · exact (hset _).2 (.inr rfl)
              · intro q hq hX k hk
                rw [List.mem_reverse] at hq
                obtain ⟨j, hj⟩ := List.mem_iff_getElem?.1 hq
                have hjl := (List.getElem?_eq_some_iff.1 hj).1
                rw [D.len] at hjl
                have hjo : ops[j]? = some ops[j] := Array.getElem?_eq_getElem hjl
                rw [D.tab j _ hjo] at hj
                injection hj with hj
                subst hj
                exact hcl' j hX k ((waits_inM hjo).1 hk)
            · intro j q t hq hqt hj
              rw [getD_put]
              rcases (hset j).1 hj with h | rfl
              · have hne : j ≠ i := fun e => by subst e; exact hnl h
                rw [if_neg (fun hc => (D.dst j i o q t ho hq hne hqt) hc.1), hz2 j hne]
                exact hF.get D hq hqt (hav j (opLt hq) h)
              · rw [ho] at hq
                injection hq with hq
                subst hq
                rw [if_pos ⟨hqt, Nat.lt_of_lt_of_le (hdn t hqt) hnn⟩, hz2i]
            · intro av' s'' g'' z3 hnode hat'' _ hF'' hz3 hA' hRun'
              refine ih _ _ w' f (addM i p) av' (pop1 s'') z3 a0 g'' hsz' hcnt' hcl' hat''.pop hF'' (hL2.congr (fun _ => Iff.rfl) hz3) (by rw [(put_size _ _ _).2]; exact hdef) hpW hA' hRun' (fun j hj => ((hpin j).1 hj).elim (hP j) fun e => ⟨o, by rw [e]; exact ho, hr⟩) hnode
            · exact ⟨rfl, fun t => .inr ⟨fun j q _ _ hj => by rw [inM_zero] at hj; simp at hj, rfl⟩⟩
         unfold wpOp
         rw [ho]
         dsimp only
         rcases guardO_sound hat hcand with ⟨h1, s1, h2, h3⟩ | ⟨h1, s1, h2, h3⟩
         · rw [if_pos (hwd ▸ h1)]
           refine .inl (wp_transfer (Mx := fun g' w' => ∃ s', refill τ ops.toList tab (addM i p) av (sureM tab.reverse (addM i p)) (fun av s => wpNode τ C ops.toList tab f (addM i p) av s K) s' ∧ At τ w0 base M nn (a0 :: aS) s' g' w') he (stepW_wp hτ hC h3 hdn h2 fun s' a' w' hk hat => ⟨s', hk, hat⟩) ?_ ?_)
           · rintro g' w' ⟨s', _, _, _, _, _, _, hgd⟩; exact hgd
           · rintro v w' ⟨s', hk, hat'⟩; exact go s' v w' hk hat'
         · rw [if_neg (by rw [← hwd, h1]; simp)]
           exact go _ undef w h2 (h3.skip hdn)
omit hτ hC in
theorem At.drew {s : St} {a : Act} {w : World} (h : At τ w0 base M nn aS s a w) : At τ w0 base M nn aS s a { w with drawn := w.drawn + 1 } := by
 obtain ⟨E, hd, h1⟩ := h
 refine ⟨E, ?_, h1⟩
 have hk : Keeps E E w { w with drawn := w.drawn + 1 } := ⟨rfl, Nat.le_refl _, fun _ _ _ => rfl, fun _ h => .inl h⟩
 have hs := Shift.refl E s s { w with drawn := w.drawn + 1 } rfl
 refine hd.move hk rfl ⟨rfl, rfl, rfl, Nat.le_refl _, fun _ _ => rfl⟩ hs rfl rfl hd.owb ?_ ?_ hd.bb hd.br hd.rr
 · intro k T cs hb
   obtain ⟨ho, us, hh, hc⟩ := hd.box k T cs hb
   exact ⟨ho, us, hh, hs.cells hk hb hc⟩
 · intro k e lo r hl hm
   exact (hd.own k e lo r hl hm).keeps hk rfl rfl (hd.own k e lo r hl hm).ow fun _ _ => rfl
omit hτ hC in
theorem At.begin {fr : List (Nat × SV)} {stk : List (List (Nat × SV))} {bx : List (Nat × (TypeId × List SV))} {rw' : List (Nat × Ent)} {dep : Nat} {a : Act} {w : World} (h : At τ w0 base M nn aS ⟨fr, stk, bx, rw', dep⟩ a w) :
  At τ w0 base M nn (a.tmps :: a.tmps :: aS) ⟨fr, [] :: fr :: stk, bx, rw', dep⟩ { tmps := a.tmps, defers := [] } w := by
 obtain ⟨E, hd, h1, h2, h3, h4⟩ := h
 refine ⟨E, ⟨hd.below, hd.bM, hd.Mh, hd.owb, ?_, hd.box, hd.own, hd.bb, hd.br, hd.rr⟩, h1, h2, h3, rfl⟩
 intro i f hf
 cases i with
 | zero =>
   obtain ⟨b, hb, hfr⟩ := hd.fr 0 f hf
   exact ⟨b, by simpa using hb, hfr⟩
 | succ i =>
   cases i with
   | zero =>
     simp at hf
     subst hf
     exact ⟨_, rfl, fun t => by unfold lkv; trivial⟩
   | succ i =>
     obtain ⟨b, hb, hfr⟩ := hd.fr i f (by simpa using hf)
     exact ⟨b, by simpa using hb, hfr⟩
theorem draw_sound (hm : P.follows .mixedOrders = true) {id : Nat} {Q : Exit → Act → World → Prop} {K : St → Prop} {s : St} {a : Act} {w : World} (hdst : dstOk nn ops.toList = true) (hdr : drawOk ops.toList tab = true)
  (hK : ∀ s a w, K s → At τ w0 base M nn aS s a w → Q .normal a w) (hw : wpDraw τ C ops.toList tab K s) (hat : At τ w0 base M nn aS s a w) : (Code.region id ops true).wp P Q a w := by
 refine wp_region_any hm ?_
 have D := drawOk_spec hdr
 obtain ⟨fr, stk, bx, rw', dep⟩ := s
 simp only [wpDraw, refill] at hw
 have hdef : a.defers = [] := by obtain ⟨_, _, _, _, _, h⟩ := hat; exact h
 have hemp : ∀ j, ¬ inM j 0 = true := fun j hj => by rw [inM_zero] at hj; simp at hj
 have hno : ∀ j, ¬ (Array.replicate ops.size false).getD j false = true := fun j => by
  rw [Array.getD_eq_getD_getElem?, Array.getElem?_replicate]
  split <;> simp
 refine fill_sound hτ D (p := 0) (avO := 0) (su := 0) (old := []) (Dn := fun _ => False) (z := fun _ => undef) (a0 := a.tmps) (oldA := a.tmps) (aS := a.tmps :: aS) (w0 := w0) (base := base) (M := M) (nn := nn) hdst
  (fun j q hq hrq h => hemp j h) (fun j q hq hrq h => h.elim) (fun j h => hemp j h) (fun j q t _ _ h => h.elim) ?_ ops.toList tab 0 0 _ { tmps := a.tmps, defers := [] } (fun _ => undef) rfl rfl hw hat.drew.begin ⟨_, rfl⟩
  ⟨rfl, fun t => .inr ⟨fun j q _ _ hj => hemp j hj, rfl⟩⟩ (fun _ h => h.elim) (fun j q _ hj => absurd hj (Nat.not_lt_zero _)) (fun j hj => absurd hj (hemp j)) (fun j q _ _ hj => absurd hj (hemp j))
 intro av s'' g z' hnode hat'' _ hF _ hA hRun
 refine node_sound hτ hC D hdst hK ops.size _ a _ _ 0 av (pop1 s'') z' a.tmps g (by simp) ?_ (fun j hj => absurd hj (hno j)) hat''.pop hF ⟨rfl, fun t => .inr ⟨fun j q _ _ hj => hno j hj, rfl⟩⟩ hdef ?_ hA (fun j q hq hrq hj _ => hRun j q hq hrq hj fun h => h) (fun j hj => absurd hj (hemp j)) hnode
 · intro l hn hl
   exact nodup_le _ l hn fun j hj => (hl j hj).1
 · intro j q hq hrq
   exact ⟨fun h => absurd h (hemp j), fun h => absurd h (hno j)⟩
end
end Go.Proofs.YtjjpakdlkjaigaaGreat

/- A symbolic executor for loaded Go code: drawn regions where one frame serves: every order. -/
namespace Go.Proofs.YtjjpakdlkjaigaaGreat
open Go.RowKit
section
variable {P : Program} {τ : Tys} {w0 : World} {base M nn : Nat} {aS : List (Array Value)} {ops : Array Oper} {tab : List (Nat × Nat)}
def Over (ops : Array Oper) : Prop := ∀ (i j : Nat) (o q : Oper) (t : Tmp), ops[j]? = some o → ops[i]? = some q → q.dst = some t → t ∈ looks ops.toList o → Waits ops i j
theorem overB_spec {b m : Nat} : ∀ {qs : List Oper} {t : List (Nat × Nat)}, overB b m qs t = true → t.length = qs.length → ∀ (i : Nat) q p d, qs[i]? = some q → t[i]? = some p → q.dst = some d → inM d m = true → inM p.1 b = true
 | [], t, _, _, i, q, p, d, hq, _, _, _ => by simp at hq
 | q' :: qs, (k, c) :: t, h, hl, i, q, p, d, hq, hp, hd, ht => by
   unfold overB at h
   cases i with
   | zero =>
     simp at hq hp
     subst hq; subst hp
     rw [hd] at h
     simp only [ht, Bool.not_true, Bool.false_or] at h
     split at h
     · assumption
     · simp at h
   | succ i =>
     refine overB_spec (qs := qs) (t := t) ?_ (by simpa using hl) i q p d (by simpa using hq) (by simpa using hp) hd ht
     split at h
     · exact h
     · split at h
       · exact h
       · simp at h
 | _ :: _, [], _, hl, i, q, p, d, _, _, _, _ => by simp at hl
theorem allOver_spec {all : List Oper} {T : List (Nat × Nat)} : ∀ {os : List Oper} {t : List (Nat × Nat)}, allOver all T os t = true → t.length = os.length → ∀ (j : Nat) o p, os[j]? = some o → t[j]? = some p → overB p.2 (slotsM (looks all o)) all T = true
 | [], t, _, _, i, q, p, hq, _ => by simp at hq
 | q' :: qs, (k, c) :: t, h, hl, i, q, p, hq, hp => by
   unfold allOver at h
   rw [forceN_eq] at h
   split at h
   · rename_i h1
     cases i with
     | zero => simp at hq hp; subst hq; subst hp; exact h1
     | succ i => exact allOver_spec h (by simpa using hl) i q p (by simpa using hq) (by simpa using hp)
   · simp at h
 | _ :: _, [], _, hl, i, q, p, hq, _ => by simp at hl
theorem allOver_over (D : DrawD ops tab) (h : allOver ops.toList tab ops.toList tab = true) : Over ops := by
 intro i j o q t ho hq hd ht
 have hl : tab.length = ops.toList.length := by rw [D.len]; simp
 have h1 := allOver_spec h hl j o _ (by simpa using ho) (D.tab j o ho)
 have h2 := overB_spec h1 hl i q _ t (by simpa using hq) (D.tab i q hq) hd ((inM_slotsM t _).2 ht)
 exact (waits_inM ho).1 h2
def Sees (ops : Array Oper) (z : Nat → Value) (a0 : Array Value) (o : Oper) (x : Array Value) : Prop :=
 x.size = a0.size ∧ ∀ t ∈ looks ops.toList o, (∀ (i : Nat) (q : Oper), ops[i]? = some q → q.dst = some t → x.getD t undef = z i) ∧ ((∀ (i : Nat) (q : Oper), ops[i]? = some q → q.dst ≠ some t) → x.getD t undef = a0.getD t undef)
variable {S S' : Nat → Prop} {z z' : Nat → Value} {a0 : Array Value} {x y : Act}
theorem Fills.sees (h : Fills ops S z a0 x.tmps) (D : DrawD ops tab) (V : Over ops) {j : Nat} {o : Oper} (ho : ops[j]? = some o) (hp : ∀ i, Waits ops i j → S i) : Sees ops z a0 o x.tmps := by
 refine ⟨h.size, fun t ht => ⟨fun i q hq hd => h.get D hq hd (hp i (V i j o q t ho hq hd ht)), fun hn => ?_⟩⟩
 rcases h.at_ t with ⟨i, q, hq, hqd, _, _⟩ | ⟨_, hv⟩
 · exact absurd hqd (hn i q hq)
 · exact hv
theorem Sees.agree {o : Oper} (h : Sees ops z a0 o x.tmps) (h' : Sees ops z a0 o y.tmps) : ∀ t ∈ looks ops.toList o, x.tmps.getD t undef = y.tmps.getD t undef := by
 intro t ht
 by_cases he : ∃ (i : Nat) (q : Oper), ops[i]? = some q ∧ q.dst = some t
 · obtain ⟨i, q, hq, hd⟩ := he
   rw [(h.2 t ht).1 i q hq hd, (h'.2 t ht).1 i q hq hd]
 · have hn : ∀ (i : Nat) (q : Oper), ops[i]? = some q → q.dst ≠ some t := fun i q hq hd => he ⟨i, q, hq, hd⟩
   rw [(h.2 t ht).2 hn, (h'.2 t ht).2 hn]
theorem Sees.congr (V : Over ops) {j : Nat} {o : Oper} (ho : ops[j]? = some o) (h : Sees ops z a0 o x.tmps) (hz : ∀ k, Waits ops k j → z' k = z k) : Sees ops z' a0 o x.tmps :=
 ⟨h.1, fun t ht => ⟨fun i q hq hd => by rw [hz i (V i j o q t ho hq hd ht)]; exact (h.2 t ht).1 i q hq hd, (h.2 t ht).2⟩⟩
theorem Fills.reput (h : Fills ops S z a0 x.tmps) {j : Nat} {o : Oper} (ho : ops[j]? = some o) (hlt : ∀ t, o.dst = some t → t < x.tmps.size) (hS : S j) (hz : ∀ k, k ≠ j → z' k = z k) : Fills ops S z' a0 (x.put o.dst (z' j)).tmps := by
 refine ⟨by rw [(put_size _ _ _).1]; exact h.size, fun t => ?_⟩
 rw [getD_put]
 by_cases hd : o.dst = some t
 · rw [if_pos ⟨hd, hlt t hd⟩]
   exact .inl ⟨j, o, ho, hd, hS, rfl⟩
 · rw [if_neg (fun h => hd h.1)]
   rcases h.at_ t with ⟨i, q, hq, hqd, hSi, hv⟩ | ⟨hn, hv⟩
   · refine .inl ⟨i, q, hq, hqd, hSi, ?_⟩
     rw [hz i (fun e => by subst e; rw [ho] at hq; injection hq with hq; subst hq; exact hd hqd)]
     exact hv
   · exact .inr ⟨hn, hv⟩
def RunFact2 (P : Program) (ops : Array Oper) (w : World) (z : Nat → Value) (a0 : Array Value) (j : Nat) (o : Oper) : Prop :=
 ∃ g : Act, Sees ops z a0 o g.tmps ∧ Comes' P ops w g o (z j)
theorem RunFact2.congr (V : Over ops) {w : World} {j : Nat} {o : Oper} (ho : ops[j]? = some o) (h : RunFact2 P ops w z a0 j o) (hz : ∀ k, Waits ops k j → z' k = z k) (hj : z' j = z j) : RunFact2 P ops w z' a0 j o := by
 obtain ⟨g, h1, h2⟩ := h
 exact ⟨g, h1.congr V ho hz, by rw [hj]; exact h2⟩
theorem At.first {s : St} {g : Act} {w : World} (h : At τ w0 base M nn aS s g w) (t : Nat) : AtV τ w0 base M nn aS s g w (lkv s.fr t) (g.tmps.getD t undef) := by
 obtain ⟨E, h0, h1, h2, h3, h4⟩ := h
 obtain ⟨b, hb, hf⟩ := h0.fr 0 s.fr (by simp)
 simp at hb
 subst hb
 exact ⟨E, h0, h1, h2, h3, h4, hf t⟩
variable (hτ : TysOk P τ)
include hτ
theorem fill2_sound (D : DrawD ops tab) (V : Over ops) {w : World} {p su av0 : Nat} {Dn : Nat → Prop} {z : Nat → Value} (hdst : dstOk nn ops.toList = true)
  (hR : ∀ (j : Nat) (o : Oper), ops[j]? = some o → isR o = true → Dn j → inM j av0 = true)
  (hW : ∀ (j : Nat) (o : Oper), ops[j]? = some o → isR o = false → (inM j av0 = true ↔ inM j p = true))
  (hsu : ∀ j, inM j su = true → Dn j)
  (hcl : ∀ (j : Nat) (o : Oper), ops[j]? = some o → isR o = true → inM j av0 = true → ∀ k, Waits ops k j → inM k av0 = true)
  {K : Nat → St → Prop} {G : Prop}
  (hK : ∀ (av : Nat) (s : St) (g : Act) (z' : Nat → Value), K av s → At τ w0 base M nn aS s g w → Fills ops (fun i => inM i av = true) z' a0 g.tmps → (∀ j, Dn j → z' j = z j) →
    (∀ (j : Nat) (o : Oper), ops[j]? = some o → (inM j av = true ↔ Avl ops p av j o)) → (∀ (j : Nat) (o : Oper), ops[j]? = some o → isR o = true → inM j av = true → ¬ Dn j → RunFact2 P ops w z' a0 j o) → G) :
  ∀ (os : List Oper) (tb : List (Nat × Nat)) (m av : Nat) (s : St) (g : Act) (z' : Nat → Value), ops.toList.drop m = os → tab.drop m = tb → fill2 τ ops.toList su os tb av s K → At τ w0 base M nn aS s g w →
   Fills ops (fun i => inM i av = true) z' a0 g.tmps → (∀ j, Dn j → z' j = z j) → (∀ (j : Nat) (o : Oper), ops[j]? = some o → j < m → (inM j av = true ↔ Avl ops p av j o)) → (∀ j, inM j av = true → j < m ∨ inM j av0 = true) → (∀ j, inM j av0 = true → inM j av = true) →
   (∀ (j : Nat) (o : Oper), ops[j]? = some o → j < m → isR o = true → inM j av = true → ¬ Dn j → RunFact2 P ops w z' a0 j o) → G := by
 intro os
 induction os with
 | nil =>
   intro tb m av s g z' hos htb hw hat hF hD hA hU hM hRun
   have h1 : ops.toList.length ≤ m := by simpa using List.drop_eq_nil_iff.1 hos
   have htn : tb = [] := by
    rw [← htb]
    exact List.drop_eq_nil_of_le (by rw [D.len]; simpa using h1)
   subst htn
   have hm : ∀ (j : Nat) (o : Oper), ops[j]? = some o → j < m := fun j o ho => by
    have h2 := (Array.getElem?_eq_some_iff.1 ho).1
    simp at h1
    omega
   exact hK av s g z' hw hat hF hD (fun j o ho => hA j o ho (hm j o ho)) fun j o ho => hRun j o ho (hm j o ho)
 | cons o os ih =>
   intro tb m av s g z' hos htb hw hat hF hD hA hU hM hRun
   have ho : ops[m]? = some o := by
    have : (ops.toList.drop m)[0]? = some o := by rw [hos]; rfl
    rw [List.getElem?_drop] at this
    simpa using this
   have hos' : ops.toList.drop (m + 1) = os := by
    have : (ops.toList.drop m).drop 1 = os := by rw [hos]; rfl
    simpa [List.drop_drop] using this
   have htab := D.tab m o ho
   have htb0 : tb = (m, edgeM o.after.toList 0) :: tab.drop (m + 1) := by
    rw [← htb]
    have hlt := (List.getElem?_eq_some_iff.1 htab).1
    rw [List.drop_eq_getElem_cons hlt]
    congr 1
    exact (List.getElem?_eq_some_iff.1 htab).2
   subst htb0
   have hdn : ∀ t, o.dst = some t → t < nn := dstOk_mem hdst o (by
    have : o ∈ ops.toList.drop m := by rw [hos]; simp
    exact List.mem_of_mem_drop this)
   have hnn : nn ≤ g.tmps.size := by obtain ⟨_, _, _, _, h, _⟩ := hat; exact h
   have hdl : ∀ t, o.dst = some t → t < g.tmps.size := fun t ht => Nat.lt_of_lt_of_le (hdn t ht) hnn
   have self : ∀ {q : Oper}, ops[m]? = some q → q = o := fun hq => by rw [ho] at hq; injection hq with hq; exact hq.symm
   -- nothing new
   have pass : (inM m av = true ↔ Avl ops p av m o) → (isR o = true → inM m av = true → ¬ Dn m → False) → fill2 τ ops.toList su os (tab.drop (m + 1)) av s K → G := by
    intro hiff hno hfill
    refine ih _ (m + 1) av s g z' hos' rfl hfill hat hF hD ?_ (fun j hj => (hU j hj).imp (fun h => by omega) id) hM ?_
    · intro j q hq hlt
      by_cases e : j = m
      · subst e; rw [self hq]; exact hiff
      · exact hA j q hq (by omega)
    · intro j q hq hlt hRq hj hnd
      by_cases e : j = m
      · subst e; rw [self hq] at hRq; exact (hno hRq hj hnd).elim
      · exact hRun j q hq (by omega) hRq hj hnd
   have hav : subM (edgeM o.after.toList 0) av = true ↔ ∀ k, Waits ops k m → inM k av = true := by
    rw [subM_iff]
    exact ⟨fun h k hk => h k ((waits_inM ho).2 hk), fun h k hk => h k ((waits_inM ho).1 hk)⟩
   have putD : ∀ {s1 : St} {x : SV} {v0 : Value} {d : Tmp}, o.dst = some d → AtV τ w0 base M nn aS s1 g w x v0 → At τ w0 base M nn aS (putS d x s1) (g.put o.dst v0) w := by
    intro s1 x v0 d hd h
    rw [hd]
    exact h.put (hdn d hd)
   simp only [fill2, forceSt_eq] at hw
   split at hw
   · rename_i d hr hd
     split at hw
     · rename_i hin
       have hin0 : inM m av0 = true := (hU m hin).resolve_left (Nat.lt_irrefl _)
       have hwt : ∀ k, Waits ops k m → inM k av = true := fun k hk => hM k (hcl m o ho hr hin0 k hk)
       have havl : Avl ops p av m o := .inl ⟨hr, hwt⟩
       split at hw
       · rename_i hs
         exact pass ⟨fun _ => havl, fun _ => hin⟩ (fun _ _ h => h (hsu m hs)) hw
       · rename_i hs
         -- found anew
         have next : ∀ (s1 : St) (v0 : Value), At τ w0 base M nn aS s1 (g.put o.dst v0) w → (Dn m → v0 = z' m) → (¬ Dn m → Comes' P ops w g o v0) → fill2 τ ops.toList su os (tab.drop (m + 1)) av s1 K → G := by
          intro s1 v0 hat1 hDm hcm hfill
          let z2 : Nat → Value := fun k => if k = m then v0 else z' k
          have hz2 : ∀ k, k ≠ m → z2 k = z' k := fun k hk => by simp [z2, hk]
          have hz2m : z2 m = v0 := by simp [z2]
          have hlow : ∀ j, j ≤ m → ∀ k, Waits ops k j → z2 k = z' k := fun j hj k hk => hz2 k (by have := D.back k j hk; omega)
          refine ih _ (m + 1) av s1 (g.put o.dst v0) z2 hos' rfl hfill hat1 ?_ ?_ ?_ (fun j hj => (hU j hj).imp (fun h => by omega) id) hM ?_
          · rw [← hz2m]
            exact hF.reput ho hdl hin hz2
          · intro j hj
            by_cases e : j = m
            · subst e; rw [hz2m, hDm hj]; exact hD j hj
            · rw [hz2 j e]; exact hD j hj
          · intro j q hq hlt
            by_cases e : j = m
            · subst e; rw [self hq]; exact ⟨fun _ => havl, fun _ => hin⟩
            · exact hA j q hq (by omega)
          · intro j q hq hlt hRq hj hnd
            by_cases e : j = m
            · subst e
              rw [self hq]
              exact ⟨g, (hF.sees D V ho hwt).congr V ho (hlow _ (Nat.le_refl _)), by rw [hz2m]; exact hcm hnd⟩
            · exact (hRun j q hq (by omega) hRq hj hnd).congr V hq (hlow j (by omega)) (hz2 j e)
         rcases guardO_sound hat hw with ⟨hwd, s1, g2, g3⟩ | ⟨hwd, s1, g2, g3⟩
         · obtain ⟨E, e0, e1, e2, e3, e4⟩ := id g3
           obtain ⟨v, hKv, zz, hrun, hvd⟩ := RV.wp_good g2 (evR_good (o := o) hτ e0)
           rw [SV.force_eq] at hKv
           obtain ⟨v', hfill, hx, hv⟩ := relV_spec hKv
           by_cases hDm : Dn m
           · have hv0 := g3.first d
             rw [hF.get D ho hd hin] at hv0
             exact next _ (z' m) (putD hd (hv0.conv fun E R h => hx E R w _ h)) (fun _ => rfl) (fun h => absurd hDm h) hfill
           · exact next _ zz (putD hd ⟨E, e0, e1, e2, e3, e4, hv _ _ _ _ hvd⟩) (fun h => absurd h hDm) (fun _ => .inl ⟨hwd, hrun⟩) hfill
         · rw [SV.force_eq] at g2
           by_cases hDm : Dn m
           · have hv0 := g3.first d
             rw [hF.get D ho hd hin] at hv0
             exact next _ (z' m) (putD hd (hv0.conv fun E R h => skipV_vd h)) (fun _ => rfl) (fun h => absurd hDm h) g2
           · exact next _ undef (putD hd (g3.skipped.conv fun E R h => skipV_undef _ h)) (fun h => absurd h hDm) (fun _ => .inr ⟨hwd, rfl⟩) g2
     · rename_i hin'
       have hin : ¬ inM m av = true := by rw [hin']; simp
       have hDm : ¬ Dn m := fun h => hin (hM m (hR m o ho hr h))
       split at hw
       · rename_i hsub
         have hwt := hav.1 hsub
         have hmin : ∀ i, inM i (addM m av) = true ↔ inM i av = true ∨ i = m := fun i => by rw [inM_add]; simp
         have hne : ∀ i, inM i av = true → i ≠ m := fun i hi e => by subst e; exact hin hi
         have next : ∀ (s1 : St) (v0 : Value), At τ w0 base M nn aS s1 (g.put o.dst v0) w → Comes' P ops w g o v0 → fill2 τ ops.toList su os (tab.drop (m + 1)) (addM m av) s1 K → G := by
          intro s1 v0 hat1 hcm hfill
          let z2 : Nat → Value := fun k => if k = m then v0 else z' k
          have hz2 : ∀ k, k ≠ m → z2 k = z' k := fun k hk => by simp [z2, hk]
          have hz2m : z2 m = v0 := by simp [z2]
          have hlow : ∀ j, j ≤ m → ∀ k, Waits ops k j → z2 k = z' k := fun j hj k hk => hz2 k (by have := D.back k j hk; omega)
          have hF2 : Fills ops (fun i => inM i av = true) z2 a0 g.tmps := hF.congr (fun _ => Iff.rfl) fun i hi => hz2 i (hne i hi)
          have hmono : ∀ (j : Nat) (q : Oper), ops[j]? = some q → j ≤ m → (Avl ops p (addM m av) j q ↔ Avl ops p av j q) := by
           intro j q hq hle
           unfold Avl
           constructor
           · rintro (⟨h1, h2⟩ | h)
             · exact .inl ⟨h1, fun k hk => ((hmin k).1 (h2 k hk)).resolve_right (fun e => by subst e; have := D.back _ _ hk; omega)⟩
             · exact .inr h
           · rintro (⟨h1, h2⟩ | h)
             · exact .inl ⟨h1, fun k hk => (hmin k).2 (.inl (h2 k hk))⟩
             · exact .inr h
          refine ih _ (m + 1) (addM m av) s1 (g.put o.dst v0) z2 hos' rfl hfill hat1 ?_ ?_ ?_ ?_ (fun j hj => (hmin j).2 (.inl (hM j hj))) ?_
          · rw [← hz2m]
            exact hF2.put D ho hdl hmin
          · intro j hj
            rw [hz2 j (fun e => by subst e; exact hDm hj)]
            exact hD j hj
          · intro j q hq hlt
            rw [hmin, hmono j q hq (by omega)]
            by_cases e : j = m
            · subst e; rw [self hq]; exact ⟨fun _ => .inl ⟨hr, hwt⟩, fun _ => .inr rfl⟩
            · rw [← hA j q hq (by omega)]
              exact ⟨fun h => h.resolve_right e, .inl⟩
          · intro j hj
            rcases (hmin j).1 hj with h | rfl
            · exact (hU j h).imp (fun h => by omega) id
            · exact .inl (by omega)
          · intro j q hq hlt hRq hj hnd
            by_cases e : j = m
            · subst e
              rw [self hq]
              exact ⟨g, (hF.sees D V ho hwt).congr V ho (hlow _ (Nat.le_refl _)), by rw [hz2m]; exact hcm⟩
            · exact (hRun j q hq (by omega) hRq (((hmin j).1 hj).resolve_right e) hnd).congr V hq (hlow j (by omega)) (hz2 j e)
         rw [forceN_eq] at hw
         rcases guardO_sound hat hw with ⟨hwd, s1, g2, g3⟩ | ⟨hwd, s1, g2, g3⟩
         · obtain ⟨E, e0, e1, e2, e3, e4⟩ := id g3
           obtain ⟨v, hKv, zz, hrun, hvd⟩ := RV.wp_good g2 (evR_good (o := o) hτ e0)
           exact next _ zz (putD hd ⟨E, e0, e1, e2, e3, e4, hvd⟩) (.inl ⟨hwd, hrun⟩) hKv
         · exact next _ undef (putD hd g3.skipped) (.inr ⟨hwd, rfl⟩) g2
       · rename_i hsub
         refine pass ⟨fun h => absurd h hin, ?_⟩ (fun _ h => absurd h hin) hw
         rintro (h | h)
         · rw [hav.2 h.2] at hsub; simp at hsub
         · rw [hr] at h; exact absurd h.1 (by simp)
   · exact hw.elim
   · rename_i d0 hr
     refine pass ⟨fun h => .inr ⟨hr, (hW m o ho hr).1 ((hU m h).resolve_left (Nat.lt_irrefl _))⟩, ?_⟩ (fun h => by rw [hr] at h; simp at h) hw
     rintro (h | h)
     · rw [hr] at h; exact absurd h.1 (by simp)
     · exact hM m ((hW m o ho hr).2 h.2)
variable {C : Ctx} (hC : CtxOk P τ C)
include hC
omit hτ hC in
theorem node2_fin (D : DrawD ops tab) {Q : Exit → Act → World → Prop} {K : St → Prop} (hK : ∀ s a w, K s → At τ w0 base M nn aS s a w → Q .normal a w) {listed : Array Bool} {a g : Act} {w : World} {f p av : Nat} {s : St}
  (hall : ∀ j, j < ops.size → listed.getD j false = true) (hcl : ∀ j, listed.getD j false = true → ∀ k, Waits ops k j → listed.getD k false = true)
  (hat : At τ w0 base M nn aS s g w) (hF : Fills ops (fun j => inM j av = true) z a0 g.tmps) (hL : Fills ops (fun j => listed.getD j false = true) z a0 a.tmps) (hdef : a.defers = [])
  (hW : ∀ (j : Nat) (o : Oper), ops[j]? = some o → isR o = false → (inM j p = true ↔ listed.getD j false = true)) (hA : ∀ (j : Nat) (o : Oper), ops[j]? = some o → (inM j av = true ↔ Avl ops p av j o))
  (hw : wpNode2 τ C ops.toList tab f p av s K) : Q .normal a w := by
 have hav := listed_av D hcl hW hA
 have heq : g.tmps = a.tmps := hF.same hL D fun j o ho => ⟨fun _ => hall j (opLt ho), fun h => hav j (opLt ho) h⟩
 have hga : g = a := by
  obtain ⟨_, _, _, _, _, hgd⟩ := id hat
  cases g; cases a
  simp_all
 subst hga
 cases f with
 | zero => exact hw.elim
 | succ f =>
   simp only [wpNode2] at hw
   have : allW p ops.toList tab = true := allW_true _ _ fun j o q ho hq hr => by
    have ho' : ops[j]? = some o := by simpa using ho
    rw [D.tab j o ho'] at hq
    injection hq with hq
    subst hq
    exact (hW j o ho' hr).2 (hall j (opLt ho'))
   rw [this] at hw
   exact hK _ _ _ hw hat
theorem node2_sound (D : DrawD ops tab) (V : Over ops) (hdst : dstOk nn ops.toList = true) {Q : Exit → Act → World → Prop} {K : St → Prop} (hK : ∀ s a w, K s → At τ w0 base M nn aS s a w → Q .normal a w) :
  ∀ (F : Nat) (listed : Array Bool) (a : Act) (w : World) (f p av : Nat) (s : St) (z : Nat → Value) (a0 : Array Value) (g : Act),
   listed.size = ops.size → (∀ l : List Nat, l.Nodup → (∀ j ∈ l, j < ops.size ∧ listed.getD j true = false) → l.length ≤ F) →
   (∀ j, listed.getD j false = true → ∀ k, Waits ops k j → listed.getD k false = true) →
   At τ w0 base M nn aS s g w → Fills ops (fun j => inM j av = true) z a0 g.tmps → Fills ops (fun j => listed.getD j false = true) z a0 a.tmps → a.defers = [] →
   (∀ (j : Nat) (o : Oper), ops[j]? = some o → isR o = false → (inM j p = true ↔ listed.getD j false = true)) →
   (∀ (j : Nat) (o : Oper), ops[j]? = some o → (inM j av = true ↔ Avl ops p av j o)) →
   (∀ (j : Nat) (o : Oper), ops[j]? = some o → isR o = true → inM j av = true → ¬ listed.getD j false = true → RunFact2 P ops w z a0 j o) →
   (∀ j, inM j p = true → ∃ o, ops[j]? = some o ∧ isR o = false) →
   wpNode2 τ C ops.toList tab f p av s K → wpAny P .any ops Q F listed a w := by
 intro F
 induction F with
 | zero =>
   intro listed a w f p av s z a0 g hsz hcnt hcl hat hF hL hdef hW hA hRun hP hw
   have hall : ∀ j, j < ops.size → listed.getD j false = true := by
    intro j hj
    cases h : listed.getD j false with
    | true => rfl
    | false =>
      have := hcnt [j] (by simp) (by
       intro k hk
       simp at hk
       subst hk
       exact ⟨hj, by rw [getD_tf (by rw [hsz]; exact hj)]; exact h⟩)
      simp at this
   refine ⟨?_, node2_fin D hK hall hcl hat hF hL hdef hW hA hw⟩
   apply List.eq_nil_iff_forall_not_mem.2
   intro j hj
   obtain ⟨h1, o, ho, _⟩ := mem_ready.1 hj
   have hlt := opLt ho
   rw [getD_tf (by rw [hsz]; exact hlt), hall j hlt] at h1
   simp at h1
 | succ F ih =>
   intro listed a w f p av s z a0 g hsz hcnt hcl hat hF hL hdef hW hA hRun hP hw
   refine ⟨fun hr => node2_fin D hK (all_listed D hsz hr) hcl hat hF hL hdef hW hA hw, fun i hi => ?_⟩
   obtain ⟨hun, o, ho, hall⟩ := mem_ready.1 hi
   have hlt := opLt ho
   have hnl : ¬ listed.getD i false = true := by rw [← getD_tf (by rw [hsz]; exact hlt), hun]; simp
   have hwait : ∀ k, Waits ops k i → listed.getD k false = true := by
    rintro k ⟨o', ho', e, he, hb, rfl⟩
    rw [ho] at ho'
    injection ho' with ho'
    subst ho'
    exact hall e he (by rw [← bindsB_eq]; exact hb)
   have hset := set_listed (listed := listed) (i := i) (by rw [hsz]; exact hlt)
   have hav := listed_av D hcl hW hA
   have hdn : ∀ t, o.dst = some t → t < nn := dstOk_mem hdst o (by
    have : ops.toList[i]? = some o := by simpa using ho
    exact List.mem_of_getElem? this)
   have hsz0 : g.tmps.size = a.tmps.size := hF.size.trans hL.size.symm
   have hnn : nn ≤ g.tmps.size := by obtain ⟨_, _, _, _, h, _⟩ := hat; exact h
   have hdl : ∀ t, o.dst = some t → t < a.tmps.size := fun t ht => hsz0 ▸ Nat.lt_of_lt_of_le (hdn t ht) hnn
   have hdlg : ∀ t, o.dst = some t → t < g.tmps.size := fun t ht => Nat.lt_of_lt_of_le (hdn t ht) hnn
   have hsz' : (listed.setIfInBounds i true).size = ops.size := by simp [hsz]
   have hcnt' : ∀ l : List Nat, l.Nodup → (∀ j ∈ l, j < ops.size ∧ (listed.setIfInBounds i true).getD j true = false) → l.length ≤ F := by
    intro l hn hl
    have := hcnt (i :: l) (List.nodup_cons.2 ⟨fun hm => by
      have := (hl i hm).2
      rw [getD_tf (by rw [hsz']; exact hlt), (hset i).2 (.inr rfl)] at this
      simp at this, hn⟩) (by
     intro j hj
     rcases List.mem_cons.1 hj with rfl | hj
     · exact ⟨hlt, hun⟩
     · obtain ⟨h1, h2⟩ := hl j hj
       refine ⟨h1, ?_⟩
       rw [getD_tf (by rw [hsz]; exact h1)]
       rw [getD_tf (by rw [hsz']; exact h1)] at h2
       cases h : listed.getD j false with
       | false => rfl
       | true => rw [(hset j).2 (.inl h)] at h2; exact h2)
    simpa using this
   have hcl' : ∀ j, (listed.setIfInBounds i true).getD j false = true → ∀ k, Waits ops k j → (listed.setIfInBounds i true).getD k false = true := by
    intro j hj k hk
    rcases (hset j).1 hj with h | rfl
    · exact (hset k).2 (.inl (hcl j h k hk))
    · exact (hset k).2 (.inl (hwait k hk))
   have havw : ∀ k, Waits ops k i → inM k av = true := fun k hk => hav k (Nat.lt_trans (D.back k i hk) hlt) (hwait k hk)
   have hreal : Sees ops z a0 o a.tmps := hL.sees D V ho hwait
   cases hr : isR o with
   | true =>
     have hi_av : inM i av = true := (hA i o ho).2 (.inl ⟨hr, havw⟩)
     obtain ⟨g', hS, hcm⟩ := hRun i o ho hr hi_av hnl
     obtain ⟨he, hwd⟩ := same_op D ho (hS.1.trans hL.size.symm) (hS.agree hreal)
     have go : wpAny P .any ops Q F (listed.setIfInBounds i true) (a.put o.dst (z i)) w := by
      refine ih _ _ w f p av s z a0 g hsz' hcnt' hcl' hat hF (hL.put D ho hdl hset) (by rw [(put_size _ _ _).2]; exact hdef) ?_ hA ?_ hP hw
      · intro j q hq hrq
        rw [hW j q hq hrq, hset]
        exact ⟨.inl, fun h => h.resolve_right fun e => by subst e; rw [ho] at hq; injection hq with hq; subst hq; rw [hr] at hrq; simp at hrq⟩
      · intro j q hq hrq hj hn
        exact hRun j q hq hrq hj fun h => hn ((hset j).2 (.inl h))
     unfold wpOp
     rw [ho]
     dsimp only
     rcases hcm with ⟨h1, h2⟩ | ⟨h1, h2⟩
     · rw [if_pos (hwd ▸ h1)]
       refine .inl ?_
       unfold Oper.wp
       rw [← he, h2]
       exact go
     · rw [if_neg (by rw [← hwd, h1]; simp), ← h2]
       exact go
   | false =>
     have hip : inM i p = false := by
      cases h : inM i p with
      | false => rfl
      | true => exact absurd ((hW i o ho hr).1 h) hnl
     cases f with
     | zero => exact hw.elim
     | succ f =>
       simp only [wpNode2] at hw
       split at hw
       · rename_i h
         have := allW_all _ _ h i o (i, edgeM o.after.toList 0) (by simpa using ho) (D.tab i o ho) hr
         rw [hip] at this
         exact absurd this (by simp)
       · have hcand := candO_get _ _ hw i o _ (by simpa using ho) (D.tab i o ho) hr hip ((subM_iff _ _).2 fun k hk => havw k ((waits_inM ho).1 hk))
         simp only [forceN_eq, forceSt_eq] at hcand
         have hiav : ¬ inM i av = true := fun h => by
          rcases (hA i o ho).1 h with h2 | h2
          · rw [hr] at h2; simp at h2
          · rw [hip] at h2; simp at h2
         have hsee : Sees ops z a0 o g.tmps := hF.sees D V ho havw
         obtain ⟨he, hwd⟩ := same_op D ho hsz0 (hsee.agree hreal)
         have go : ∀ (s' : St) (v : Value) (w' : World), fill2 τ ops.toList (sureM tab.reverse (addM i p)) ops.toList tab (addM i av) s' (fun av s => wpNode2 τ C ops.toList tab f (addM i p) av s K) → At τ w0 base M nn aS s' (g.put o.dst v) w' →
           wpAny P .any ops Q F (listed.setIfInBounds i true) (a.put o.dst v) w' := by
          intro s' v w' hrf hat'
          let z2 : Nat → Value := fun k => if k = i then v else z k
          have hz2 : ∀ k, k ≠ i → z2 k = z k := fun k hk => by simp [z2, hk]
          have hz2i : z2 i = v := by simp [z2]
          have hpin : ∀ j, inM j (addM i p) = true ↔ inM j p = true ∨ j = i := fun j => by rw [inM_add]; simp
          have hvin : ∀ j, inM j (addM i av) = true ↔ inM j av = true ∨ j = i := fun j => by rw [inM_add]; simp
          have hpW : ∀ (j : Nat) (q : Oper), ops[j]? = some q → isR q = false → (inM j (addM i p) = true ↔ (listed.setIfInBounds i true).getD j false = true) := by
           intro j q hq hrq
           rw [hpin, hset, hW j q hq hrq]
          have hL2 : Fills ops (fun j => (listed.setIfInBounds i true).getD j false = true) z2 a0 (a.put o.dst v).tmps := by
           have h1 : Fills ops (fun j => listed.getD j false = true) z2 a0 a.tmps := hL.congr (fun _ => Iff.rfl) fun j hj => hz2 j fun e => by subst e; exact hnl hj
           rw [← hz2i]
           exact h1.put D ho hdl hset
          have hG2 : Fills ops (fun j => inM j (addM i av) = true) z2 a0 (g.put o.dst v).tmps := by
           have h1 : Fills ops (fun j => inM j av = true) z2 a0 g.tmps := hF.congr (fun _ => Iff.rfl) fun j hj => hz2 j fun e => by subst e; exact hiav hj
           rw [← hz2i]
           exact h1.put D ho hdlg hvin
          refine fill2_sound hτ D V (w := w') (p := addM i p) (su := sureM tab.reverse (addM i p)) (av0 := addM i av) (Dn := fun j => (listed.setIfInBounds i true).getD j false = true) (z := z2) (a0 := a0) (aS := aS) (w0 := w0) (base := base) (M := M) (nn := nn) hdst
           ?_ ?_ ?_ ?_ ?_ ops.toList tab 0 (addM i av) s' (g.put o.dst v) z2 rfl rfl hrf hat' hG2 (fun _ _ => rfl) (fun j q _ hj => absurd hj (Nat.not_lt_zero _)) (fun j hj => .inr hj) (fun j hj => hj) (fun j q _ hj => absurd hj (Nat.not_lt_zero _))
          · intro j q hq hrq hj
            rcases (hset j).1 hj with h | rfl
            · exact (hvin j).2 (.inl (hav j (opLt hq) h))
            · exact (hvin j).2 (.inr rfl)
          · intro j q hq hrq
            rw [hvin, hpin]
            constructor
            · rintro (h | h)
              · rcases (hA j q hq).1 h with h2 | h2
                · rw [hrq] at h2; exact absurd h2.1 (by simp)
                · exact .inl h2.2
              · exact .inr h
            · rintro (h | h)
              · exact .inl ((hA j q hq).2 (.inr ⟨hrq, h⟩))
              · exact .inr h
          · refine sureM_sub _ _ ?_ ?_
            · intro j hj
              rcases (hpin j).1 hj with h | rfl
              · obtain ⟨q, hq, hrq⟩ := hP j h
                exact (hset j).2 (.inl ((hW j q hq hrq).1 h))
              · exact (hset _).2 (.inr rfl)
            · intro q hq hX k hk
              rw [List.mem_reverse] at hq
              obtain ⟨j, hj⟩ := List.mem_iff_getElem?.1 hq
              have hjl := (List.getElem?_eq_some_iff.1 hj).1
              rw [D.len] at hjl
              have hjo : ops[j]? = some ops[j] := Array.getElem?_eq_getElem hjl
              rw [D.tab j _ hjo] at hj
              injection hj with hj
              subst hj
              exact hcl' j hX k ((waits_inM hjo).1 hk)
          · intro j q hq hrq hj k hk
            rcases (hvin j).1 hj with h | rfl
            · rcases (hA j q hq).1 h with h2 | h2
              · exact (hvin k).2 (.inl (h2.2 k hk))
              · rw [hrq] at h2; exact absurd h2.1 (by simp)
            · rw [ho] at hq; injection hq with hq; subst hq; rw [hr] at hrq; simp at hrq
          · intro av' s'' g'' z3 hnode hat'' hF'' hz3 hA' hRun'
            exact ih _ _ w' f (addM i p) av' s'' z3 a0 g'' hsz' hcnt' hcl' hat'' hF'' (hL2.congr (fun _ => Iff.rfl) hz3) (by rw [(put_size _ _ _).2]; exact hdef) hpW hA' hRun' (fun j hj => ((hpin j).1 hj).elim (hP j) fun e => ⟨o, by rw [e]; exact ho, hr⟩) hnode
         unfold wpOp
         rw [ho]
         dsimp only
         rcases guardO_sound hat hcand with ⟨h1, s1, h2, h3⟩ | ⟨h1, s1, h2, h3⟩
         · rw [if_pos (hwd ▸ h1)]
           refine .inl (wp_transfer (Mx := fun g' w' => ∃ s', fill2 τ ops.toList (sureM tab.reverse (addM i p)) ops.toList tab (addM i av) s' (fun av s => wpNode2 τ C ops.toList tab f (addM i p) av s K) ∧ At τ w0 base M nn aS s' g' w') he (stepW_wp hτ hC h3 hdn h2 fun s' a' w' hk hat => ⟨s', hk, hat⟩) ?_ ?_)
           · rintro g' w' ⟨s', _, _, _, _, _, _, hgd⟩; exact hgd
           · rintro v w' ⟨s', hk, hat'⟩; exact go s' v w' hk hat'
         · rw [if_neg (by rw [← hwd, h1]; simp)]
           exact go _ undef w h2 (h3.skip hdn)
theorem draw2_sound (hm : P.follows .mixedOrders = true) {id : Nat} {Q : Exit → Act → World → Prop} {K : St → Prop} {s : St} {a : Act} {w : World} (hdst : dstOk nn ops.toList = true) (hdr : drawOk ops.toList tab = true) (hov : allOver ops.toList tab ops.toList tab = true)
  (hK : ∀ s a w, K s → At τ w0 base M nn aS s a w → Q .normal a w) (hw : wpDraw2 τ C ops.toList tab K s) (hat : At τ w0 base M nn aS s a w) : (Code.region id ops true).wp P Q a w := by
 refine wp_region_any hm ?_
 have D := drawOk_spec hdr
 have V := allOver_over D hov
 unfold wpDraw2 at hw
 split at hw
 rotate_left
 · exact hw.elim
 rename_i o1 os1 hall
 rw [← hall, forceN_eq] at hw
 have hw := hw.out
 rw [show (fun av s => Node2 τ C ops.toList tab (os1.length + 2) 0 av s K) = fun av s => wpNode2 τ C ops.toList tab (os1.length + 2) 0 av s K from funext fun av => funext fun s => propext ⟨fun h => h.out, fun h => ⟨h⟩⟩] at hw
 have hdef : a.defers = [] := by obtain ⟨_, _, _, _, _, h⟩ := hat; exact h
 have hemp : ∀ j, ¬ inM j 0 = true := fun j hj => by rw [inM_zero] at hj; simp at hj
 have hno : ∀ j, ¬ (Array.replicate ops.size false).getD j false = true := fun j => by
  rw [Array.getD_eq_getD_getElem?, Array.getElem?_replicate]
  split <;> simp
 refine fill2_sound hτ D V (w := { w with drawn := w.drawn + 1 }) (p := 0) (su := 0) (av0 := 0) (Dn := fun _ => False) (z := fun _ => undef) (a0 := a.tmps) (aS := aS) (w0 := w0) (base := base) (M := M) (nn := nn) hdst
  (fun j q hq hrq h => h.elim) (fun j q hq hrq => Iff.rfl) (fun j h => hemp j h) (fun j q _ _ h => absurd h (hemp j)) ?_ ops.toList tab 0 0 s a (fun _ => undef) rfl rfl hw hat.drew
  ⟨rfl, fun t => .inr ⟨fun j q _ _ hj => hemp j hj, rfl⟩⟩ (fun _ h => h.elim) (fun j q _ hj => absurd hj (Nat.not_lt_zero _)) (fun j hj => absurd hj (hemp j)) (fun j hj => hj) (fun j q _ hj => absurd hj (Nat.not_lt_zero _))
 intro av s'' g z' hnode hat'' hF _ hA hRun
 refine node2_sound hτ hC D V hdst hK ops.size _ a _ _ 0 av s'' z' a.tmps g (by simp) ?_ (fun j hj => absurd hj (hno j)) hat'' hF ⟨rfl, fun t => .inr ⟨fun j q _ _ hj => hno j hj, rfl⟩⟩ hdef ?_ hA (fun j q hq hrq hj _ => hRun j q hq hrq hj fun h => h) (fun j hj => absurd hj (hemp j)) hnode
 · intro l hn hl
   exact nodup_le _ l hn fun j hj => (hl j hj).1
 · intro j q hq hrq
   exact ⟨fun h => absurd h (hemp j), fun h => absurd h (hno j)⟩
end
end Go.Proofs.YtjjpakdlkjaigaaGreat

/- A symbolic executor for loaded Go code: code is sound. -/
namespace Go.Proofs.YtjjpakdlkjaigaaGreat
open Go.RowKit
section
variable {P : Program} {τ : Tys} {w0 : World} {base M nn : Nat} {aS : List (Array Value)}
variable (hτ : TysOk P τ) {C : Ctx} (hC : CtxOk P τ C)
include hτ hC
theorem wpC_sound (hm : P.follows .mixedOrders = true) {D : Draws} {L : List (Nat × Inv)} : ∀ (c : Code) (s : St) (K : KC) (Q : Exit → Act → World → Prop) (a : Act) (w : World), codeOk D nn c = true → wpC τ C D L c s K → At τ w0 base M nn aS s a w →
  (∀ e s a w, K e s → At τ w0 base M nn aS s a w → Q e.of a w) → c.wp P Q a w := by
 intro c
 induction c with
 | skip => intro s K Q a w _ hw hat hQ; exact wp_skip (hQ .normal s a w hw hat)
 | region id ops draw =>
   intro s K Q a w hok hw hat hQ
   cases draw with
   | true =>
     simp only [codeOk, Bool.and_eq_true] at hok
     simp only [wpC] at hw
     split at hw
     · rename_i tab htab
       rw [htab] at hok
       simp only [Bool.and_eq_true] at hok
       split at hw
       · rcases hw.out with hw | ⟨T, hw, hT⟩
         · exact draw_sound hτ hC hm hok.1 hok.2.1 (fun s a w h hat => hQ .normal s a w h hat) hw hat
         · exact draw_sound hτ hC hm hok.1 hok.2.1 (fun s a w h hat => hQ .normal T a w hT (hat.sub h.out)) hw hat
       · rename_i hg
         split at hw
         · rename_i hna
           rw [forceSp_eq] at hw
           have hgr := hok.2.2
           unfold growOk at hgr
           rw [hg, hna] at hgr
           exact draw2_sound hτ hC hm hok.1 hok.2.1 hgr (fun s a w h hat => hQ .normal s a w h hat) hw hat
         · exact draw_sound hτ hC hm hok.1 hok.2.1 (fun s a w h hat => hQ .normal s a w h hat) hw hat
     · exact hw.elim
   | false =>
     refine wp_region ?_
     have := opsL_sound hτ hC (Q := Q) hok (fun s a w h hat => hQ .normal s a w h hat) ops.toList 0 s a w rfl hw hat
     rwa [List.range_eq_range', ← Array.length_toList]
 | seq x y ihx ihy =>
   intro s K Q a w hok hw hat hQ
   simp only [codeOk] at hok
   split at hok
   · rename_i hx
     simp only [wpC] at hw
     split at hw
     · rename_i σ W X ok st mu fl ad hI
       rw [flatC_eq] at hw
       refine wp_seq (ihx s _ _ a w hx hw.1 hat ?_)
       intro e s' a' w' h hat'
       cases e with
       | normal =>
         obtain ⟨g, hg, hs⟩ := h
         rw [flatC_eq] at hs
         have h2 := hw.2 g hg
         rw [forceAll_eq] at h2
         exact ihy _ K Q a' w' hok h2.out (hat'.flat.sub hs) hQ
       | exit id => exact hQ _ s' a' w' h hat'
       | ret => exact hQ _ s' a' w' h hat'
     · refine wp_seq (ihx s _ _ a w hx hw hat ?_)
       intro e s a w h hat
       cases e with
       | normal => exact ihy s K Q a w hok h hat hQ
       | exit id => exact hQ _ s a w h hat
       | ret => exact hQ _ s a w h hat
   · simp at hok
 | cond c x y ihx ihy =>
   intro s K Q a w hok hw hat hQ
   simp only [codeOk] at hok
   split at hok
   · rename_i hx
     obtain ⟨E, hd, hrest⟩ := id hat
     have hc := hd.get c
     simp only [wpC] at hw
     split at hw
     · rename_i hl; rw [hl] at hc; exact wp_cond_true hc (ihx s K Q a w hx hw hat hQ)
     · rename_i hl; rw [hl] at hc; exact wp_cond_false hc (ihy s K Q a w hok hw hat hQ)
     · rename_i t hl
       rw [hl] at hc
       split at hw
       · rename_i n
         have hv : ∀ b, t = b → a.tmps.getD n undef = .bool b := fun b e => by rw [← e]; exact hc
         exact wp_cond_split hc (fun ht => ihx _ K Q a w hx (hw.1 ht) (hat.setLit (hv _ ht)) hQ) fun ht => ihy _ K Q a w hok (hw.2 ht) (hat.setLit (hv _ ht)) hQ
       · exact wp_cond_split hc (fun ht => ihx s K Q a w hx (hw.1 ht) hat hQ) fun ht => ihy s K Q a w hok (hw.2 ht) hat hQ
     · exact hw.elim
   · simp at hok
 | block id b ih =>
   intro s K Q a w hok hw hat hQ
   refine wp_block (ih s _ _ a w hok hw hat ?_)
   intro e s a w h hat
   cases e with
   | normal => exact hQ .normal s a w h hat
   | ret => exact hQ .ret s a w h hat
   | exit i =>
     simp only [Ex.of, Exit.inBlock]
     dsimp only at h
     split at h
     · rename_i hi
       rw [if_pos (Nat.eq_of_beq_eq_true hi)]
       exact hQ .normal s a w h hat
     · rename_i hi
       rw [if_neg (fun e => by subst e; simp at hi)]
       exact hQ (.exit i) s a w h hat
 | loop b ih =>
   intro s K Q a w hok hw hat hQ
   simp only [wpC] at hw
   split at hw
   · rename_i σ W X ok st mu ad hI
     obtain ⟨⟨g, hg, hsub⟩, hround⟩ := hw
     refine wp_loop_ghost (fun n a w => ∃ g, ok g ∧ mu g = n ∧ At τ w0 base M nn aS (st g (entry W X s.dep s)) a w) (mu g) ⟨g, hg, rfl, (hat.adopt ad).sub hsub⟩ ?_
     rintro n a w ⟨g, hg, rfl, hat⟩
     have hr := hround g hg
     rw [forceAll_eq] at hr
     refine ih _ _ _ a w hok hr.out hat ?_
     intro e s' a' w' h hat'
     cases e with
     | normal =>
       obtain ⟨g', hg', hmu, hs⟩ := h
       exact ⟨mu g', hmu, g', hg', rfl, hat'.sub hs⟩
     | exit id => exact hQ _ s' a' w' h hat'
     | ret => exact hQ _ s' a' w' h hat'
   · rename_i σ W X ok st mu keep ad hI
     rw [flatC_eq] at hw
     obtain ⟨⟨g, hg, hsub⟩, hround⟩ := hw
     rw [flatC_eq] at hsub
     refine wp_loop_ghost (fun n a w => ∃ g, ok g ∧ mu g = n ∧ At τ w0 base M nn aS (st g (flatSt keep (entry W X s.dep s))) a w) (mu g) ⟨g, hg, rfl, (hat.adopt ad).flat.sub hsub⟩ ?_
     rintro n a w ⟨g, hg, rfl, hat⟩
     have hr := hround g hg
     rw [forceAll_eq] at hr
     refine ih _ _ _ a w hok hr.out hat ?_
     intro e s' a' w' h hat'
     cases e with
     | normal =>
       obtain ⟨g', hg', hmu, hs⟩ := h
       rw [flatC_eq] at hs
       exact ⟨mu g', hmu, g', hg', rfl, hat'.flat.sub hs⟩
     | exit id => exact hQ _ s' a' w' h hat'
     | ret => exact hQ _ s' a' w' h hat'
   · exact hw.elim
 | exit id => intro s K Q a w _ hw hat hQ; exact wp_exit (hQ (.exit id) s a w hw hat)
 | ret => intro s K Q a w _ hw hat hQ; exact wp_ret (hQ .ret s a w hw hat)
 | rangeFunc f ps x y _ _ => intro s K Q a w _ hw; exact hw.elim
 | scope b _ => intro s K Q a w _ hw; exact hw.elim
 | label l => intro s K Q a w _ hw; exact hw.elim
 | goto l => intro s K Q a w _ hw; exact hw.elim
 | refuse y => intro s K Q a w _ hw; exact hw.elim
end
end Go.Proofs.YtjjpakdlkjaigaaGreat

/- A symbolic executor for loaded Go code: a function that meets its contract. -/
namespace Go.Proofs.YtjjpakdlkjaigaaGreat
open Go.RowKit
section
variable {P : Program} {τ : Tys} {w0 : World} {aS : List (Array Value)} {E : Env} {w : World} {s : St}
def Ein (w : World) : Env := { base := w.heap.size, M := w.heap.size, bs := fun _ => 0, hs := fun _ => undef, ow := fun _ => False }
theorem in_old {F : Nat → Prop} : ∀ g, F g → g < w.heap.size → w.heap[g]? = w.heap[g]? ∧ (Ein w).F w .old g := fun _ _ h => ⟨rfl, fun h => h, h⟩
theorem in_any {F : Nat → Prop} : ∀ g, F g → g < w.heap.size → w.heap[g]? = w.heap[g]? ∧ (Ein w).F w .any g := fun _ _ _ => ⟨rfl, fun h => h, trivial⟩
def argOk0 : SV → Bool
 | .row .any _ => true
 | .row _ _ => false
 | .pt .any _ => true
 | .pt _ _ => false
 | .pre _ _ _ => false
 | .own _ => false
 | .box _ _ => false
 | .oel _ _ _ => false
 | .agg _ => false
 | .tup _ => false
 | .clo _ _ _ => false
 | _ => true
def argOkF : SV → Bool
 | .agg cs => allB argOk0 cs
 | .tup _ => false
 | .clo _ a c => match allB argOkF' a with
   | true => allB argOk0 c
   | false => false
 | v => argOk0 v
where argOkF' : SV → Bool
 | .agg cs => allB argOk0 cs
 | v => argOk0 v
theorem allB_of_mem {p : SV → Bool} : ∀ {l : List SV}, allB p l = true → ∀ x ∈ l, p x = true
 | [], _, x, hx => by simp at hx
 | y :: l, h, x, hx => by
   simp only [allB] at h
   split at h
   · rename_i hy
     rcases List.mem_cons.1 hx with rfl | hx
     · exact hy
     · exact allB_of_mem h x hx
   · simp at h
theorem arg0 {x : SV} {u : Value} (ho : argOk0 x = true) (h : vd0 E0 [] w x u) : vd0 (Ein w) [] w x.old0 u := by
 cases x with
 | row t r => cases t <;> simp [argOk0] at ho; exact RowDen.mono h in_old
 | pt t cs =>
   cases t <;> simp [argOk0] at ho
   obtain ⟨ad, rfl, hs, hlt, hF, hc⟩ := h
   refine ⟨ad, rfl, hs, hlt, ⟨fun h => h, hlt⟩, fun j x hx => ?_⟩
   obtain ⟨u, hu, hd⟩ := hc j x hx
   exact ⟨u, hu, cd2.mono hd in_old⟩
 | pre t r n => simp [argOk0] at ho
 | own k => simp [argOk0] at ho
 | box k off => simp [argOk0] at ho
 | oel k i off => simp [argOk0] at ho
 | _ => exact h
theorem arg0k {x : SV} {u : Value} (ho : argOk0 x = true) (h : vd0 E0 [] w x u) : vd0 (Ein w) [] w x u := by
 cases x with
 | row t r => cases t <;> simp [argOk0] at ho; exact RowDen.mono h in_any
 | pt t cs =>
   cases t <;> simp [argOk0] at ho
   obtain ⟨ad, rfl, hs, hlt, hF, hc⟩ := h
   refine ⟨ad, rfl, hs, hlt, ⟨fun h => h, trivial⟩, fun j x hx => ?_⟩
   obtain ⟨u, hu, hd⟩ := hc j x hx
   exact ⟨u, hu, cd2.mono hd in_any⟩
 | pre t r n => simp [argOk0] at ho
 | own k => simp [argOk0] at ho
 | box k off => simp [argOk0] at ho
 | oel k i off => simp [argOk0] at ho
 | _ => exact h
theorem oldL_len : ∀ l : List SV, (oldL l).length = l.length
 | [] => rfl
 | x :: l => by simp [oldL, oldL_len l]
theorem oldL_get : ∀ (l : List SV) (j : Nat) (x : SV), (oldL l)[j]? = some x → ∃ y, l[j]? = some y ∧ x = y.old0
 | [], j, x, h => by simp [oldL] at h
 | y :: l, 0, x, h => by simp [oldL] at h; exact ⟨y, by simp, h.symm⟩
 | y :: l, j + 1, x, h => by simpa using oldL_get l j x (by simpa [oldL] using h)
theorem old0_vd1 {R : List (Nat × Ent)} {x : SV} {u : Value} (h : vd0 E R w x u) : vd1 E R w x u := by cases x <;> first | exact h | exact h.elim
theorem arg_in {x : SV} {u : Value} (ho : argOkF x = true) (h : vd3 E0 [] w x u) : vd3 (Ein w) [] w x.old u := by
 cases x with
 | tup cs => simp [argOkF] at ho
 | agg cs =>
   obtain ⟨us, rfl, hl⟩ := h
   refine ⟨us, rfl, by rw [oldL_len]; exact hl.1, fun j x hx => ?_⟩
   obtain ⟨y, hy, rfl⟩ := oldL_get cs j x hx
   obtain ⟨u, hu, hd⟩ := hl.2 j y hy
   have hok := allB_of_mem ho y (List.mem_of_getElem? hy)
   refine ⟨u, hu, old0_vd1 (arg0 hok ?_)⟩
   cases y <;> first | exact hd | (simp [argOk0] at hok; done)
 | clo f b c =>
   obtain ⟨us, vs, rfl, h1, h2⟩ := h
   simp only [argOkF] at ho
   split at ho
   · rename_i hb
     refine ⟨us, vs, rfl, h1.mono fun x u hx hp => ?_, h2.mono fun x u hx hp => arg0k (allB_of_mem ho x hx) hp⟩
     have hk := allB_of_mem hb x hx
     cases x with
     | agg cs => obtain ⟨us, rfl, hl⟩ := hp; exact ⟨us, rfl, hl.mono fun y u hy hp => arg0k (allB_of_mem hk y hy) hp⟩
     | row t r => exact arg0k (x := .row t r) hk hp
     | pt t r => exact arg0k (x := .pt t r) hk hp
     | pre t r n => simp [argOkF.argOkF', argOk0] at hk
     | own k => simp [argOkF.argOkF', argOk0] at hk
     | box k off => simp [argOkF.argOkF', argOk0] at hk
     | oel k i off => simp [argOkF.argOkF', argOk0] at hk
     | _ => exact hp
   · simp at ho
 | row t r => exact vd3_of_vd0 (arg0 (x := .row t r) ho h)
 | pt t r => exact vd3_of_vd0 (arg0 (x := .pt t r) ho h)
 | pre t r n => simp [argOkF, argOk0] at ho
 | own k => simp [argOkF, argOk0] at ho
 | box k off => simp [argOkF, argOk0] at ho
 | oel k i off => simp [argOkF, argOk0] at ho
 | _ => exact h
theorem enterF_lkv : ∀ (l : List SV) (us : List Value) (n t : Nat) (p : SV → Value → Prop), (∀ u, p .junk u) → L0 (fun x u => p x.old u) l us → p (lkv (enterF l n) t) (if n ≤ t then (us[t - n]?).getD undef else undef)
 | [], us, n, t, p, hj, _ => by simp only [enterF, lkv]; exact hj _
 | x :: l, us, n, t, p, hj, h => by
   obtain ⟨u, us', rfl, h1, h2⟩ := h.inv_cons
   simp only [enterF, lkv]
   split
   · rename_i hk
     obtain rfl := Nat.eq_of_beq_eq_true hk
     simpa using h1
   · rename_i hk
     have hne : n ≠ t := fun e => by subst e; simp at hk
     have := enterF_lkv l us' (n + 1) t p hj h2
     by_cases h3 : n + 1 ≤ t
     · rw [if_pos h3] at this
       rw [if_pos (by omega)]
       obtain ⟨j, rfl⟩ : ∃ j, t = n + 1 + j := ⟨t - (n + 1), by omega⟩
       rw [show n + 1 + j - (n + 1) = j by omega] at this
       rw [show n + 1 + j - n = j + 1 by omega]
       simpa using this
     · rw [if_neg h3] at this
       rw [if_neg (by omega)]
       exact this
theorem start_den {args : List SV} {vals : List Value} {n : Nat} (ho : allB argOkF args = true) (h : L0 (vd3 E0 [] w) args vals) :
  At τ w w.heap.size w.heap.size n [] (startSt args) { tmps := vals.toArray ++ Array.replicate (n - vals.toArray.size) undef, defers := [] } w := by
 refine ⟨Ein w, ⟨Below.refl _ _, Nat.le_refl _, Nat.le_refl _, fun g hg => hg.elim, ?_, ?_, ?_, ?_, ?_, ?_⟩, rfl, Nat.le_refl _, ?_, rfl⟩
 · intro i f hf
   cases i with
   | succ i => simp [startSt] at hf
   | zero =>
     simp [startSt] at hf
     subst hf
     refine ⟨_, rfl, fun t => ?_⟩
     have := enterF_lkv args vals 0 t (vd3 (Ein w) [] w) (fun u => trivial) (h.mono fun x u hx hp => arg_in (allB_of_mem ho x hx) hp)
     simp only [Nat.zero_le, if_true, Nat.sub_zero] at this
     have he : (vals.toArray ++ Array.replicate (n - vals.toArray.size) undef).getD t undef = (vals[t]?).getD undef := by
      rw [Array.getD_eq_getD_getElem?, Array.getElem?_append]
      split
      · simp
      · rename_i hlt
        have : vals[t]? = none := by simpa using hlt
        rw [this, Array.getElem?_replicate]
        split <;> rfl
     show vd3 (Ein w) [] w _ _
     dsimp only
     rw [he]
     exact this
 · intro k T cs hk; simp [startSt, lk] at hk
 · intro k e lo r hk; simp [startSt, lk] at hk
 · intro k k' b b' hk; simp [startSt, lk] at hk
 · intro k k' b e m hk; simp [startSt, lk] at hk
 · intro k k' e e' m m' g hk; simp [startSt, lk] at hk
 · simp; omega
theorem deep_of {F : Nat → Prop} {r : Rw} {v : Value} (h : RowDen w F r v) : r.deep := by
 have cell : ∀ (i j : Nat) (t : Tag) (r' : Rw), i < r.len → (r.cell .any i)[j]? = some (.row t r') → r'.len * r'.bts ≤ 140737488355328 := by
  intro i j t r' hi hx
  obtain ⟨_, A, c, _, _, hc⟩ := h
  obtain ⟨ad, _, _, _, hcell⟩ := hc (by omega)
  obtain ⟨u, _, hd⟩ := hcell i j _ hi hx
  exact hd.1
 have h0 := h.1
 cases r with
 | msgs l =>
   refine ⟨h0, fun m hm => ?_⟩
   obtain ⟨i, hi⟩ := List.mem_iff_getElem?.1 hm
   have hlt := (List.getElem?_eq_some_iff.1 hi).1
   exact cell i 3 .any (.ints m.ids) hlt (by simp [Rw.cell, List.getD_eq_getElem?_getD, hi, GMsg.cells])
 | acts l =>
   refine ⟨h0, fun m hm => ?_⟩
   obtain ⟨i, hi⟩ := List.mem_iff_getElem?.1 hm
   have hlt := (List.getElem?_eq_some_iff.1 hi).1
   exact cell i 4 .any (.ints m.ids) hlt (by simp [Rw.cell, List.getD_eq_getElem?_getD, hi, GAct.cells])
 | intss l =>
   refine ⟨h0, fun m hm => ?_⟩
   obtain ⟨i, hi⟩ := List.mem_iff_getElem?.1 hm
   have hlt := (List.getElem?_eq_some_iff.1 hi).1
   exact cell i 0 .any (.ints m) hlt (by simp [Rw.cell, List.getD_eq_getElem?_getD, hi])
 | nodes l =>
   refine ⟨h0, fun m hm => ?_⟩
   obtain ⟨i, hi⟩ := List.mem_iff_getElem?.1 hm
   have hlt := (List.getElem?_eq_some_iff.1 hi).1
   refine ⟨cell i 2 .any (.peers m.view.peers) hlt ?_, cell i 3 .any (.ints m.view.passive) hlt ?_, cell i 4 .any (.items m.items) hlt ?_, cell i 5 .any (.tolds m.log) hlt ?_⟩ <;>
    simp [Rw.cell, List.getD_eq_getElem?_getD, hi, GNode.cells]
 | _ => exact h0
theorem fitsL_of {p : SV → Value → Prop} (hp : ∀ x u, p x u → fits0 x) : ∀ {cs : List SV} {us : List Value}, L0 p cs us → fitsL cs
 | [], _, _ => trivial
 | x :: cs, _, h => by
   obtain ⟨u, us', rfl, h1, h2⟩ := h.inv_cons
   exact ⟨hp x u h1, fitsL_of hp h2⟩
theorem fitsL_get : ∀ {cs : List SV}, (∀ (j : Nat) x, cs[j]? = some x → fits0 x) → fitsL cs
 | [], _ => trivial
 | x :: cs, h => ⟨h 0 x (by simp), fitsL_get fun j y hy => h (j + 1) y (by simpa using hy)⟩
theorem fitsV_of {x : SV} {u : Value} (h : vd3 E0 [] w x u) : fitsV x := by
 cases x with
 | row t r => exact deep_of h
 | pt t cs =>
   obtain ⟨ad, _, _, _, _, hc⟩ := h
   refine fitsL_get fun j x hx => ?_
   obtain ⟨u, _, hd⟩ := hc j x hx
   cases x with
   | row t' r => exact deep_of hd
   | _ => trivial
 | agg cs =>
   obtain ⟨us, _, hl⟩ := h
   refine fitsL_of (fun x u hx => ?_) hl
   cases x with
   | row t' r => exact deep_of hx
   | _ => trivial
 | _ => trivial
theorem argFits_of : ∀ {args : List SV} {vals : List Value}, L0 (vd3 E0 [] w) args vals → argFits args
 | [], _, _ => trivial
 | x :: l, _, h => by
   obtain ⟨u, us', rfl, h1, h2⟩ := h.inv_cons
   exact ⟨fitsV_of h1, argFits_of h2⟩
end
end Go.Proofs.YtjjpakdlkjaigaaGreat

/- A symbolic executor for loaded Go code: a function's results. -/
namespace Go.Proofs.YtjjpakdlkjaigaaGreat
open Go.RowKit
section
variable {P : Program} {τ : Tys} {w0 : World} {aS : List (Array Value)} {E : Env} {w : World} {s : St}
def getR (tmps : Array Value) : ResultVar → Sem Value
 | .tmp t => pure (tmps.getD t undef)
 | .cell a t => do loadVar t (← asAddr (tmps.getD a undef))
theorem mapM_list {α : Type} (g : α → Sem Value) : ∀ (l : List α) (vs : List Value), l.length = vs.length → (∀ (j : Nat) x, l[j]? = some x → ∃ v, vs[j]? = some v ∧ (g x).run P w = .ok v w) → (l.mapM g).run P w = .ok vs w
 | [], vs, hl, _ => by
   have : vs = [] := List.eq_nil_of_length_eq_zero hl.symm
   subst this
   simp
 | x :: l, [], hl, _ => by simp at hl
 | x :: l, v :: vs, hl, h => by
   obtain ⟨v', hv', hr⟩ := h 0 x (by simp)
   simp at hv'
   subst hv'
   have ih := mapM_list g l vs (by simpa using hl) fun j y hy => by simpa using h (j + 1) y (by simpa using hy)
   simp [List.mapM_cons, hr, ih]
def oneV : List Value → Value
 | [v] => v
 | vs => .tuple vs.toArray
theorem results_list {fn : Func} {rs : List ResultVar} (hrs : fn.results.toList = rs) {tmps : Array Value} {vs : List Value} (hl : rs.length = vs.length)
  (h : ∀ (j : Nat) r, rs[j]? = some r → ∃ v, vs[j]? = some v ∧ (getR tmps r).run P w = .ok v w) : (results fn tmps).run P w = .ok (oneV vs) w := by
 have he : fn.results = rs.toArray := by rw [← hrs]
 have := mapM_list (P := P) (w := w) (getR tmps) rs vs hl h
 have h2 : (rs.toArray.mapM (getR tmps)).run P w = .ok vs.toArray w := by
  rw [List.mapM_toArray]
  simp [Sem.run_map, this]
 have hfun : results fn tmps = (do let vs ← rs.toArray.mapM (getR tmps); pure (if h : vs.size = 1 then vs[0] else .tuple vs)) := by
  unfold results
  rw [he]
  congr 2
 rw [hfun]
 simp only [Sem.run_bind, Sem.run_pure]
 rw [h2]
 simp only [Result.andThen_ok]
 congr 1
 cases vs with
 | nil => rfl
 | cons v vs => cases vs <;> rfl
theorem resVals_ok (hτ : TysOk P τ) {a : Act} {aS : List (Array Value)} (hd : Den τ w0 E s (a.tmps :: aS) w) {K : List SV → Prop} : ∀ (rs : List ResultVar) (acc : List SV) (us : List Value), resVals τ s rs acc K → L0 (vd3 E s.rows w) acc.reverse us →
  ∃ xs vs, K xs ∧ L0 (vd3 E s.rows w) xs (us ++ vs) ∧ rs.length = vs.length ∧ ∀ (j : Nat) r, rs[j]? = some r → ∃ v, vs[j]? = some v ∧ (getR a.tmps r).run P w = .ok v w
 | [], acc, us, h, ha => ⟨acc.reverse, [], h, by simpa using ha, rfl, fun j r h => by simp at h⟩
 | r :: rs, acc, us, h, ha => by
   have key : ∀ (x : SV) (v : Value), vd3 E s.rows w x v → (getR a.tmps r).run P w = .ok v w → resVals τ s rs (x :: acc) K →
     ∃ xs vs, K xs ∧ L0 (vd3 E s.rows w) xs (us ++ vs) ∧ (r :: rs).length = vs.length ∧ ∀ (j : Nat) r', (r :: rs)[j]? = some r' → ∃ v, vs[j]? = some v ∧ (getR a.tmps r').run P w = .ok v w := by
    intro x v hx hr h
    obtain ⟨xs, vs, h1, h2, h3, h4⟩ := resVals_ok hτ hd rs (x :: acc) (us ++ [v]) h (by
     rw [List.reverse_cons]
     exact ha.append (.cons hx .nil))
    refine ⟨xs, v :: vs, h1, by simpa using h2, by simp [h3], fun j r' hj => ?_⟩
    cases j with
    | zero => simp at hj; subst hj; exact ⟨v, by simp, hr⟩
    | succ j => simpa using h4 j r' (by simpa using hj)
   obtain ⟨b, hb, hfr⟩ := hd.fr 0 s.fr (by simp)
   simp at hb
   subst hb
   cases r with
   | tmp t =>
     simp only [resVals, SV.force_eq] at h
     exact key _ _ (hfr t) (by simp [getR]) h
   | cell c T =>
     simp only [resVals] at h
     obtain ⟨fr, stk, bx, rw', dep⟩ := s
     have hl := load_ok (P := P) hτ hd T (hfr c)
     split at h
     · rename_i v hv
       rw [SV.force_eq] at h
       rw [hv] at hl
       obtain ⟨z, hz, hvd⟩ := hl
       refine key v z hvd ?_ h
       -- an address, for sure
       have : ∃ ad, a.tmps.getD c undef = .pointer (some ad) := by
        cases hc : a.tmps.getD c undef with
        | pointer p =>
          cases p with
          | some ad => exact ⟨ad, rfl⟩
          | none => rw [hc] at hz; simp [Instr.loadAt, Instr.sureAddr] at hz
        | _ => rw [hc] at hz; simp [Instr.loadAt, Instr.sureAddr] at hz
       obtain ⟨ad, had⟩ := this
       rw [had] at hz
       simp only [getR, had, asAddr]
       simpa [Instr.loadAt, Instr.sureAddr] using hz
     · exact h.elim
theorem one_vd {xs : List SV} {vs : List Value} (h : L0 (vd3 E s.rows w) xs vs) (hno : xs.length = 1 ∨ ∀ x ∈ xs, ∀ c, x ≠ .tup c) : vd3 E s.rows w (oneOf xs) (oneV vs) := by
 have tup : (∀ x ∈ xs, ∀ c, x ≠ .tup c) → L0 (vd2 E s.rows w) xs vs := fun hno => h.mono fun x u hx hp => by
  cases x with
  | tup c => exact absurd rfl (hno _ hx c)
  | _ => exact hp
 cases xs with
 | nil => obtain rfl := h.inv_nil; exact ⟨[], rfl, L0.nil⟩
 | cons x xs =>
   obtain ⟨u, us, rfl, h1, h2⟩ := h.inv_cons
   cases xs with
   | nil => obtain rfl := h2.inv_nil; exact h1
   | cons y xs =>
     obtain ⟨u', us', rfl, h3, h4⟩ := h2.inv_cons
     exact ⟨_, rfl, tup (hno.resolve_left (by simp))⟩
end
end Go.Proofs.YtjjpakdlkjaigaaGreat

/- A symbolic executor for loaded Go code: a function that meets its contract, on. -/
namespace Go.Proofs.YtjjpakdlkjaigaaGreat
open Go.RowKit
section
variable {P : Program} {τ : Tys} {w0 : World} {aS : List (Array Value)} {E : Env} {w : World} {s : St}
def Eout (E : Env) (A : List (Nat × Option Nat)) : Env := ⟨E.base, E.base, fun _ => 0, fun i => match lk A i with
 | some (some k) => E.hs k
 | _ => .slice none 0 0, fun g => ∃ i k, lk A i = some (some k) ∧ (E.hs k).ownBlock = some g⟩
def PairOk (E : Env) (A : List (Nat × Option Nat)) (p : Nat × Option Nat) : Prop := match p.2 with
 | some k => (Eout E A).hs p.1 = E.hs k
 | none => (Eout E A).hs p.1 = .slice none 0 0
theorem lk_mem {α : Type} : ∀ {l : List (Nat × α)} {k : Nat} {v : α}, lk l k = some v → (k, v) ∈ l
 | [], k, v, h => by simp [lk] at h
 | (j, x) :: l, k, v, h => by
   simp only [lk] at h
   split at h
   · rename_i hj
     obtain rfl := Nat.eq_of_beq_eq_true hj
     simp at h
     subst h
     exact List.mem_cons_self
   · exact List.mem_cons_of_mem _ (lk_mem h)
theorem lk_of_mem {α : Type} : ∀ {l : List (Nat × α)} {k : Nat} {v : α}, (k, v) ∈ l → ∃ v', lk l k = some v'
 | [], k, v, h => by simp at h
 | (j, x) :: l, k, v, h => by
   simp only [lk]
   split
   · exact ⟨_, rfl⟩
   · rename_i hj
     rcases List.mem_cons.1 h with h | h
     · injection h with h1 h2; subst h1; simp at hj
     · exact lk_of_mem h
theorem beq_ff {a b : Nat} (h : Nat.beq a b = false) : a ≠ b := fun e => by subst e; simp at h
theorem soleK_spec {i k : Nat} : ∀ {A : List (Nat × Option Nat)}, soleK i k A = true → ∀ p ∈ A, match p.2 with
  | some k' => p.1 = i ↔ k = k'
  | none => p.1 ≠ i
 | [], _, p, hp => by simp at hp
 | (j, some k') :: A, h, p, hp => by
   simp only [soleK] at h
   split at h
   · rename_i h1 h2
     rcases List.mem_cons.1 hp with rfl | hp
     · exact ⟨fun _ => Nat.eq_of_beq_eq_true h2, fun _ => Nat.eq_of_beq_eq_true h1⟩
     · exact soleK_spec h p hp
   · rename_i h1 h2
     rcases List.mem_cons.1 hp with rfl | hp
     · exact ⟨fun e => absurd e (beq_ff h1), fun e => absurd e (beq_ff h2)⟩
     · exact soleK_spec h p hp
   · simp at h
 | (j, none) :: A, h, p, hp => by
   simp only [soleK] at h
   split at h
   · simp at h
   · rename_i h1
     rcases List.mem_cons.1 hp with rfl | hp
     · exact beq_ff h1
     · exact soleK_spec h p hp
theorem soleAll_spec {A : List (Nat × Option Nat)} : ∀ {B : List (Nat × Option Nat)}, soleAll A B = true → ∀ i k, (i, some k) ∈ B → soleK i k A = true
 | [], _, i, k, hp => by simp at hp
 | (j, some k') :: B, h, i, k, hp => by
   simp only [soleAll] at h
   split at h
   · rename_i h1
     rcases List.mem_cons.1 hp with hp | hp
     · injection hp with e1 e2; injection e2 with e2; subst e1; subst e2; exact h1
     · exact soleAll_spec h i k hp
   · simp at h
 | (j, none) :: B, h, i, k, hp => by
   simp only [soleAll] at h
   rcases List.mem_cons.1 hp with hp | hp
   · injection hp with e1 e2; simp at e2
   · exact soleAll_spec (B := B) h i k hp
theorem coverAll_spec {A : List (Nat × Option Nat)} : ∀ {n : Nat}, coverAll A n = true → ∀ i, i < n → ∃ o, lk A i = some o
 | 0, _, i, hi => by omega
 | n + 1, h, i, hi => by
   simp only [coverAll] at h
   split at h
   · rename_i o ho
     by_cases e : i = n
     · subst e; exact ⟨o, ho⟩
     · exact coverAll_spec h i (by omega)
   · simp at h
theorem pair_ok {A : List (Nat × Option Nat)} (hs : soleAll A A = true) : ∀ p ∈ A, PairOk E A p := by
 rintro ⟨i, o⟩ hp
 obtain ⟨o', ho'⟩ := lk_of_mem hp
 have hm := lk_mem ho'
 cases o with
 | some k =>
   have := soleK_spec (soleAll_spec hs i k hp) _ hm
   cases o' with
   | some k' => have e := this.1 rfl; subst e; simp [PairOk, Eout, ho']
   | none => exact absurd rfl this
 | none =>
   cases o' with
   | some k' => exact absurd rfl (soleK_spec (soleAll_spec hs i k' hm) _ hp)
   | none => simp [PairOk, Eout, ho']
def OutOk (E : Env) (A : List (Nat × Option Nat)) : Prop := (∀ g, (Eout E A).ow g → E.ow g) ∧ E.base ≤ E.M
theorem out_F {A : List (Nat × Option Nat)} (hA : OutOk E A) {w : World} {g : Nat} (h : E.F w .new g) : (Eout E A).F w .new g := ⟨fun e => h.1 (hA.1 g e), Nat.le_trans hA.2 h.2.1, h.2.2⟩
def OwnAll (R : List (Nat × Ent)) (k : Nat) (r : Rw) : Prop := ∃ e lo, lk R k = some e ∧ e.mine = some (lo, r) ∧ r.len ≤ lo
theorem matchV_vd {R : List (Nat × Ent)} {rows : List Rw} {A : List (Nat × Option Nat)} (hA : OutOk E A) {x v : SV} {u : Value} (hm : matchV R rows x v) (hp : ∀ p ∈ pairV x v, PairOk E A p) (h : vd0 E R w x u) :
  vd0 (Eout E A) (resRows rows 0) w v u := by
 unfold matchV at hm
 split at hm
 · obtain ⟨rfl, rfl⟩ := hm; exact h
 · subst hm; exact h
 · subst hm; exact h
 · subst hm; exact h
 · rename_i k i
   split at hm
   · rename_i r r' hk hi
     subst hm
     have := hp (i, some k) (by simp [pairV])
     simp only [vd0] at h ⊢
     rw [hk] at h
     rw [nth_eq] at hi
     rw [lk_resRows, if_pos (Nat.zero_le _), Nat.sub_zero, hi]
     exact h.trans (Eq.symm this)
   · rename_i lo r r' hk hi
     obtain ⟨rfl, _⟩ := hm
     have := hp (i, some k) (by simp [pairV])
     simp only [vd0] at h ⊢
     rw [hk] at h
     rw [nth_eq] at hi
     rw [lk_resRows, if_pos (Nat.zero_le _), Nat.sub_zero, hi]
     exact h.trans (Eq.symm this)
   · exact hm.elim
 · rename_i r i
   split at hm
   · rename_i r' hi
     subst hm
     have := hp (i, none) (by simp [pairV])
     obtain ⟨rfl, h0⟩ := h
     simp only [vd0]
     rw [nth_eq] at hi
     rw [lk_resRows, if_pos (Nat.zero_le _), Nat.sub_zero, hi]
     exact Eq.symm this
   · exact hm.elim
 · subst hm; exact RowDen.mono h fun g hg _ => ⟨rfl, out_F hA hg⟩
 · subst hm; obtain ⟨rfl, h0⟩ := h; exact empty_row h0 _
 · split at hm
   · rename_i r hk
     subst hm
     simp only [vd0] at h ⊢
     rw [hk] at h
     exact RowDen.mono h fun g hg _ => ⟨rfl, out_F hA hg⟩
   · exact hm.elim
 · exact hm.elim
theorem matchV_shape {R : List (Nat × Ent)} {rows : List Rw} {x v : SV} (hm : matchV R rows x v) : capOk x = true ∧ capOk v = true := by
 unfold matchV at hm
 split at hm <;> first | exact ⟨rfl, rfl⟩ | exact hm.elim
theorem vd0_of_cap {R : List (Nat × Ent)} {x : SV} {u : Value} (hc : capOk x = true) (h : vd3 E R w x u) : vd0 E R w x u := by cases x <;> first | exact h | (simp [capOk] at hc; done)
theorem vd1_of_cap {R : List (Nat × Ent)} {x : SV} {u : Value} (hc : capOk x = true) (h : vd1 E R w x u) : vd0 E R w x u := by cases x <;> first | exact h | (simp [capOk] at hc; done)
theorem matchL_vd {p : SV → SV → Prop} {q q' : SV → Value → Prop} {pr : SV → SV → List (Nat × Option Nat)} {A : List (Nat × Option Nat)}
  (hf : ∀ x v u, p x v → (∀ c ∈ pr x v, PairOk E A c) → q x u → q' v u) : ∀ (cs cs' : List SV) (us : List Value), matchL p cs cs' → (∀ c ∈ pairL pr cs cs', PairOk E A c) → L0 q cs us → L0 q' cs' us
 | [], [], us, _, _, h => by obtain rfl := h.inv_nil; exact L0.nil
 | x :: cs, y :: cs', us, hm, hp, h => by
   obtain ⟨u, us', rfl, h1, h2⟩ := h.inv_cons
   exact .cons (hf x y u hm.1 (fun c hc => hp c (by simp [pairL, hc])) h1) (matchL_vd hf cs cs' us' hm.2 (fun c hc => hp c (by simp [pairL, hc])) h2)
 | [], _ :: _, _, hm, _, _ => hm.elim
 | _ :: _, [], _, hm, _, _ => hm.elim
theorem matchA_vd {R : List (Nat × Ent)} {rows : List Rw} {A : List (Nat × Option Nat)} (hA : OutOk E A) {x v : SV} {u : Value} (hm : matchA R rows x v) (hp : ∀ p ∈ pairA x v, PairOk E A p) (h : vd2 E R w x u) :
  vd2 (Eout E A) (resRows rows 0) w v u := by
 unfold matchA at hm
 split at hm
 · rename_i cs cs'
   obtain ⟨us, rfl, hl⟩ := h
   refine ⟨us, rfl, matchL_vd (fun x v u h1 h2 h3 => ?_) cs cs' us hm hp hl⟩
   obtain ⟨c1, c2⟩ := matchV_shape h1
   exact old0_vd1 (matchV_vd hA h1 h2 (vd1_of_cap c1 h3))
 · rename_i hne
   obtain ⟨c1, c2⟩ := matchV_shape hm
   have hp' : ∀ p ∈ pairV x v, PairOk E A p := by
    intro p hpm
    refine hp p ?_
    unfold pairA
    split
    · rename_i cs cs'; exact absurd rfl (hne cs cs' rfl)
    · exact hpm
   have h3 : vd3 E R w x u := by cases x <;> first | exact h | (simp [capOk] at c1; done)
   have := matchV_vd hA hm hp' (vd0_of_cap c1 h3)
   cases v <;> first | exact this | (simp [capOk] at c2; done)
theorem matchA_shape {R : List (Nat × Ent)} {rows : List Rw} {x v : SV} (hm : matchA R rows x v) : (∀ c, x ≠ .tup c) ∧ ∀ c, v ≠ .tup c := by
 unfold matchA at hm
 split at hm
 · exact ⟨fun c => by simp, fun c => by simp⟩
 · obtain ⟨c1, c2⟩ := matchV_shape hm
   exact ⟨fun c e => by subst e; simp [capOk] at c1, fun c e => by subst e; simp [capOk] at c2⟩
theorem matchT_vd {R : List (Nat × Ent)} {rows : List Rw} {A : List (Nat × Option Nat)} (hA : OutOk E A) {x v : SV} {u : Value} (hm : matchT R rows x v) (hp : ∀ p ∈ pairT x v, PairOk E A p) (h : vd3 E R w x u) :
  vd3 (Eout E A) (resRows rows 0) w v u := by
 unfold matchT at hm
 split at hm
 · rename_i cs cs'
   obtain ⟨us, rfl, hl⟩ := h
   exact ⟨us, rfl, matchL_vd (q := vd2 E R w) (q' := vd2 (Eout E A) (resRows rows 0) w) (p := matchA R rows) (pr := pairA) (fun x v u h1 h2 h3 => matchA_vd hA h1 h2 h3) cs cs' us hm hp hl⟩
 · rename_i hne
   obtain ⟨c1, c2⟩ := matchA_shape hm
   have hp' : ∀ p ∈ pairA x v, PairOk E A p := by
    intro p hpm
    refine hp p ?_
    unfold pairT
    split
    · rename_i cs cs'; exact absurd rfl (c1 cs)
    · exact hpm
   have h2 : vd2 E R w x u := by
    cases x with
    | tup c => exact absurd rfl (c1 c)
    | _ => exact h
   have := matchA_vd hA hm hp' h2
   cases v with
   | tup c => exact absurd rfl (c2 c)
   | _ => exact this
theorem pairV_rows {R : List (Nat × Ent)} {rows : List Rw} {x v : SV} {u : Value} (hm : matchV R rows x v) (h : vd0 E R w x u) : ∀ p ∈ pairV x v, ∃ r, rows[p.1]? = some r ∧ match p.2 with
  | some k => OwnAll R k r
  | none => r.len = 0 := by
 intro p hp
 unfold pairV at hp
 split at hp
 · rename_i k i
   simp at hp
   subst hp
   simp only [matchV] at hm
   split at hm
   · rename_i r r' hk hi
     subst hm
     exact ⟨r, by rw [← nth_eq]; exact hi, _, _, hk, rfl, Nat.le_refl _⟩
   · rename_i lo r r' hk hi
     obtain ⟨rfl, hle⟩ := hm
     exact ⟨r, by rw [← nth_eq]; exact hi, _, _, hk, rfl, hle⟩
   · exact hm.elim
 · rename_i r i
   simp at hp
   subst hp
   simp only [matchV] at hm
   split at hm
   · rename_i r' hi
     subst hm
     exact ⟨r, by rw [← nth_eq]; exact hi, h.2⟩
   · exact hm.elim
 · simp at hp
theorem pairL_rows {R : List (Nat × Ent)} {rows : List Rw} {p : SV → SV → Prop} {q : SV → Value → Prop} {pr : SV → SV → List (Nat × Option Nat)}
  (hf : ∀ x v u, p x v → q x u → ∀ c ∈ pr x v, ∃ r, rows[c.1]? = some r ∧ match c.2 with
    | some k => OwnAll R k r
    | none => r.len = 0) : ∀ (cs cs' : List SV) (us : List Value), matchL p cs cs' → L0 q cs us → ∀ c ∈ pairL pr cs cs', ∃ r, rows[c.1]? = some r ∧ match c.2 with
    | some k => OwnAll R k r
    | none => r.len = 0
 | [], [], us, _, _, c, hc => by simp [pairL] at hc
 | x :: cs, y :: cs', us, hm, h, c, hc => by
   obtain ⟨u, us', rfl, h1, h2⟩ := h.inv_cons
   simp only [pairL, List.mem_append] at hc
   rcases hc with hc | hc
   · exact hf x y u hm.1 h1 c hc
   · exact pairL_rows hf cs cs' us' hm.2 h2 c hc
 | [], _ :: _, _, hm, _, _, _ => hm.elim
 | _ :: _, [], _, hm, _, _, _ => hm.elim
theorem pairA_rows {R : List (Nat × Ent)} {rows : List Rw} {x v : SV} {u : Value} (hm : matchA R rows x v) (h : vd2 E R w x u) : ∀ p ∈ pairA x v, ∃ r, rows[p.1]? = some r ∧ match p.2 with
  | some k => OwnAll R k r
  | none => r.len = 0 := by
 unfold matchA at hm
 split at hm
 · rename_i cs cs'
   obtain ⟨us, rfl, hl⟩ := h
   exact pairL_rows (q := vd1 E R w) (p := matchV R rows) (pr := pairV) (fun x v u h1 h2 => pairV_rows (E := E) (w := w) (u := u) h1 (vd1_of_cap (matchV_shape h1).1 h2)) cs cs' us hm hl
 · rename_i hne
   obtain ⟨c1, c2⟩ := matchV_shape hm
   intro p hp
   unfold pairA at hp
   split at hp
   · rename_i cs cs'; exact absurd rfl (hne cs cs' rfl)
   · have h3 : vd3 E R w x u := by cases x <;> first | exact h | (simp [capOk] at c1; done)
     exact pairV_rows hm (vd0_of_cap c1 h3) p hp
theorem pairT_rows {R : List (Nat × Ent)} {rows : List Rw} {x v : SV} {u : Value} (hm : matchT R rows x v) (h : vd3 E R w x u) : ∀ p ∈ pairT x v, ∃ r, rows[p.1]? = some r ∧ match p.2 with
  | some k => OwnAll R k r
  | none => r.len = 0 := by
 unfold matchT at hm
 split at hm
 · rename_i cs cs'
   obtain ⟨us, rfl, hl⟩ := h
   exact pairL_rows (q := vd2 E R w) (p := matchA R rows) (pr := pairA) (fun x v u h1 h2 => pairA_rows (E := E) (w := w) (u := u) h1 h2) cs cs' us hm hl
 · rename_i hne
   obtain ⟨c1, c2⟩ := matchA_shape hm
   intro p hp
   unfold pairT at hp
   split at hp
   · rename_i cs cs'; exact absurd rfl (c1 cs)
   · have h2 : vd2 E R w x u := by
      cases x with
      | tup c => exact absurd rfl (c1 c)
      | _ => exact h
     exact pairA_rows hm h2 p hp
theorem ownsRow_less {b b' : Nat} (h : b ≤ b') {e : TypeId} {sz : Nat} {v : Value} {n : Nat} {us : List Value} (ho : w.ownsRow b' e sz v n us) : w.ownsRow b e sz v n us := by
 refine ⟨ho.1, ?_⟩
 rcases ho.2 with h1 | ⟨g, cap, cur, hv, hg, h2⟩
 · exact .inl h1
 · exact .inr ⟨g, cap, cur, hv, Nat.le_trans h hg, h2⟩
theorem match_res {a : Act} (hd : Den τ w0 E s (a.tmps :: aS) w) (hb : E.base ≤ E.M) {x v : SV} {rows : List Rw} {u : Value} (hm : matchT s.rows rows x v) (hs : soleAll (pairT x v) (pairT x v) = true) (hc : coverAll (pairT x v) rows.length = true)
  (h : vd3 E s.rows w x u) : Res τ E.base w v rows u := by
 have hrows := pairT_rows hm h
 have hpo := pair_ok (E := E) hs
 have hown : ∀ i k, lk (pairT x v) i = some (some k) → ∃ r, rows[i]? = some r ∧ OwnAll s.rows k r := fun i k hk => hrows _ (lk_mem hk)
 have hA : OutOk E (pairT x v) := by
  refine ⟨?_, hb⟩
  rintro g ⟨i, k, hk, hg⟩
  obtain ⟨r, _, e, lo, hr, hm, _⟩ := hown i k hk
  exact (hd.own k _ _ _ hr hm).ow g hg
 refine ⟨Eout E (pairT x v), rfl, rfl, ?_, ?_, ?_, matchT_vd hA hm hpo h⟩
 · intro g hg
   exact hd.owb g (hA.1 g hg)
 · intro i r hi
   obtain ⟨o, ho⟩ := coverAll_spec hc i (List.getElem?_eq_some_iff.1 hi).1
   cases o with
   | some k =>
     obtain ⟨r', hr', hk⟩ := hown i k ho
     rw [hi] at hr'
     injection hr' with hr'
     subst hr'
     obtain ⟨e, lo, hk, hme, hle⟩ := hk
     have hO := hd.own k _ _ _ hk hme
     have hh : (Eout E (pairT x v)).hs i = E.hs k := by simp [Eout, ho]
     obtain ⟨us, h1, h2⟩ := hO.row
     refine ⟨fun g hg => ⟨i, k, ho, by rw [← hh]; exact hg⟩, hO.fits, us, by rw [hh]; exact ownsRow_less hb h1, fun i' j x' hi' hx' => ?_⟩
     obtain ⟨u, hu, hcd⟩ := h2 i' j x' hi' hx'
     rw [if_pos (by omega)] at hcd
     rw [if_pos hi']
     exact ⟨u, hu, cd1.mono hcd fun g hg _ => ⟨rfl, out_F hA hg⟩⟩
   | none =>
     obtain ⟨r', hr', h0⟩ := hrows _ (lk_mem ho)
     rw [hi] at hr'
     injection hr' with hr'
     subst hr'
     have h0 : r.len = 0 := h0
     have hh : (Eout E (pairT x v)).hs i = .slice none 0 0 := by simp [Eout, ho]
     refine ⟨fun g hg => by rw [hh] at hg; simp [Value.ownBlock] at hg, by rw [h0]; simp, [], ?_, fun i' j x' hi' => by omega⟩
     rw [hh, h0]
     exact ⟨by simp, .inl ⟨rfl, rfl⟩⟩
 · intro i j ri rj g hi hj hne hg hg'
   obtain ⟨o, ho⟩ := coverAll_spec hc i (List.getElem?_eq_some_iff.1 hi).1
   obtain ⟨o', ho'⟩ := coverAll_spec hc j (List.getElem?_eq_some_iff.1 hj).1
   cases o with
   | none => simp [Eout, ho, Value.ownBlock] at hg
   | some k =>
     cases o' with
     | none => simp [Eout, ho', Value.ownBlock] at hg'
     | some k' =>
       obtain ⟨r, _, e, lo, hr, hm, _⟩ := hown i k ho
       obtain ⟨r', _, e', lo', hr', hm', _⟩ := hown j k' ho'
       have hkk : k ≠ k' := fun e => by
        have := soleK_spec (soleAll_spec hs i k (lk_mem ho)) _ (lk_mem ho')
        exact hne (this.2 e).symm
       simp [Eout, ho] at hg
       simp [Eout, ho'] at hg'
       exact hd.rr k k' _ _ _ _ g hr hr' hm hm' hkk hg hg'
theorem valid_of_vc (hm : P.follows .mixedOrders = true) (hτ : TysOk P τ) {f : FuncId} {fn : Func} {code : Code} (hf : P.funcs[f]? = some fn) (hb : fn.body = some code) (D : Draws) (hok : codeOk D fn.ntmps code = true) (sp : Spec)
  (h : ∀ args, argFits args → (sp args).vc fun v rows => allB argOkF args = true ∧ ∃ C, CtxOk P τ C ∧ ∃ L, wpC τ C D L code (startSt args) (retK τ fn.results.toList v rows)) : Valid P τ f sp := by
 intro args vals w hargs
 have key : ∀ v rows, (allB argOkF args = true ∧ ∃ C, CtxOk P τ C ∧ ∃ L, wpC τ C D L code (startSt args) (retK τ fn.results.toList v rows)) → Calls P f vals.toArray w fun e w' => ∃ z, e = .returned z ∧ Below w.heap.size w w' ∧ Res τ w.heap.size w' v rows z := by
  rintro v rows ⟨ha, C, hC, L, hw⟩
  refine calls_of_wp hf hb (wpC_sound hτ hC hm code _ _ _ _ _ hok hw (start_den ha hargs) ?_)
  intro e s a w' hk hat
  obtain ⟨E, hd, h1, h2, h3, h4⟩ := hat
  have fin : resVals τ s fn.results.toList [] (fun vs => (oneOf vs).force fun x => match soleAll (pairT x v) (pairT x v), coverAll (pairT x v) rows.length with
    | true, true => forceR (demoteL (readT x v) s.rows) fun R => matchT R rows x v
    | _, _ => False) → a.defers = [] ∧ ∃ z, (results fn a.tmps).run P w' = .ok z w' ∧ ∃ z', Ending.returned z = .returned z' ∧ Below w.heap.size w w' ∧ Res τ w.heap.size w' v rows z' := by
   intro hr
   obtain ⟨xs, vs, hK, hl, hlen, hg⟩ := resVals_ok hτ hd fn.results.toList [] [] hr L0.nil
   rw [SV.force_eq] at hK
   split at hK
   · rename_i hs hc
     rw [forceR_eq] at hK
     simp only [List.nil_append] at hl
     have hno : xs.length = 1 ∨ ∀ x ∈ xs, ∀ c, x ≠ .tup c := by
      cases xs with
      | nil => exact .inr fun x hx => by simp at hx
      | cons x xs =>
        cases xs with
        | nil => exact .inl rfl
        | cons y xs =>
          refine .inr ?_
          have hm : matchT (demoteL (readT (.tup (x :: y :: xs)) v) s.rows) rows (.tup (x :: y :: xs)) v := hK
          generalize demoteL (readT (.tup (x :: y :: xs)) v) s.rows = R at hm
          unfold matchT at hm
          split at hm
          · rename_i cs cs' he
            injection he with he
            subst he
            have : ∀ (l l' : List SV), matchL (matchA R rows) l l' → ∀ x ∈ l, ∀ c, x ≠ .tup c := by
             intro l
             induction l with
             | nil => intro l' _ x hx; simp at hx
             | cons z l ih =>
               intro l' hm x hx
               cases l' with
               | nil => exact hm.elim
               | cons z' l' =>
                 rcases List.mem_cons.1 hx with rfl | hx
                 · exact (matchA_shape hm.1).1
                 · exact ih l' hm.2 x hx
            exact this _ _ hm
          · exact absurd rfl ((matchA_shape hm).1 _)
     have hz := one_vd hl hno
     refine ⟨h4, oneV vs, results_list rfl hlen hg, oneV vs, rfl, ?_, ?_⟩
     · have := hd.below; rw [h1] at this; exact this
     · obtain ⟨fr, stk, bx, rw', dep⟩ := s
       obtain ⟨E', g1, g2, _, _, _, hd', _, g8⟩ := hd.demoteL (readT (oneOf xs) v)
       have := match_res hd' (by rw [g1, g2, h1]; exact h2) hK hs hc (g8 _ _ hz)
       rw [g1, h1] at this
       exact this
   · exact hK.elim
  cases e with
  | exit id => exact hk.elim
  | normal => exact fin hk
  | ret => exact fin hk
 have hsp := h args (argFits_of hargs)
 cases hs : sp args with
 | ok v rows => rw [hs] at hsp; exact key v rows hsp
 | ob q v rows => rw [hs] at hsp; exact fun hq => key v rows (hsp hq)
 | bad => trivial
end
end Go.Proofs.YtjjpakdlkjaigaaGreat

/- A symbolic executor for loaded Go code: the type table, checked by computation. -/
namespace Go.Proofs.YtjjpakdlkjaigaaGreat
open Go.RowKit
inductive Tr (α : Type) where
 | nil
 | leaf (k : Nat) (v : α)
 | node (m : Nat) (l r : Tr α)
def Tr.get {α : Type} : Tr α → Nat → Option α
 | .nil, _ => none
 | .leaf k v, t => match Nat.beq k t with
   | true => some v
   | false => none
 | .node m l r, t => match Nat.blt t m with
   | true => l.get t
   | false => r.get t
def Tr.all {α : Type} (p : Nat → α → Bool) : Tr α → Bool
 | .nil => true
 | .leaf k v => p k v
 | .node _ l r => match l.all p with
   | true => r.all p
   | false => false
theorem Tr.get_all {α : Type} {p : Nat → α → Bool} : ∀ {t : Tr α}, t.all p = true → ∀ k v, t.get k = some v → p k v = true
 | .nil, _, k, v, h => by simp [Tr.get] at h
 | .leaf k' v', ha, k, v, h => by
   simp only [Tr.get] at h
   split at h
   · rename_i hk
     obtain rfl := Nat.eq_of_beq_eq_true hk
     simp at h
     subst h
     exact ha
   · simp at h
 | .node m l r, ha, k, v, h => by
   simp only [Tr.all] at ha
   split at ha
   · rename_i hl
     simp only [Tr.get] at h
     split at h
     · exact Tr.get_all hl k v h
     · exact Tr.get_all ha k v h
   · simp at ha
def zeroChk : List SV → List Value → Bool
 | [], [] => true
 | .int k n :: l, .int k' n' :: l' => sameK k k' && decide (n = n') && zeroChk l l'
 | .bool b :: l, .bool c :: l' => sameB b c && zeroChk l l'
 | .str s :: l, .string s' :: l' => decide (s.size = 0) && decide (s'.size = 0) && zeroChk l l'
 | .nilS r :: l, .slice none 0 0 :: l' => decide (r.len = 0) && zeroChk l l'
 | .junk :: l, _ :: l' => zeroChk l l'
 | _, _ => false
theorem bytes_empty {s t : ByteArray} (h : s.size = 0) (h' : t.size = 0) : t = s := by
 have key : ∀ {u : ByteArray}, u.size = 0 → u = ByteArray.empty := by
  intro u hu
  obtain ⟨d⟩ := u
  have : d.size = 0 := hu
  have : d = #[] := Array.eq_empty_of_size_eq_zero this
  subst this
  rfl
 rw [key h, key h']
theorem zeroChk_ok (E : Env) (R : List (Nat × Ent)) (w : World) : ∀ (l : List SV) (us : List Value), zeroChk l us = true → L0 (vd0 E R w) l us
 | [], [], _ => L0.nil
 | x :: l, u :: us, h => by
   unfold zeroChk at h
   split at h <;> (try simp only [Bool.and_eq_true, decide_eq_true_eq] at h)
   · rename_i h1 h2; simp at h1
   · rename_i k n l1 k' n' l1' h1 h2
     injection h1 with h1 h3; injection h2 with h2 h4; subst h1; subst h2; subst h3; subst h4
     obtain ⟨⟨h5, h6⟩, h7⟩ := h
     rw [sameK_eq h5, h6]
     exact .cons rfl (zeroChk_ok E R w _ _ h7)
   · rename_i b l1 c l1' h1 h2
     injection h1 with h1 h3; injection h2 with h2 h4; subst h1; subst h2; subst h3; subst h4
     obtain ⟨h5, h7⟩ := h
     rw [sameB_eq h5]
     exact .cons rfl (zeroChk_ok E R w _ _ h7)
   · rename_i s l1 t l1' h1 h2
     injection h1 with h1 h3; injection h2 with h2 h4; subst h1; subst h2; subst h3; subst h4
     obtain ⟨⟨h5, h6⟩, h7⟩ := h
     rw [bytes_empty h5 h6]
     exact .cons rfl (zeroChk_ok E R w _ _ h7)
   · rename_i r l1 l1' h1 h2
     injection h1 with h1 h3; injection h2 with h2 h4; subst h1; subst h2; subst h3; subst h4
     obtain ⟨h5, h7⟩ := h
     exact .cons ⟨rfl, h5⟩ (zeroChk_ok E R w _ _ h7)
   · rename_i l1 u1 l1' h1 h2
     injection h1 with h1 h3; injection h2 with h2 h4; subst h1; subst h3; subst h4
     exact .cons trivial (zeroChk_ok E R w _ _ h)
   · simp at h
 | [], _ :: _, h => by simp [zeroChk] at h
 | x :: l, [], h => by unfold zeroChk at h; split at h <;> first | (rename_i h1 h2; simp at h2; done) | (simp at h; done) | (rename_i h1 _; simp at h1)
def fldChk : List Field → List (Nat × TypeId) → Bool
 | [], [] => true
 | f :: l, (o, T) :: l' => Nat.beq f.offset o && Nat.beq f.type T && fldChk l l'
 | _, _ => false
theorem fldChk_ok : ∀ (l : List Field) (l' : List (Nat × TypeId)), fldChk l l' = true → l' = l.map fun f => (f.offset, f.type)
 | [], [], _ => rfl
 | f :: l, (o, T) :: l', h => by
   simp only [fldChk, Bool.and_eq_true] at h
   obtain ⟨⟨h1, h2⟩, h3⟩ := h
   rw [fldChk_ok l l' h3, ← Nat.eq_of_beq_eq_true h1, ← Nat.eq_of_beq_eq_true h2]
   rfl
 | [], _ :: _, h => by simp [fldChk] at h
 | _ :: _, [], h => by simp [fldChk] at h
def tdChk : TypeDesc → TD → Bool
 | .int k, .int k' => sameK k k'
 | .bool, .bool => true
 | .string, .str => true
 | .slice e, .slice e' => Nat.beq e e'
 | .struct fa, .struct fs => fldChk fa.toList fs
 | .array n e, .arr n' e' => Nat.beq n n' && Nat.beq e e'
 | d, .other => match d with
   | .struct _ => false
   | .array _ _ => false
   | _ => true
 | _, _ => false
theorem tdChk_ok {d : TypeDesc} {t : TD} (h : tdChk d t = true) : tdOk d t := by
 unfold tdChk at h
 split at h
 · rw [sameK_eq h]; rfl
 · rfl
 · rfl
 · rw [Nat.eq_of_beq_eq_true h]; rfl
 · rename_i fa fs
   refine ⟨fa, rfl, fun j => ?_⟩
   rw [nth_eq, fldChk_ok _ _ h]
   simp
 · simp only [Bool.and_eq_true] at h
   rw [Nat.eq_of_beq_eq_true h.1, Nat.eq_of_beq_eq_true h.2]
   rfl
 · split at h
   · simp at h
   · simp at h
   · unfold tdOk
     split <;> first | trivial | (simp_all; done)
 · simp at h
def isSomeB {α : Type} : Option α → Bool
 | some _ => true
 | none => false
theorem isSomeB_ok {α : Type} {o : Option α} (h : isSomeB o = true) : ∃ x, o = some x := by cases o with
 | none => simp [isSomeB] at h
 | some x => exact ⟨x, rfl⟩
def subChk (τ : Tys) : TD → Bool
 | .struct fs => fs.all fun p => isSomeB (τ.ti p.2)
 | .arr _ e => isSomeB (τ.ti e)
 | _ => true
def tiChk (P : Program) (τ : Tys) (T : TypeId) (i : TI) : Bool := match P.info? T, P.underlying T with
 | some x, some d => match x.zero with
   | some z => Nat.beq x.size i.sz && Nat.beq x.bytes i.bytes && Nat.beq z.cells.size i.sz && zeroChk i.zero z.cells.toList && tdChk d i.td && subChk τ i.td
   | none => false
 | _, _ => false
theorem tiChk_ok {P : Program} {τ : Tys} {T : TypeId} {i : TI} (h : tiChk P τ T i = true) : TiOk P τ T i := by
 unfold tiChk at h
 split at h
 · rename_i x d hx hd
   split at h
   · rename_i z hz
     simp only [Bool.and_eq_true] at h
     obtain ⟨⟨⟨⟨⟨h1, h2⟩, h3⟩, h4⟩, h5⟩, h6⟩ := h
     refine ⟨?_, ?_, ⟨x, z, hx, Nat.eq_of_beq_eq_true h1, Nat.eq_of_beq_eq_true h2, hz, Nat.eq_of_beq_eq_true h3, fun E R w => zeroChk_ok E R w _ _ h4⟩, ⟨d, hd, tdChk_ok h5⟩⟩
     · intro fs hfs j p hp
       rw [hfs] at h6
       simp only [subChk, List.all_eq_true] at h6
       rw [nth_eq] at hp
       exact isSomeB_ok (h6 p (List.mem_of_getElem? hp))
     · intro n e he
       rw [he] at h6
       exact isSomeB_ok h6
   · simp at h
 · simp at h
def fitB : SV → SV → Bool
 | .int k n, .int k' n' => sameK k k' && decide (n = n')
 | .bool b, .bool c => sameB b c
 | .str s, .str t => decide (s.size = 0) && decide (t.size = 0)
 | .nilS (.ints []), .row _ (.ints []) => true
 | .nilS (.peers []), .row _ (.peers []) => true
 | .nilS (.items []), .row _ (.items []) => true
 | .nilS (.tolds []), .row _ (.tolds []) => true
 | .nilS (.cuts []), .row _ (.cuts []) => true
 | _, _ => false
def fitLB : List SV → List SV → Bool
 | [], [] => true
 | x :: l, y :: l' => fitB x y && fitLB l l'
 | _, _ => false
theorem fitB_ok {x y : SV} (h : fitB x y = true) : Fit x y := by
 unfold fitB at h
 split at h <;> (try simp only [Bool.and_eq_true, decide_eq_true_eq] at h)
 · exact ⟨sameK_eq h.1, h.2⟩
 · exact sameB_eq h
 · exact (bytes_empty h.1 h.2).symm
 · exact ⟨rfl, rfl⟩
 · exact ⟨rfl, rfl⟩
 · exact ⟨rfl, rfl⟩
 · exact ⟨rfl, rfl⟩
 · exact ⟨rfl, rfl⟩
 · simp at h
theorem fitLB_ok : ∀ {l l' : List SV}, fitLB l l' = true → FitL l l'
 | [], [], _ => FitL.nil
 | x :: l, y :: l', h => by
   simp only [fitLB, Bool.and_eq_true] at h
   exact FitL.cons (fitB_ok h.1) (fitLB_ok h.2)
 | [], _ :: _, h => by simp [fitLB] at h
 | _ :: _, [], h => by simp [fitLB] at h
def noRowB : List SV → Bool
 | [] => true
 | .row _ _ :: _ => false
 | _ :: l => noRowB l
theorem noRowB_ok : ∀ {l : List SV}, noRowB l = true → ∀ t r, SV.row t r ∉ l
 | [], _, t, r, h => by simp at h
 | x :: l, h, t, r, hm => by
   unfold noRowB at h
   split at h
   · rename_i h1; simp at h1
   · simp at h
   · rename_i x' l' hne h1
     injection h1 with h1 h2
     subst h1; subst h2
     rcases List.mem_cons.1 hm with e | hm
     · exact hne t r e.symm
     · exact noRowB_ok h t r hm
def rkChk (τ : Tys) (e k : Nat) : Bool := Nat.blt k 12 && Nat.beq (τ.et k) e && match τ.ti e with
 | some i => Nat.beq i.sz (kdSz k) && Nat.beq i.bytes (kdBytes k) && fitLB i.zero ((Rw.zeros k 1).cell .any 0) && noRowB i.zero
 | none => false
theorem rkChk_ok {τ : Tys} {e k : Nat} (h : rkChk τ e k = true) : k < 12 ∧ τ.et k = e ∧ ∃ i, τ.ti e = some i ∧ i.sz = kdSz k ∧ i.bytes = kdBytes k ∧ FitL i.zero ((Rw.zeros k 1).cell .any 0) ∧ ∀ t r, SV.row t r ∉ i.zero := by
 unfold rkChk at h
 simp only [Bool.and_eq_true] at h
 obtain ⟨⟨h1, h2⟩, h3⟩ := h
 split at h3
 · rename_i i hi
   simp only [Bool.and_eq_true] at h3
   obtain ⟨⟨⟨h4, h5⟩, h6⟩, h7⟩ := h3
   exact ⟨Nat.lt_of_succ_le (Nat.le_of_ble_eq_true h1), Nat.eq_of_beq_eq_true h2, i, hi, Nat.eq_of_beq_eq_true h4, Nat.eq_of_beq_eq_true h5, fitLB_ok h6, noRowB_ok h7⟩
 · simp at h3
def mkTys (I : Tr TI) (K : Tr Nat) (Et : Tr Nat) (S : Tr (List Nat)) : Tys := ⟨I.get, K.get, fun k => match Et.get k with
 | some e => e
 | none => 0, S.get⟩
theorem tys_ok {P : Program} {I : Tr TI} {K Et : Tr Nat} {S : Tr (List Nat)} (h1 : I.all (tiChk P (mkTys I K Et S)) = true) (h2 : K.all (rkChk (mkTys I K Et S)) = true) (h3 : ∀ T sh, S.get T = some sh → EqOk P T sh) : TysOk P (mkTys I K Et S) :=
 ⟨fun T i h => tiChk_ok (Tr.get_all h1 T i h), h3, fun e k h => rkChk_ok (Tr.get_all h2 e k h)⟩
theorem eqCells_int {sh : List Nat} {a b : List SV} {e : Bool} (h : eqCells (0 :: sh) a b = some e) : ∃ x y a' b' e', a = .int .i64 x :: a' ∧ b = .int .i64 y :: b' ∧ eqCells sh a' b' = some e' ∧ e = (decide (x = y) && e') := by
 unfold eqCells at h
 split at h
 · rename_i h1; simp at h1
 · rename_i sh' x a' y b' h1
   injection h1 with _ h1
   subst h1
   split at h
   · rename_i e' he
     simp at h
     subst h
     refine ⟨x, y, a', b', true, rfl, rfl, ?_, by simp⟩
     cases a' <;> cases b' <;> simp [eqCells] at he ⊢
   · rename_i e' hne he
     simp at h
     subst h
     exact ⟨x, y, a', b', e', rfl, rfl, he, rfl⟩
   · simp at h
 · rename_i h1; simp at h1
 · simp at h
theorem eqCells_bool {sh : List Nat} {n : Nat} {a b : List SV} {e : Bool} (h : eqCells ((n + 1) :: sh) a b = some e) : ∃ sx sy x y a' b' e', a = sx :: a' ∧ b = sy :: b' ∧ sx.asBool = some x ∧ sy.asBool = some y ∧ eqCells sh a' b' = some e' ∧ e = ((x == y) && e') := by
 unfold eqCells at h
 split at h
 · rename_i h1; simp at h1
 · rename_i h1; simp at h1
 · rename_i n' sh' x a' y b' h1
   injection h1 with _ h1
   subst h1
   split at h
   · rename_i p q e' hp hq he
     simp at h
     subst h
     refine ⟨x, y, p, q, a', b', true, rfl, rfl, hp, hq, ?_, by simp⟩
     cases a' <;> cases b' <;> simp [eqCells] at he ⊢
   · rename_i p q e' hne hp hq he
     simp at h
     subst h
     exact ⟨x, y, p, q, a', b', e', rfl, rfl, hp, hq, he, rfl⟩
   · simp at h
 · simp at h
theorem eqCells_nil {a b : List SV} {e : Bool} (h : eqCells [] a b = some e) : a = [] ∧ b = [] ∧ e = true := by
 cases a <;> cases b <;> simp [eqCells] at h
 exact ⟨rfl, rfl, h⟩
end Go.Proofs.YtjjpakdlkjaigaaGreat

/- A symbolic executor for loaded Go code: contexts, functions by their facts. -/
namespace Go.Proofs.YtjjpakdlkjaigaaGreat
open Go.RowKit
def mkCtx (l : List (FuncId × Spec)) : Ctx := ⟨fun f => lk l f, fun _ => none⟩
structure Known (P : Program) (τ : Tys) (f : FuncId) (sp : Spec) : Prop where
 enters : Enters P f
 valid : Valid P τ f sp
theorem ctx_nil {P : Program} {τ : Tys} : CtxOk P τ (mkCtx []) := ⟨fun f sp h => by simp [mkCtx, lk] at h, fun f sp h => by simp [mkCtx, lk] at h, fun f T h => by simp [mkCtx] at h, fun f T h => by simp [mkCtx] at h⟩
theorem ctx_cons {P : Program} {τ : Tys} {f : FuncId} {sp : Spec} {l : List (FuncId × Spec)} (h : Known P τ f sp) (hl : CtxOk P τ (mkCtx l)) : CtxOk P τ (mkCtx ((f, sp) :: l)) := by
 refine ⟨?_, ?_, fun f T h => by simp [mkCtx] at h, fun f T h => by simp [mkCtx] at h⟩
 · intro g sp' hg
   simp only [mkCtx, lk] at hg
   split at hg
   · rename_i hk
     obtain rfl := Nat.eq_of_beq_eq_true hk
     exact h.enters
   · exact hl.enters g sp' hg
 · intro g sp' hg
   simp only [mkCtx, lk] at hg
   split at hg
   · rename_i hk
     obtain rfl := Nat.eq_of_beq_eq_true hk
     simp at hg
     subst hg
     exact h.valid
   · exact hl.valid g sp' hg
def addTr (f : FuncId) (T : CallT) (C : Ctx) : Ctx := ⟨C.spec, fun g => match Nat.beq f g with
 | true => some T
 | false => C.tr g⟩
structure TrKnown (P : Program) (τ : Tys) (f : FuncId) (T : CallT) : Prop where
 enters : Enters P f
 ok : TrOk P τ f T
theorem ctx_tr {P : Program} {τ : Tys} {f : FuncId} {T : CallT} {C : Ctx} (h : TrKnown P τ f T) (hC : CtxOk P τ C) : CtxOk P τ (addTr f T C) := by
 refine ⟨hC.enters, hC.valid, ?_, ?_⟩
 · intro g T' hg
   simp only [addTr] at hg
   split at hg
   · rename_i hk
     obtain rfl := Nat.eq_of_beq_eq_true hk
     exact h.enters
   · exact hC.trEnters g T' hg
 · intro g T' hg
   simp only [addTr] at hg
   split at hg
   · rename_i hk
     obtain rfl := Nat.eq_of_beq_eq_true hk
     simp at hg
     subst hg
     exact h.ok
   · exact hC.trOk g T' hg
def fbody (fn : Func) : Code := match fn.body with
 | some c => c
 | none => .skip
def isSome' {α : Type} : Option α → Bool
 | some _ => true
 | none => false
def fnOk (D : Draws) (fn : Func) : Bool := isSome' fn.body && !(fn.name == "runtime.NumGoroutine") && codeOk D fn.ntmps (fbody fn)
theorem fnOk_enters {P : Program} {f : FuncId} {fn : Func} {D : Draws} (hf : P.funcs[f]? = some fn) (h : fnOk D fn = true) : Enters P f := by
 simp only [fnOk, Bool.and_eq_true, Bool.not_eq_true'] at h
 intro args w
 have hb : fn.body.isNone = false := by
  cases hb : fn.body with
  | none => rw [hb] at h; simp [isSome'] at h
  | some c => rfl
 have hn : ¬ fn.name = "runtime.NumGoroutine" := by simpa using h.1.2
 have hb' : ¬ fn.body = none := fun e => by rw [e] at hb; simp at hb
 simp [callFunc, hf, hb, hb', hn]
theorem known {P : Program} {τ : Tys} (hm : P.follows .mixedOrders = true) (hτ : TysOk P τ) {f : FuncId} {fn : Func} (hf : P.funcs[f]? = some fn) (D : Draws) (hok : fnOk D fn = true) (sp : Spec)
  (h : ∀ args, argFits args → (sp args).vc fun v rows => allB argOkF args = true ∧ ∃ C, CtxOk P τ C ∧ ∃ L, wpC τ C D L (fbody fn) (startSt args) (retK τ fn.results.toList v rows)) : Known P τ f sp := by
 refine ⟨fnOk_enters hf hok, ?_⟩
 simp only [fnOk, Bool.and_eq_true] at hok
 have hb : fn.body = some (fbody fn) := by
  cases hb : fn.body with
  | none => have := hok.1.1; rw [hb] at this; simp [isSome'] at this
  | some c => simp [fbody, hb]
 exact valid_of_vc hm hτ hf hb D hok.2 sp h
def withS (l : List (Nat × SV)) : St → St
 | ⟨fr, stk, bx, rw, dep⟩ => ⟨l ++ fr, stk, bx, rw, dep⟩
def withR (l : List (Nat × Ent)) : St → St
 | ⟨fr, stk, bx, rw, dep⟩ => ⟨fr, stk, bx, l ++ rw, dep⟩
def withB (l : List (Nat × (TypeId × List SV))) : St → St
 | ⟨fr, stk, bx, rw, dep⟩ => ⟨fr, stk, l ++ bx, rw, dep⟩
end Go.Proofs.YtjjpakdlkjaigaaGreat
