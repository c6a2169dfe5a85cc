/- A part of the proof of ActDown: F19d, H24b, H24c, H24d, H24e. -/
import Derived.Test.YtjjpakdlkjaigaaGreatMB12
set_option linter.all false
set_option linter.unusedVariables false
set_option linter.unusedSimpArgs false
set_option linter.unusedSectionVars false
/- Contracts: the document's: whose a key is; sharing; a node's turn. -/
namespace Go.Proofs.YtjjpakdlkjaigaaGreat
open Go.RowKit
set_option maxRecDepth 20000
end Go.Proofs.YtjjpakdlkjaigaaGreat

/- Chapter 24: nodes tick, in whatever row. -/
namespace Go.Proofs.YtjjpakdlkjaigaaGreat
open Go.RowKit
set_option maxRecDepth 20000
end Go.Proofs.YtjjpakdlkjaigaaGreat

/- Chapter 24: an act turns one node at most. -/
namespace Go.Proofs.YtjjpakdlkjaigaaGreat
open Go.RowKit
set_option maxRecDepth 20000
end Go.Proofs.YtjjpakdlkjaigaaGreat

/- Chapter 24: a node that is down. -/
namespace Go.Proofs.YtjjpakdlkjaigaaGreat
open Go.RowKit
def downN (id : Int) : GNode := ⟨false, ⟨id, [], []⟩, [], []⟩
noncomputable def downW (w : GWorld) (k : Nat) : GWorld := ⟨w.nodes.set k (downN (w.nodes.getD k default).view.id), w.cuts, w.packets⟩
section
variable {w : GWorld} {k : Nat} (hw : worldB w = true) (hk : k < w.nodes.length)
include hw hk
theorem down_do : doW w ⟨6, (w.nodes.getD k default).view.id, 0, 0, [], 0, 0⟩ = (downW w k, 0) ∧ worldB (downW w k) = true := by
 have hr := base_rising (worldB_base.1 hw).1
 have hx : ndX w.nodes (w.nodes.getD k default).view.id = k := ndX_of hr hk
 have h := isNd_mem (getD_mem (d := default) hk)
 have ha : actB w ⟨6, (w.nodes.getD k default).view.id, 0, 0, [], 0, 0⟩ = true := by
  unfold actB
  rw [if_neg (by simp), if_neg (by simp)]
  simp only [h, Bool.true_and]
  rfl
 have e : actW w ⟨6, (w.nodes.getD k default).view.id, 0, 0, [], 0, 0⟩ = downW w k := by
  rw [actW_6 rfl]
  unfold setNd downW downN
  rw [hx]
 have h2 := step_may hw ha
 rw [e] at h2
 exact ⟨by rw [doW_yes hw ha, e], h2⟩
theorem down_at : (downW w k).nodes.getD k default = downN (w.nodes.getD k default).view.id := by
 unfold downW
 simp [List.getD_eq_getElem?_getD, hk]
theorem down_len : (downW w k).nodes.length = w.nodes.length := by
 unfold downW
 simp
theorem down_nd : RisingN (downW w k).nodes ∧ ndX (downW w k).nodes (w.nodes.getD k default).view.id = k ∧ isNd (downW w k).nodes (w.nodes.getD k default).view.id = true := by
 have hr := base_rising (worldB_base.1 (down_do hw hk).2).1
 have hk2 : k < (downW w k).nodes.length := by rw [down_len hw hk]; exact hk
 have e := down_at hw hk
 have h1 := ndX_of hr hk2
 have h2 := isNd_mem (getD_mem (d := default) hk2)
 rw [e] at h1 h2
 exact ⟨hr, h1, h2⟩
theorem down_still {i : Nat} (hi : i < 5) {ky vl : Int} (h1 : placeB ky = true) (h2 : placeB vl = true) : doW (downW w k) ⟨[0, 6, 8, 9, 10].getD i 0, (w.nodes.getD k default).view.id, 0, 0, [], ky, vl⟩ = (downW w k, 0) := by
 have hD := (down_do hw hk).2
 obtain ⟨hr, hx, hid⟩ := down_nd hw hk
 have hat : ndAt (downW w k).nodes (w.nodes.getD k default).view.id = downN (w.nodes.getD k default).view.id := by unfold ndAt; rw [hx]; exact down_at hw hk
 have hu : ¬ (ndAt (downW w k).nodes (w.nodes.getD k default).view.id).up = true := by rw [hat]; simp [downN]
 have hs : setNd (downW w k).nodes (w.nodes.getD k default).view.id ⟨false, ⟨(w.nodes.getD k default).view.id, [], []⟩, [], []⟩ = (downW w k).nodes := by
  unfold setNd downW downN
  rw [show ndX (w.nodes.set k ⟨false, ⟨(w.nodes.getD k default).view.id, [], []⟩, [], []⟩) (w.nodes.getD k default).view.id = k from hx, List.set_set]
 rcases i with _ | _ | _ | _ | _ | i
 · refine do_of hD ?_ ?_
   · unfold actB; rw [if_neg (by simp), if_neg (by simp)]; simp only [hid, Bool.true_and]; rfl
   · rw [actW_0 rfl]; unfold tickW; rw [if_neg hu]
 · refine do_of hD ?_ ?_
   · unfold actB; rw [if_neg (by simp), if_neg (by simp)]; simp only [hid, Bool.true_and]; rfl
   · rw [actW_6 rfl, hs]
 · refine do_of hD ?_ ?_
   · unfold actB; rw [if_neg (by simp), if_neg (by simp)]; simp only [hid, h1, h2, Bool.true_and]; rfl
   · rw [actW_8 rfl, if_neg hu]
 · refine do_of hD ?_ ?_
   · unfold actB; rw [if_neg (by simp), if_neg (by simp)]; simp only [hid, h1, Bool.true_and]; rfl
   · rw [actW_9 rfl, if_neg hu]
 · refine do_of hD ?_ ?_
   · unfold actB; rw [if_neg (by simp), if_neg (by simp)]; simp only [hid, h1, Bool.true_and]; rfl
   · rw [actW_10 rfl, if_neg hu]
 · omega
theorem down_deliv {p : Nat} (hp : p ≤ 65535) : ∃ W, doW (downW w k) ⟨1, 0, 0, (p : Int), [], 0, 0⟩ = (W, 0) ∧ W.nodes.length = w.nodes.length ∧ W.nodes.getD k default = downN (w.nodes.getD k default).view.id := by
 have hD := (down_do hw hk).2
 obtain ⟨hr, hx, hid⟩ := down_nd hw hk
 have hat := down_at hw hk
 have hl := down_len hw hk
 have ha : actB (downW w k) ⟨1, 0, 0, (p : Int), [], 0, 0⟩ = true := by
  unfold actB
  rw [if_pos (by simp)]
  simp only [Bool.and_eq_true, decide_eq_true_eq]
  omega
 refine ⟨_, doW_yes hD ha, ?_⟩
 rw [actW_1 rfl]
 split
 · exact ⟨hl, hat⟩
 · unfold delivW
   split
   · exact ⟨hl, hat⟩
   · split
     · rename_i hu
       refine ⟨by show (setNd _ _ _).length = _; rw [setNd_len]; exact hl, ?_⟩
       show (setNd (downW w k).nodes _ _).getD k default = _
       unfold setNd
       have hne : ¬ ndX (downW w k).nodes ((downW w k).packets.getD (pickP (downW w k) ⟨1, 0, 0, (p : Int), [], 0, 0⟩) default).dst = k := fun e => by
        unfold ndAt at hu
        rw [e, hat] at hu
        simp [downN] at hu
       rw [List.getD_eq_getElem?_getD, List.getElem?_set_ne hne, ← List.getD_eq_getElem?_getD]
       exact hat
     · exact ⟨hl, hat⟩
end
noncomputable def nmL (w : GWorld) (ids : List Int) (i : Nat) : List Int := Classical.choose (seal_ex ((ids.take i).map fun y => (w.nodes.getD (pk y w.nodes.length) default).view.id))
theorem nmL_def (w : GWorld) (ids : List Int) (i : Nat) : nmL w ids i = (ids.take i).map fun y => (w.nodes.getD (pk y w.nodes.length) default).view.id := Classical.choose_spec (seal_ex _)
theorem nmL_zero (w : GWorld) (ids : List Int) : nmL w ids 0 = [] := by rw [nmL_def]; rfl
theorem nmL_succ {w : GWorld} {ids : List Int} {i : Nat} (h : i < ids.length) : nmL w ids (i + 1) = nmL w ids i ++ [(w.nodes.getD (pk (ids.getD i 0) w.nodes.length) default).view.id] := by
 rw [nmL_def, nmL_def, List.take_succ_eq_append_getElem h, List.map_append]
 simp [List.getD_eq_getElem?_getD, h]
theorem nmL_len {w : GWorld} {ids : List Int} {i : Nat} (h : i ≤ ids.length) : (nmL w ids i).length = i := by
 rw [nmL_def, List.length_map, List.length_take]
 omega
theorem nmL_nd {w : GWorld} (ids : List Int) (i : Nat) (hn : 0 < w.nodes.length) : ∀ y ∈ nmL w ids i, isNd w.nodes y = true := fun y hy => by
 rw [nmL_def] at hy
 obtain ⟨z, _, rfl⟩ := List.mem_map.1 hy
 exact isNd_mem (getD_mem (pk_lt z hn))
theorem down_start {w : GWorld} {k : Nat} (hw : worldB w = true) (hk : k < w.nodes.length) {L : List Int} (hl : L.length ≤ 16) (hL : ∀ y ∈ L, isNd w.nodes y = true) :
  doW (downW w k) ⟨7, (w.nodes.getD k default).view.id, 0, 0, L, 0, 0⟩ = (⟨(downW w k).nodes.set k (newN (w.nodes.getD k default).view.id L).1, w.cuts, w.packets⟩, 0) ∧ (newN (w.nodes.getD k default).view.id L).2 = 0 ∧
   ((downW w k).nodes.set k (newN (w.nodes.getD k default).view.id L).1).getD k default = (newN (w.nodes.getD k default).view.id L).1 := by
 have hD := (down_do hw hk).2
 obtain ⟨hr, hx, hid⟩ := down_nd hw hk
 have hat : ndAt (downW w k).nodes (w.nodes.getD k default).view.id = downN (w.nodes.getD k default).view.id := by unfold ndAt; rw [hx]; exact down_at hw hk
 have e : (downW w k).nodes.map (fun x => x.view.id) = w.nodes.map fun x => x.view.id := by
  have h := setNd_ids (x := downN (w.nodes.getD k default).view.id) (base_rising (worldB_base.1 hw).1) (isNd_mem (getD_mem (d := default) hk)) rfl
  unfold setNd at h
  rw [ndX_of (base_rising (worldB_base.1 hw).1) hk] at h
  exact h
 have hL2 : ∀ y ∈ L, isNd (downW w k).nodes y = true := fun y hy => by rw [isNd_ids e]; exact hL y hy
 have ha : actB (downW w k) ⟨7, (w.nodes.getD k default).view.id, 0, 0, L, 0, 0⟩ = true := by
  unfold actB
  rw [if_neg (by simp), if_neg (by simp)]
  simp only [hid, Bool.true_and]
  rw [if_neg (by simp), if_pos True.intro, decide_eq_true hl, List.all_eq_true.2 hL2]
  rfl
 have h := do7_down hD ha rfl (by rw [hat]; rfl)
 have hb := (baseB_iff.1 (worldB_base.1 hD).1).1
 refine ⟨?_, (new_facts hb hid hL2).1, ?_⟩
 · rw [h]
   unfold setNd
   rw [hx]
   rfl
 · have hk2 : k < (downW w k).nodes.length := by rw [down_len hw hk]; exact hk
   simp [List.getD_eq_getElem?_getD, hk2]
end Go.Proofs.YtjjpakdlkjaigaaGreat

/- Chapter 24: a node that is down does nothing, hears nothing; it is new when it starts. -/
namespace Go.Proofs.YtjjpakdlkjaigaaGreat
open Go.RowKit
set_option maxRecDepth 20000
theorem down_pk (w : GWorld) (k : Nat) : (downW w k).packets = w.packets := Eq.trans rfl rfl
theorem pick255 (x : Int) : ∃ p : Nat, bits .and .i64 x 255 = (p : Int) ∧ p ≤ 255 := ⟨(x % 256).toNat, by rw [and255]; omega, by omega⟩
set_option maxHeartbeats 8000000 in
theorem k_ActDown : Known Tryz.prog tau 5 (S5 dWorld dInt dInts dInt dInt fun w x ids ky pi => okB true) := by
 refine known5 hmix tau_ok (ctx_cons k_awake24 (ctx_cons k_refWorldMay (ctx_cons k_actDoL (ctx_cons k_refNew (ctx_cons k_Num (ctx_cons k_SameNode (ctx_cons k_SameMsgs (ctx_cons k_SameWorld ctx_nil)))))))) (fn := Tryz.f5) (by kernel_rfl) [(14, [(0, 0), (1, 0), (2, 0), (3, 6), (4, 8), (5, 0), (6, 0), (7, 64), (8, 0), (9, 256), (10, 688), (11, 1025), (12, 2048), (13, 4096), (14, 4096), (15, 0), (16, 49151), (17, 131071)]), (18, [(0, 0), (1, 1), (2, 2), (3, 6), (4, 8), (5, 24), (6, 40), (7, 8), (8, 136), (9, 264), (10, 584), (11, 1032), (12, 2056), (13, 4096), (14, 12288), (15, 4096), (16, 53248), (17, 69632), (18, 4096), (19, 266240), (20, 4096), (21, 1576960), (22, 2101248), (23, 4329472), (24, 8392704), (25, 16781312)]), (24, [(0, 0), (1, 0), (2, 2), (3, 0), (4, 0), (5, 24), (6, 32), (7, 64), (8, 0), (9, 256), (10, 512), (11, 1024), (12, 2176), (13, 4096), (14, 8196), (15, 16384), (16, 32768), (17, 65536), (18, 131072), (19, 262145), (20, 1048575)]), (27, [(0, 0), (1, 1), (2, 2), (3, 6), (4, 8), (5, 24), (6, 40), (7, 72), (8, 128), (9, 384), (10, 640), (11, 128), (12, 2176), (13, 4224), (14, 9344), (15, 16512), (16, 32896), (17, 65536), (18, 196608), (19, 65536), (20, 851968), (21, 1114112), (22, 65536), (23, 6356992), (24, 8454144), (25, 33554431)])] (by kernel_rfl) _ _ _ _ _ _ fun w x ids ky pi hfit => ⟨rfl,
  [(12, invN (10 :: 16 :: 17 :: 18 :: 87 :: 88 :: 89 :: 90 :: 91 :: 92 :: 93 :: 94 :: 95 :: 96 :: 97 :: 98 :: 99 :: 100 :: 101 :: 102 :: 103 :: 104 :: 105 :: 106 :: 107 :: 108 :: 109 :: 110 :: 111 :: 112 :: 113 :: 114 :: 115 :: 116 :: []) (fun i => i ≤ 5) (fun i => withS [(16, .int .i64 (i : Int))]) (fun i => 5 - i)),
   (22, invX Nat (21 :: 22 :: 151 :: 152 :: 153 :: 154 :: 155 :: 156 :: 157 :: 158 :: 159 :: 160 :: 161 :: 162 :: 163 :: 164 :: 165 :: 166 :: 167 :: 168 :: 169 :: 170 :: 171 :: 172 :: 173 :: 174 :: 175 :: 176 :: 177 :: 178 :: 179 :: 180 :: []) [180] (fun i => i ≤ ids.length ∧ i ≤ 16) (fun i => match i with
    | 0 => fun st => withS [(22, .int .i64 0), (21, .nilS (.ints []))] st
    | i + 1 => fun st => withS [(22, .int .i64 ((i + 1 : Nat) : Int)), (21, .own 180)] (withR [(180, .own (.ints (nmL w ids (i + 1))))] st)) (fun i => 16 - i))], ?_⟩
 clear hfit
 cases hw : worldB w with
 | false =>
   refine V2 ?_; constructor <;> (first | (with_reducible exact TT.i) | (intros; (repeat (apply Wk.mk; intro Kv hN hX hR)); apply Wr.mk))
   all_goals (try simp only [etaWorld, hw] at *)
   all_goals first
    | exact absurd (show (!true) = true by with_reducible assumption) (by decide)
    | exact absurd (show (!false) = false by with_reducible assumption) (by decide)
    | rfl
 | true =>
   have hb := nodesB_iff.1 (baseB_iff.1 (worldB_base.1 hw).1).1
   have hl1 : 1 ≤ w.nodes.length := hb.1
   have hl2 : w.nodes.length ≤ 8 := hb.2.1
   obtain ⟨k, hk, hkl⟩ : ∃ k : Nat, IntKind.i64.wrap ((IntKind.u64.wrap x).tmod (IntKind.u64.wrap (w.nodes.length : Int))) = (k : Int) ∧ k < w.nodes.length := ⟨_, pk_eq _ (by omega) (by omega), pk_lt _ (by omega)⟩
   have hu : IntKind.u64.wrap (w.nodes.length : Int) ≠ 0 := by rw [wu64]; omega
   obtain ⟨W, dW, W1, W2⟩ : ∃ W, doW (downW w k) ⟨1, 0, 0, bits .and .i64 pi 255, [], 0, 0⟩ = (W, 0) ∧ W.nodes.length = w.nodes.length ∧ W.nodes.getD k default = downN (w.nodes.getD k default).view.id := by
    obtain ⟨p, e, hp⟩ := pick255 pi
    rw [e]
    exact down_deliv hw hkl (by omega)
   refine V2 ?_; constructor <;> (first | (with_reducible exact TT.i) | (intros; (repeat (apply Wk.mk; intro Kv hN hX hR)); apply Wr.mk))
   all_goals (try simp only [etaWorld, etaNd, hk, Int.toNat_natCast, Int.toNat_zero, (down_do hw hkl).1, down_at hw hkl, down_len hw hkl] at *)
   all_goals first
    | exact absurd (show (!true) = true by with_reducible assumption) (by decide)
    | exact absurd (show (!decide True) = true by with_reducible assumption) (by decide)
    | exact Ob.mk hu
    | (refine Ob.mk ⟨by omega, ?_⟩
       omega)
    | (refine ⟨0, Nat.zero_le _, ?_⟩
       refine V1 ?_; constructor <;> (first | (with_reducible exact TT.i) | (intros; (repeat (apply Wk.mk; intro Kv hN hX hR)); apply Wr.mk))
       all_goals rfl)
    | (with_reducible intro i hi
       have hi : i ≤ 5 := hi
       have h5 : ([0, 6, 8, 9, 10] : List Int).length = 5 := rfl
       have hul := down_len hw hkl
       refine V2 ?_; constructor <;> (first | (with_reducible exact TT.i) | (intros; (repeat (apply Wk.mk; intro Kv hN hX hR)); apply Wr.mk))
       all_goals (try simp only [etaWorld, etaNd, Int.toNat_natCast, Int.toNat_zero, dW, W1, W2, down_at hw hkl, down_len hw hkl] at *)
       all_goals first
        | exact absurd (show (!decide True) = true by with_reducible assumption) (by decide)
        | (have h := of_decide_eq_true (show decide ((i : Int) < (([0, 6, 8, 9, 10] : List Int).length : Nat)) = true by with_reducible assumption)
           first
            | (refine Ob.mk ⟨by omega, ?_⟩
               omega)
            | (simp only [down_still hw hkl (show i < 5 by omega) (placeB_255 ky) (placeB_255 pi)] at *
               first
                | exact absurd (show (!decide True) = true by with_reducible assumption) (by decide)
                | (refine ⟨i + 1, by omega, by omega, ?_⟩
                   refine V1 ?_; constructor <;> (first | (with_reducible exact TT.i) | (intros; (repeat (apply Wk.mk; intro Kv hN hX hR)); apply Wr.mk))
                   all_goals first
                    | exact wrapI (by omega) (by omega)
                    | rfl)))
        | (refine Ob.mk ⟨by omega, ?_⟩
           omega)
        | (refine ⟨0, ⟨Nat.zero_le _, Nat.zero_le _⟩, ?_⟩
           refine V1 ?_; constructor <;> (first | (with_reducible exact TT.i) | (intros; (repeat (apply Wk.mk; intro Kv hN hX hR)); apply Wr.mk))
           all_goals rfl)
        | (with_reducible intro j hj
           obtain ⟨hj, hj16⟩ : j ≤ ids.length ∧ j ≤ 16 := hj
           have ez := nmL_zero w ids
           have hnl := nmL_len (w := w) hj
           have hnd := nmL_nd (w := w) ids j (by omega)
           rcases j with _ | j
           · refine V2 ?_; constructor <;> (first | (with_reducible exact TT.i) | (intros; (repeat (apply Wk.mk; intro Kv hN hX hR)); apply Wr.mk))
             all_goals (try simp only [etaWorld, etaNd, pk_eq _ (show 0 < w.nodes.length by omega) (show w.nodes.length ≤ 100000 by omega), Int.toNat_natCast, Int.toNat_zero, List.nil_append, (down_start hw hkl (L := ([] : List Int)) (by simp) (by simp)).1, (down_start hw hkl (L := ([] : List Int)) (by simp) (by simp)).2.1, (down_start hw hkl (L := ([] : List Int)) (by simp) (by simp)).2.2, List.length_set, down_len hw hkl] at *)
             all_goals first
              | exact absurd (show (!decide True) = true by with_reducible assumption) (by decide)
              | (have h := of_decide_eq_true (show decide ((0 : Int) < (ids.length : Nat)) = true by with_reducible assumption)
                 have h16 := of_decide_eq_true (show decide ((0 : Int) < 16) = true by with_reducible assumption)
                 have e1 := nmL_succ (w := w) (ids := ids) (i := 0) (by omega)
                 first
                  | (refine Ob.mk ⟨by omega, ?_⟩
                     omega)
                  | exact Ob.mk hu
                  | exact Ob.mk ⟨by omega, Int.ofNat_lt.2 (pk_lt _ (by omega))⟩
                  | (refine Ob.mk ?_
                     simp only [Rw.len, Rw.bts, Rw.kd, kdBytes, List.length_cons, List.length_nil]
                     omega)
                  | (refine ⟨1, ⟨by omega, by omega⟩, by omega, ?_⟩
                     refine V1 ?_; constructor <;> (first | (with_reducible exact TT.i) | (intros; (repeat (apply Wk.mk; intro Kv hN hX hR)); apply Wr.mk))
                     all_goals first
                      | exact wrapI (by omega) (by omega)
                      | exact congrArg Rw.ints (by rw [e1, ez]; rfl)
                      | rfl))
              | (refine Ob.mk ⟨by omega, ?_⟩
                 omega)
              | (exfalso
                 rename_i h
                 revert h
                 decide)
              | rfl
              | (simp; done)
           · refine V2 ?_; constructor <;> (first | (with_reducible exact TT.i) | (intros; (repeat (apply Wk.mk; intro Kv hN hX hR)); apply Wr.mk))
             all_goals (try simp only [etaWorld, etaNd, pk_eq _ (show 0 < w.nodes.length by omega) (show w.nodes.length ≤ 100000 by omega), Int.toNat_natCast, Int.toNat_zero, List.nil_append, (down_start hw hkl (L := nmL w ids (j + 1)) (by omega) hnd).1, (down_start hw hkl (L := nmL w ids (j + 1)) (by omega) hnd).2.1, (down_start hw hkl (L := nmL w ids (j + 1)) (by omega) hnd).2.2, List.length_set, down_len hw hkl] at *)
             all_goals first
              | exact absurd (show (!decide True) = true by with_reducible assumption) (by decide)
              | (have h := of_decide_eq_true (show decide (((j + 1 : Nat) : Int) < (ids.length : Nat)) = true by with_reducible assumption)
                 have h16 := of_decide_eq_true (show decide (((j + 1 : Nat) : Int) < 16) = true by with_reducible assumption)
                 have e1 := nmL_succ (w := w) (ids := ids) (i := j + 1) (by omega)
                 first
                  | (refine Ob.mk ⟨by omega, ?_⟩
                     omega)
                  | exact Ob.mk hu
                  | exact Ob.mk ⟨by omega, Int.ofNat_lt.2 (pk_lt _ (by omega))⟩
                  | (refine Ob.mk ?_
                     simp only [Rw.len, Rw.bts, Rw.kd, kdBytes, List.length_cons, List.length_nil]
                     omega)
                  | (refine ⟨j + 2, ⟨by omega, by omega⟩, by omega, ?_⟩
                     refine V1 ?_; constructor <;> (first | (with_reducible exact TT.i) | (intros; (repeat (apply Wk.mk; intro Kv hN hX hR)); apply Wr.mk))
                     all_goals first
                      | exact wrapI (by omega) (by omega)
                      | exact congrArg Rw.ints e1.symm
                      | rfl))
              | (refine Ob.mk ⟨by omega, ?_⟩
                 omega)
              | (exfalso
                 rename_i h
                 revert h
                 decide)
              | rfl
              | (simp; done)))
    | (exfalso
       rename_i h
       simp [downN] at h
       done)
    | (exfalso
       rename_i h
       revert h
       rw [down_pk]
       simp
       done)
end Go.Proofs.YtjjpakdlkjaigaaGreat
