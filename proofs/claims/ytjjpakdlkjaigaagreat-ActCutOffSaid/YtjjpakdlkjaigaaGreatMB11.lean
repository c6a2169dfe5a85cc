/- A part of the proof of a law: InsCuts, DelCuts, F15, G23a, G23d, P24, D24, D24b, G11a, G19a, P24c, F24a, F24b, F24c0. -/
import Derived.Test.YtjjpakdlkjaigaaGreatMB10
import Derived.Shelf.RegionOpenPlain
import Derived.WalkKit
import Derived.Deep.LoopGhost
import Derived.Deep.RegionLaw
import Derived.Lib.Walk
import Derived.Lib.SliceRun
import Derived.Lib.AppendZeros
import Derived.Lib.AppendZerosOnto
import Derived.Maps.AppendAt
set_option linter.all false
set_option linter.unusedVariables false
set_option linter.unusedSimpArgs false
set_option linter.unusedSectionVars false
/- slices.Insert at one type, one element: its walk. -/
namespace Go.Proofs.YtjjpakdlkjaigaaGreat
open Go.RowKit Go.Sort
set_option maxHeartbeats 4000000 in
set_option maxRecDepth 1000000 in
theorem i_endCuts (base n : Nat) (v v2 : Value) (us vs : List Value) (w : World) (hr : w.ownsRow base 101 2 v n us) (hr2 : w.ownsRow base 101 2 v2 1 vs) (hbig : (n + 1) * 16 ≤ 140737488355328) (hv : ∀ u ∈ vs, u.oneCell' = true) (hbase : base ≤ w.heap.size) :
  Calls Tryz.prog 156 #[v, .int .i64 n, v2] w fun x w' => ∃ v', x = .returned v' ∧ w'.ownsRow base 101 2 v' (n + 1) (us ++ vs) ∧ w.grownBy w' v.ownBlock ∧ (v'.ownBlock = v.ownBlock ∨ ∃ g, v'.ownBlock = some g ∧ w.heap.size ≤ g) := by
 obtain ⟨hk10, het, ti, hti, hsz, hby, _⟩ := tau_ok.rk 101 6 (by kernel_rfl)
 obtain ⟨x0, z, g1, g2, g3, g4, g5, g6⟩ := (tau_ok.ti _ ti hti).info
 have g2 : x0.size = 2 := g2.trans hsz
 have g3 : x0.bytes = 16 := g3.trans hby
 have g5 : z.cells.size = 2 := g5.trans hsz
 clear hk10 het g6
 have t22 : Tryz.prog.underlying 23 = some (.slice 101) := Tryz.underlying23
 have mixed := hmix
 have h63 : n + 1 ≤ maxLen := by unfold maxLen; omega
 rcases hr2.2 with ⟨_, h0⟩ | ⟨g', cap', cur', rfl, hb', hh', hn', hm', hs', ht'⟩
 · omega
 have hnews : ∀ j u, vs[j]? = some u → w.cell? ((⟨g', 0, none⟩ : Addr).add j) = some u := hr2.cells (g := g') rfl
 have hl : vs.length = 1 * 2 := hr2.1
 have HN : Hid (∀ j u, vs[j]? = some u → w.cell? ((⟨g', 0, none⟩ : Addr).add j) = some u) := hnews
 have HV : Hid (∀ u ∈ vs, u.oneCell' = true) := hv
 have HR : Hid (w.ownsRow base 101 2 v n us) := hr
 have hcm : n ≤ 9223372036854775807 := by omega
 rcases hr.2 with ⟨rfl, h0⟩ | ⟨g, cap, cur, rfl, hb, hh, hnc, hm, hs, ht⟩
 · subst h0
   clear hr2 hnews hv hh' ht' hs' hr
   go_enter Tryz.func156, Tryz.ntmps156
   go_wp2_with (at_builtin; refine wpList_append_own_at _ rfl _ _ 23 rfl base 101 x0 z 2 16 t22 g1 g4 g2 g3 g5 (by decide) _ _ _ rfl HR.out ⟨g', 0, none⟩ 1 cap' vs rfl ?qc1 ?qc2 ?qc3 ?qc4 ?qc5 ?qc6 ?_)
   case qc1 => exact hl
   case qc2 => exact HN.out
   case qc3 => exact HV.out
   case qc4 => exact h63
   case qc5 => exact hbig
   case qc6 => exact hbase
   intro v' w1 hown hgrow hnil hat
   go_wp2
   go_ret
   exact ⟨v', rfl, hown, hgrow, hat.imp id fun h => ⟨_, h, Nat.le_refl _⟩⟩
 · have hcm2 : cap ≤ 9223372036854775807 := hm
   clear hr2 hnews hv hh' ht' hs' hh hs ht hr
   go_enter Tryz.func156, Tryz.ntmps156
   go_wp2_with (at_builtin; refine wpList_append_own_at _ rfl _ _ 23 rfl base 101 x0 z 2 16 t22 g1 g4 g2 g3 g5 (by decide) _ _ _ rfl HR.out ⟨g', 0, none⟩ 1 cap' vs rfl ?qc1 ?qc2 ?qc3 ?qc4 ?qc5 ?qc6 ?_)
   case qc1 => exact hl
   case qc2 => exact HN.out
   case qc3 => exact HV.out
   case qc4 => exact h63
   case qc5 => exact hbig
   case qc6 => exact hbase
   all_goals
    intro v' w1 hown hgrow hnil hat
    go_wp2
    go_ret
    exact ⟨v', rfl, hown, hgrow, hat.imp id fun h => ⟨_, h, Nat.le_refl _⟩⟩
set_option maxHeartbeats 4000000 in
set_option maxRecDepth 1000000 in
theorem i_shiftCuts (g cap n i g' cap' : Nat) (cur cur' : Array Value) (w : World) (hh : w.heap[g]? = some (.cells cur 101 (0, 0))) (hs : cur.size = cap * 2) (hroom : n + 1 ≤ cap) (hcm : cap ≤ maxLen) (hin : i < n)
  (hh' : w.heap[g']? = some (.cells cur' 101 (0, 0))) (hs' : cur'.size = cap' * 2) (hn' : 1 ≤ cap') (hne : g' ≠ g) (h1 : ∀ u ∈ cur.toList.take (n * 2), u.oneCell' = true) (h1' : ∀ u ∈ cur'.toList.take 2, u.oneCell' = true) :
  Calls Tryz.prog 156 #[.slice (some ⟨g, 0, none⟩) n cap, .int .i64 i, .slice (some ⟨g', 0, none⟩) 1 cap'] w fun x w' => x = .returned (.slice (some ⟨g, 0, none⟩) (n + 1) cap) ∧
   w' = putRow id w.drew g 0 (layC (layC cur ((i + 1) * 2) ((cur.toList.take (n * 2)).drop (i * 2))) (i * 2) (cur'.toList.take 2)) := by
 obtain ⟨x0, z, g1, g2, g3, g4, g5, g6, g7⟩ := zero_of w tau_ok (e := 101) (kd := 6) (by kernel_rfl)
 have g2 : x0.size = 2 := g2
 have t22 : Tryz.prog.underlying 23 = some (.slice 101) := Tryz.underlying23
 have mixed := hmix
 have hcap : (n + 1) * 2 ≤ cur.size := by rw [hs]; exact Nat.mul_le_mul_right _ hroom
 have hcap' : 2 ≤ cur'.size := by rw [hs']; omega
 obtain ⟨news, hnews⟩ : ∃ news, news = (cur.toList.take (n * 2)).drop (i * 2) := ⟨_, rfl⟩
 obtain ⟨vs, hvs⟩ : ∃ vs, vs = cur'.toList.take 2 := ⟨_, rfl⟩
 rw [← hnews, ← hvs]
 have hdl : news.length = (n - i) * 2 := by rw [hnews]; simp; omega
 have hvl : vs.length = 1 * 2 := by rw [hvs]; simp; omega
 have hH := holds_of_heap hh
 have hH' := holds_of_heap hh'
 have hz2 : ¬ ((i : Int) = (n : Int)) := by omega
 have hov : ∀ lb cb, (callFunc 196 #[.slice (some ⟨g', 0, none⟩) 1 cap', .slice (some ⟨g, (i + 1) * 2, none⟩) lb cb]).run Tryz.prog w = .ok (.value (.bool false)) w := fun lb cb => by
  rw [run_callFunc_extern Tryz.func196 (by kernel_rfl) (by kernel_rfl) (by kernel_rfl) (e := Extern.SlicesOverlaps.overlaps #[23, 23] #[4]) (by kernel_rfl),
   Lib.run_overlaps_apart w 23 4 101 t22 2 (fun w => by simp [Go.sizeOf, typeInfo, g1, g2]) ⟨g', 0, none⟩ ⟨g, (i + 1) * 2, none⟩ 1 cap' lb cb hne 101 101 cur'.size cur.size (by simp [World.shape?, hh']) (by simp [World.shape?, hh]) (by omega) (by simp [World.frozen?, hh']) (by simp [World.frozen?, hh'])]
  rfl
 have hcp1 : ∀ ty lb dc lc sc, lb = n - i → n - i ≤ lc → (Builtin.copy_ #[23, 23] ty #[.slice (some ⟨g, (i + 1) * 2, none⟩) lb dc, .slice (some ⟨g, i * 2, none⟩) lc sc]).run Tryz.prog w.drew = .ok (goInt ((n - i : Nat) : Int)) (w.drew.setCells g ((i + 1) * 2) news) := fun ty lb dc lc sc hlb hlc =>
  run_copy_k w.drew _ _ ty 101 g ((i + 1) * 2) lb dc ⟨g, i * 2, none⟩ lc sc news t22 g1 g2 (by simp only [Nat.min_def]; split <;> omega) hdl
   (fun j v hj => by
     have hlt : j < (n - i) * 2 := by have := (List.getElem?_eq_some_iff.1 hj).1; rwa [hdl] at this
     rw [hnews, List.getElem?_drop, List.getElem?_take_of_lt (by omega), Array.getElem?_toList, Array.getElem?_eq_getElem (by omega)] at hj
     rw [Addr.add_lit]
     have := (hH (i * 2 + j) (by omega)).1
     rw [Nat.zero_add, getElem!_pos cur _ (by omega)] at this
     injection hj with hj
     rw [← hj]
     exact this)
   (fun j hj => by
     rw [hdl] at hj
     have := (hH ((i + 1) * 2 + j) (by omega)).1
     rw [Nat.zero_add] at this
     show (w.cell? _).isSome = true
     rw [this]; rfl)
   (fun j hj => by
     rw [hdl] at hj
     have := (hH ((i + 1) * 2 + j) (by omega)).2
     rwa [Nat.zero_add] at this)
   (fun v hv => h1 v (by rw [hnews] at hv; exact List.mem_of_mem_drop hv))
 obtain ⟨W1, hW1⟩ : ∃ W1, W1 = w.drew.setCells g ((i + 1) * 2) news := ⟨_, rfl⟩
 have hsp1 : ∀ k, k < (n + 1) * 2 → (W1.cell? ⟨g, k, none⟩).isSome = true := fun k hk => by
  rw [hW1]
  refine isSome_setC g _ _ _ (fun j hj => ?_) _ ?_
  · rw [hdl] at hj
    have := (hH ((i + 1) * 2 + j) (by omega)).1
    rw [Nat.zero_add] at this
    show (w.cell? _).isSome = true
    rw [this]; rfl
  · have := (hH k (by omega)).1
    rw [Nat.zero_add] at this
    show (w.cell? _).isSome = true
    rw [this]; rfl
 have hcp2 : ∀ (W : World), (∀ x, W.cell? x = W1.cell? x) → (∀ x, W.frozen? x = W1.frozen? x) → ∀ ty dc, (Builtin.copy_ #[23, 23] ty #[.slice (some ⟨g, i * 2, none⟩) (n + 1 - i) dc, .slice (some ⟨g', 0, none⟩) 1 cap']).run Tryz.prog W = .ok (goInt 1) (W.setCells g (i * 2) vs) := fun W hWc hWf ty dc =>
  run_copy_k W _ _ ty 101 g (i * 2) (n + 1 - i) dc ⟨g', 0, none⟩ 1 cap' vs t22 g1 g2 (by simp only [Nat.min_def]; split <;> omega) hvl
   (fun j v hj => by
     have hlt : j < 2 := by have := (List.getElem?_eq_some_iff.1 hj).1; rw [hvl] at this; omega
     rw [hvs, List.getElem?_take_of_lt (by omega), Array.getElem?_toList, Array.getElem?_eq_getElem (by omega)] at hj
     rw [Addr.add_lit, hWc, hW1, World.cell?_setCells_out g _ _ _ _ (fun h _ => absurd h hne)]
     have := (hH' j (by omega)).1
     rw [getElem!_pos cur' _ (by omega)] at this
     injection hj with hj
     rw [← hj]
     exact this)
   (fun j hj => by rw [hvl] at hj; rw [hWc]; exact hsp1 _ (by omega))
   (fun j hj => by
     rw [hvl] at hj
     rw [hWf, hW1, World.frozen?_setCells]
     have := (hH (i * 2 + j) (by omega)).2
     rwa [Nat.zero_add] at this)
   (fun v hv => h1' v (by rw [hvs] at hv; exact hv))
 have hfin : W1.setCells g (i * 2) vs = putRow id w.drew g 0 (layC (layC cur ((i + 1) * 2) news) (i * 2) vs) := by
  have hdr : w.drew.heap[g]? = some (.cells cur 101 (0, 0)) := hh
  rw [hW1]
  conv => lhs; rw [← putRow_self id w.drew g 0 cur (holds_of_heap hdr)]
  rw [setCells_layC w.drew g news _ cur (by rw [hdl]; omega), setCells_layC w.drew g vs _ _ (by rw [layC_size (by rw [hdl]; omega), hvl]; omega)]
 have hw1 : IntKind.i64.wrap ((i : Int) + 1) = (i : Int) + 1 := by rw [IntKind.wrap_i64]; unfold maxLen at hcm; omega
 have htn : ((i : Int) + 1).toNat = i + 1 := by omega
 have hb1 : (0 : Int) ≤ (i : Int) + 1 := by omega
 have hin2 : i ≤ n := by omega
 have hb2 : ¬ (cap = i + 1) := by omega
 have hb3 : (i : Int) ≤ (n : Int) + 1 := by omega
 have hb4 : ¬ (cap = i) := by omega
 have hcm2 : cap ≤ 9223372036854775807 := hcm
 rw [← hW1] at hcp1
 have HF : Hid (W1.setCells g (i * 2) vs = putRow id w.drew g 0 (layC (layC cur ((i + 1) * 2) news) (i * 2) vs)) := hfin
 rw [← hfin]
 clear hfin hW1 hsp1 hH hH' hh hh' hnews hvs h1 h1' g6 g7 g4 hdl hvl hs hs' hcap hcap'
 go_enter Tryz.func156, Tryz.ntmps156
 go_wp2_with (simp only [hov])
 go_region_law_o (refine step_copy_k rfl (.tmp 73) (.tmp 76) 23 23 rfl (.slice (some ⟨g, (i + 1) * 2, none⟩) (n - i) (cap - (i + 1))) (.slice (some ⟨g, i * 2, none⟩) (n + 1 - i) (cap - i)) (by simp [Act.eval, Act.put]) (by simp [Act.eval, Act.put]) (hcp1 _ _ _ _ _ (by omega) (by omega)) ?_)
 go_wp2_with (at_builtin; go_loud (refine wpList_copy_k _ rfl _ _ 23 23 rfl _ _ rfl rfl (hcp2 _ (fun _ => rfl) (fun _ => rfl) _ _) ?_))
 go_ret
 exact ⟨rfl, rfl⟩
set_option maxHeartbeats 4000000 in
set_option maxRecDepth 1000000 in
theorem i_growCuts (g cap n i g' cap' : Nat) (cur cur' : Array Value) (w : World) (hh : w.heap[g]? = some (.cells cur 101 (0, 0))) (hs : cur.size = cap * 2) (hnc : n ≤ cap) (hroom : cap < n + 1) (hcm : cap ≤ maxLen) (hin : i < n) (hbig : (n + 1) * 16 ≤ 140737488355328)
  (hh' : w.heap[g']? = some (.cells cur' 101 (0, 0))) (hs' : cur'.size = cap' * 2) (hn' : 1 ≤ cap') (h1 : ∀ u ∈ cur.toList.take (n * 2), u.oneCell' = true) (h1' : ∀ u ∈ cur'.toList.take 2, u.oneCell' = true) :
  Calls Tryz.prog 156 #[.slice (some ⟨g, 0, none⟩) n cap, .int .i64 i, .slice (some ⟨g', 0, none⟩) 1 cap'] w fun x w' => ∃ G ROW, x = .returned (.slice (some ⟨w.heap.size, 0, none⟩) (n + 1) G) ∧ n + 1 ≤ G ∧ G ≤ maxLen ∧ ROW.size = G * 2 ∧ ROW.toList.take (i * 2) = (cur.toList.take (n * 2)).take (i * 2) ∧
   w' = putRow id (w.drew.alloc (.cells ROW 101)).drew w.heap.size 0 (layC (layC ROW (i * 2) (cur'.toList.take 2)) ((i + 1) * 2) ((cur.toList.take (n * 2)).drop (i * 2))) := by
 obtain ⟨x0, z, g1, g2, g3, g4, g5, g6, g7⟩ := zero_of w tau_ok (e := 101) (kd := 6) (by kernel_rfl)
 have g2 : x0.size = 2 := g2
 have g3 : x0.bytes = 16 := g3
 have g5 : z.cells.size = 2 := g5
 have t22 : Tryz.prog.underlying 23 = some (.slice 101) := Tryz.underlying23
 have tI : Tryz.prog.underlying 3 = some (.int .i64) := Tryz.underlying3
 have mixed := hmix
 have hcap : n * 2 ≤ cur.size := by rw [hs]; exact Nat.mul_le_mul_right _ hnc
 have hcap' : 2 ≤ cur'.size := by rw [hs']; omega
 obtain ⟨cs, hcs⟩ : ∃ cs, cs = cur.toList.take (n * 2) := ⟨_, rfl⟩
 obtain ⟨vs, hvs⟩ : ∃ vs, vs = cur'.toList.take 2 := ⟨_, rfl⟩
 rw [← hcs, ← hvs]
 rw [← hcs] at h1
 rw [← hvs] at h1'
 have hcl : cs.length = n * 2 := by rw [hcs]; simp; omega
 have hvl : vs.length = 1 * 2 := by rw [hvs]; simp; omega
 have hH := holds_of_heap hh
 have hH' := holds_of_heap hh'
 have hcc : ∀ j v, cs[j]? = some v → w.cell? ⟨g, j, none⟩ = some v := fun j v hj => by
  have hlt : j < n * 2 := by have := (List.getElem?_eq_some_iff.1 hj).1; rwa [hcl] at this
  rw [hcs, List.getElem?_take_of_lt (by omega), Array.getElem?_toList, Array.getElem?_eq_getElem (by omega)] at hj
  have := (hH j (by omega)).1
  rw [Nat.zero_add, getElem!_pos cur _ (by omega)] at this
  injection hj with hj
  rw [← hj]
  exact this
 have hvc : ∀ j v, vs[j]? = some v → w.cell? ⟨g', j, none⟩ = some v := fun j v hj => by
  have hlt : j < 2 := by have := (List.getElem?_eq_some_iff.1 hj).1; rw [hvl] at this; omega
  rw [hvs, List.getElem?_take_of_lt (by omega), Array.getElem?_toList, Array.getElem?_eq_getElem (by omega)] at hj
  have := (hH' j (by omega)).1
  rw [Nat.zero_add, getElem!_pos cur' _ (by omega)] at this
  injection hj with hj
  rw [← hj]
  exact this
 have hgw : g < w.heap.size := (Array.getElem?_eq_some_iff.1 hh).1
 have hvw : g' < w.heap.size := (Array.getElem?_eq_some_iff.1 hh').1
 have hkk : (n : Int) + 1 - (i : Int) = ((n + 1 - i : Nat) : Int) := by omega
 have hik : i + (n + 1 - i) = n + 1 := by omega
 have hold : (Builtin.firstCells x0.size i (.slice (some ⟨g, 0, none⟩) i cap)).run Tryz.prog w.drew = .ok (cs.take (i * 2)).toArray w.drew := by
  rw [g2]
  exact run_firstCells_some w.drew 2 i ⟨g, 0, none⟩ i cap (cs.take (i * 2)) (by rw [List.length_take]; omega) (fun j v hj => by
   rw [Addr.add_lit, Nat.zero_add]
   rw [List.getElem?_take] at hj
   split at hj
   · exact hcc j v hj
   · cases hj)
 have hrz : ∀ ty, (Builtin.append_ #[23, 3] ty #[.slice (some ⟨g, 0, none⟩) i cap, .int .i64 ((n : Int) + 1 - (i : Int))]).run Tryz.prog w =
   .ok (.slice (some ⟨w.heap.size, 0, none⟩) (n + 1) (grownCap w (n + 1) cap 101)) (w.drew.alloc (.cells ((cs.take (i * 2)).toArray ++ Builtin.zeroCells z.cells (n + 1 - i) ++ Builtin.zeroCells z.cells (grownCap w (n + 1) cap 101 - (n + 1))) 101)) := fun ty => by
  have h := Lib.run_append_grow_zeros w 23 3 ty 101 x0 z .i64 .i64 t22 tI g1 g4 (some ⟨g, 0, none⟩) i cap (cs.take (i * 2)) hold (n + 1 - i) (by omega) (by omega) (by omega) (by omega) (by rw [g3]; omega) (by rw [g3, hik]; exact growslice_fits hroom hbig)
  rw [hik] at h
  rw [hkk]
  exact h
 obtain ⟨G, hG⟩ : ∃ G, G = grownCap w (n + 1) cap 101 := ⟨_, rfl⟩
 obtain ⟨ROW, hROW⟩ : ∃ ROW : Array Value, ROW = (cs.take (i * 2)).toArray ++ Builtin.zeroCells z.cells (n + 1 - i) ++ Builtin.zeroCells z.cells (G - (n + 1)) := ⟨_, rfl⟩
 rw [← hG] at hrz
 rw [← hROW] at hrz
 have hGn : n + 1 ≤ G := by rw [hG]; exact grownCap_ge w _ _ _
 have hGm : G ≤ maxLen := by rw [hG]; exact grownCap_le_maxLen w (n + 1) cap 101 (by unfold maxLen; omega)
 have hG63 : G ≤ 9223372036854775807 := hGm
 have hRs : ROW.size = G * 2 := by
  rw [hROW]
  simp [Builtin.zeroCells, g5, hcl]
  omega
 have hRl : (n + 1) * 2 ≤ ROW.size := by rw [hRs]; exact Nat.mul_le_mul_right _ hGn
 have hRt : ROW.toList.take (i * 2) = cs.take (i * 2) := by
  rw [hROW]
  simp only [Array.toList_append, List.append_assoc]
  rw [List.take_append_of_le_length (by simp [hcl]; omega)]
  first | done | (show List.take _ (List.take _ cs) = _; rw [List.take_take, Nat.min_self])
 obtain ⟨W1, hW1⟩ : ∃ W1, W1 = w.drew.alloc (.cells ROW 101) := ⟨_, rfl⟩
 rw [← hW1] at hrz
 have hN : ∀ j, j < (n + 1) * 2 → (W1.cell? ⟨w.heap.size, j, none⟩).isSome = true := fun j hj => by
  rw [hW1, World.cell?_alloc_at (w := w.drew) ROW _ w.heap.size j rfl, Array.getElem?_eq_getElem (by omega)]; rfl
 have hNf : ∀ j, W1.frozen? ⟨w.heap.size, j, none⟩ = false := fun j => by rw [hW1]; exact World.frozen?_alloc_at (w := w.drew) ROW _ w.heap.size j rfl
 have hOb : ∀ j v, w.cell? ⟨g, j, none⟩ = some v → W1.cell? ⟨g, j, none⟩ = some v := fun j v h => by rw [hW1, World.cell?_alloc_past (w := w.drew) _ g j hgw]; exact h
 have hOv : ∀ j v, w.cell? ⟨g', j, none⟩ = some v → W1.cell? ⟨g', j, none⟩ = some v := fun j v h => by rw [hW1, World.cell?_alloc_past (w := w.drew) _ g' j hvw]; exact h
 have hcpA : ∀ (W : World), (∀ x, W.cell? x = W1.cell? x) → (∀ x, W.frozen? x = W1.frozen? x) → ∀ ty dc, (Builtin.copy_ #[23, 23] ty #[.slice (some ⟨w.heap.size, i * 2, none⟩) (n + 1 - i) dc, .slice (some ⟨g', 0, none⟩) 1 cap']).run Tryz.prog W = .ok (goInt ((1 : Nat) : Int)) (W.setCells w.heap.size (i * 2) vs) := fun W hWc hWf ty dc =>
  run_copy_k W _ _ ty 101 w.heap.size (i * 2) (n + 1 - i) dc ⟨g', 0, none⟩ 1 cap' vs t22 g1 g2 (by simp only [Nat.min_def]; split <;> omega) hvl
   (fun j v hj => by rw [Addr.add_lit, Nat.zero_add, hWc]; exact hOv _ v (hvc j v hj))
   (fun j hj => by rw [hvl] at hj; rw [hWc]; exact hN _ (by omega)) (fun j hj => by rw [hWf]; exact hNf _) h1'
 have hgN : g ≠ w.heap.size := by omega
 have hdl : (cs.drop (i * 2)).length = (n - i) * 2 := by rw [List.length_drop, hcl]; omega
 have hcpB : ∀ (W : World), (∀ x, W.cell? x = (W1.setCells w.heap.size (i * 2) vs).cell? x) → (∀ x, W.frozen? x = (W1.setCells w.heap.size (i * 2) vs).frozen? x) → ∀ ty dc sc, (Builtin.copy_ #[23, 23] ty #[.slice (some ⟨w.heap.size, (i + 1) * 2, none⟩) (n - i) dc, .slice (some ⟨g, i * 2, none⟩) (n - i) sc]).run Tryz.prog W = .ok (goInt ((n - i : Nat) : Int)) (W.setCells w.heap.size ((i + 1) * 2) (cs.drop (i * 2))) := fun W hWc hWf ty dc sc =>
  run_copy_k W _ _ ty 101 w.heap.size ((i + 1) * 2) (n - i) dc ⟨g, i * 2, none⟩ (n - i) sc (cs.drop (i * 2)) t22 g1 g2 (by simp only [Nat.min_def]; split <;> omega) hdl
   (fun j v hj => by
     rw [Addr.add_lit, hWc, World.cell?_setCells_out _ _ _ _ _ (fun h _ => absurd h hgN)]
     exact hOb _ v (hcc _ v (by rwa [List.getElem?_drop] at hj)))
   (fun j hj => by rw [hdl] at hj; rw [hWc]; exact isSome_setC _ _ _ _ (fun t ht => by rw [hvl] at ht; exact hN _ (by omega)) _ (hN _ (by omega)))
   (fun j hj => by rw [hWf, World.frozen?_setCells]; exact hNf _) (fun v hv => h1 v (List.mem_of_mem_drop hv))
 have hfin : ((w.drew.alloc (.cells ROW 101)).drew.setCells w.heap.size (i * 2) vs).setCells w.heap.size ((i + 1) * 2) (cs.drop (i * 2)) = putRow id (w.drew.alloc (.cells ROW 101)).drew w.heap.size 0 (layC (layC ROW (i * 2) vs) ((i + 1) * 2) (cs.drop (i * 2))) := by
  have hdr : (w.drew.alloc (.cells ROW 101)).drew.heap[w.heap.size]? = some (.cells ROW 101 (0, 0)) := by
   show (w.drew.heap.push _)[w.heap.size]? = _
   exact Array.getElem?_push_size
  conv => lhs; rw [← putRow_self id (w.drew.alloc (.cells ROW 101)).drew w.heap.size 0 ROW (holds_of_heap hdr)]
  rw [setCells_layC _ _ vs _ ROW (by rw [hvl]; omega), setCells_layC _ _ (cs.drop (i * 2)) _ _ (by rw [layC_size (by rw [hvl]; omega), hdl]; omega)]
 subst hW1
 have hE1 : ∀ x, ((w.alloc (.cells ROW 101)).drew).cell? x = (w.drew.alloc (.cells ROW 101)).cell? x := fun x => rfl
 have hE2 : ∀ x, ((w.alloc (.cells ROW 101)).drew).frozen? x = (w.drew.alloc (.cells ROW 101)).frozen? x := fun x => rfl
 have hF1 : ∀ x, (((w.alloc (.cells ROW 101)).drew.setCells w.heap.size (i * 2) vs).drew).cell? x = ((w.drew.alloc (.cells ROW 101)).setCells w.heap.size (i * 2) vs).cell? x := fun x => rfl
 have hF2 : ∀ x, (((w.alloc (.cells ROW 101)).drew.setCells w.heap.size (i * 2) vs).drew).frozen? x = ((w.drew.alloc (.cells ROW 101)).setCells w.heap.size (i * 2) vs).frozen? x := fun x => rfl
 have hz2 : ¬ ((i : Int) = (n : Int)) := by omega
 have hz3 : (cap : Int) < (n : Int) + 1 := by omega
 have hw1 : IntKind.i64.wrap ((i : Int) + 1) = (i : Int) + 1 := by rw [IntKind.wrap_i64]; unfold maxLen at hcm; omega
 have htn : ((i : Int) + 1).toNat = i + 1 := by omega
 have hb1 : (0 : Int) ≤ (i : Int) + 1 := by omega
 have hin2 : i ≤ n := by omega
 have hGi : ¬ (G = i) := by omega
 have hGim : ¬ (G = i + 1) := by omega
 have hci : ¬ (cap = i) := by omega
 have hb3 : (i : Int) ≤ (n : Int) + 1 := by omega
 have hcm2 : cap ≤ 9223372036854775807 := hcm
 have HF : Hid (((w.drew.alloc (.cells ROW 101)).drew.setCells w.heap.size (i * 2) vs).setCells w.heap.size ((i + 1) * 2) (cs.drop (i * 2)) = putRow id (w.drew.alloc (.cells ROW 101)).drew w.heap.size 0 (layC (layC ROW (i * 2) vs) ((i + 1) * 2) (cs.drop (i * 2)))) := hfin
 have HRt : Hid (ROW.toList.take (i * 2) = cs.take (i * 2)) := hRt
 have HRs : Hid (ROW.size = G * 2) := hRs
 clear hfin hRt hRs hkk hik hold hROW hG hRl hH hH' hh hh' hcs hvs h1 h1' g6 g7 g4 hdl hvl hs hs' hcap hcap' hcc hvc hN hNf hOb hOv hcl
 go_enter Tryz.func156, Tryz.ntmps156
 go_wp2_with (first
  | (at_builtin; refine Lib.wpList_append_run _ rfl _ _ _ _ rfl _ _ rfl rfl _ _ (hrz _) ?_)
  | (at_builtin; refine wpList_copy_k _ rfl _ _ 23 23 rfl _ _ rfl rfl (hcpA _ hE1 hE2 _ _) ?_)
  | (at_builtin; refine wpList_copy_k _ rfl _ _ 23 23 rfl _ _ rfl rfl (hcpB _ (fun _ => rfl) (fun _ => rfl) _ _ _) ?_))
 go_region_law_o (refine step_copy_k rfl _ _ 23 23 rfl (.slice (some ⟨w.heap.size, (i + 1) * 2, none⟩) (n - i) (G - (i + 1))) (.slice (some ⟨g, i * 2, none⟩) (n - i) (cap - i)) (by simp [Act.eval, Act.put]) (by simp [Act.eval, Act.put]) (hcpB _ hF1 hF2 _ (G - (i + 1)) (cap - i)) ?_)
 go_wp2
 go_ret
 refine ⟨G, ROW, rfl, hGn, hGm, HRs.out, HRt.out, ?_⟩
 rw [← setCells_drew]
 exact HF.out
theorem w_InsertCuts : InsW Tryz.prog 156 101 2 16 := by
 refine InsW.of (fnOk_enters (fn := Tryz.f156) (D := [(11, [(0, 0), (1, 0), (2, 0), (3, 6), (4, 9), (5, 0), (6, 0), (7, 96), (8, 144)]), (15, [(0, 0), (1, 0), (2, 0), (3, 6), (4, 9), (5, 0), (6, 0), (7, 96), (8, 144)])]) (by kernel_rfl) (by kernel_rfl)) (fun base n v v2 us vs w a1 a2 a3 a4 a5 => i_endCuts base n v v2 us vs w a1 a2 a3 a4 a5) (fun g cap n i g' cap' cur cur' w a1 a2 a3 a4 a5 a6 a7 a8 a9 b1 b2 => ?_) (fun g cap n i g' cap' cur cur' w a1 a2 a3 a4 a5 a6 a7 a8 a9 b1 b2 b3 => ?_)
 · have h := i_shiftCuts g cap n i g' cap' cur cur' w a1 a2 a3 a4 a5 a6 a7 a8 a9 b1 b2
   (try simp only [Nat.mul_one] at h ⊢)
   exact h
 · have h := i_growCuts g cap n i g' cap' cur cur' w a1 a2 a3 a4 a5 a6 a7 a8 a9 b1 b2 b3
   (try simp only [Nat.mul_one] at h ⊢)
   exact h
theorem t_InsertCuts : TrKnown Tryz.prog tau 156 (insertT 6) := insert_tr w_InsertCuts
end Go.Proofs.YtjjpakdlkjaigaaGreat

/- slices.Delete at one type: its walk. -/
namespace Go.Proofs.YtjjpakdlkjaigaaGreat
open Go.RowKit Go.Sort
set_option maxHeartbeats 4000000 in
set_option maxRecDepth 1000000 in
theorem w_DeleteCuts : DelW Tryz.prog 157 101 2 := by
 refine ⟨fnOk_enters (fn := Tryz.f157) (D := [(5, [(0, 0), (1, 0), (2, 3), (3, 0), (4, 0), (5, 24), (6, 36), (7, 127)])]) (by kernel_rfl) (by kernel_rfl), fun w => ?_, fun g cap n i j cur w hheap hcs hnc hcm hij hjn hone => ?_⟩
 · go_enter Tryz.func157, Tryz.ntmps157
   go_wp2
   go_ret
   exact ⟨rfl, rfl⟩
 · have hnb : n * 2 ≤ cur.size := by rw [hcs]; exact Nat.mul_le_mul_right _ hnc
   by_cases heq : i = j
   · subst heq
     have h0 : Calls Tryz.prog 157 #[.slice (some ⟨g, 0, none⟩) n cap, .int .i64 i, .int .i64 i] w fun x w' => x = .returned (.slice (some ⟨g, 0, none⟩) n cap) ∧ w' = w := by
      have hcm' : cap ≤ 9223372036854775807 := hcm
      clear hheap hone
      go_enter Tryz.func157, Tryz.ntmps157
      go_wp2
      all_goals (go_ret; exact ⟨rfl, rfl⟩)
     refine h0.mono ?_
     rintro e w' ⟨rfl, rfl⟩
     refine ⟨by rw [Nat.sub_self, Nat.sub_zero], ⟨rfl, rfl, rfl, Nat.le_refl _, fun _ _ _ => rfl⟩, cur, hheap, rfl, ?_⟩
     rw [Nat.sub_self, Nat.sub_zero, List.take_append_drop]
   · have hlt : i < j := by omega
     obtain ⟨x0, z, g1, g2, g3, g4, g5, g6, g7⟩ := zero_of w tau_ok (e := 101) (kd := 6) (by kernel_rfl)
     have g2 : x0.size = 2 := g2
     have g5 : z.cells.size = 2 := g5
     have t22 : Tryz.prog.underlying 23 = some (.slice 101) := Tryz.underlying23
     have hH := holds_of_heap hheap
     obtain ⟨news, hnews⟩ : ∃ news, news = (cur.toList.take (n * 2)).drop (j * 2) := ⟨_, rfl⟩
     have hlen : news.length = (n - j) * 2 := by rw [hnews]; simp; omega
     have hget : ∀ t, t < (n - j) * 2 → news[t]? = some (cur[j * 2 + t]!) := by
      intro t ht
      rw [hnews, List.getElem?_drop, List.getElem?_take_of_lt (by omega), Array.getElem?_toList, getElem!_pos cur (j * 2 + t) (by omega), Array.getElem?_eq_getElem (by omega)]
     obtain ⟨A, hA, hsrc⟩ : ∃ A : Addr, (if cap = j then some (⟨g, 0, none⟩ : Addr) else some ⟨g, j * 2, none⟩) = some A ∧ Hid (∀ t u, news[t]? = some u → w.drew.cell? (A.add t) = some u) := by
      by_cases h : cap = j
      · refine ⟨⟨g, 0, none⟩, by simp [h], fun t u hu => ?_⟩
        have h0 : news.length = 0 := by rw [hlen]; omega
        rw [List.length_eq_zero_iff.1 h0] at hu
        simp at hu
      · refine ⟨⟨g, j * 2, none⟩, by simp [h], fun t u hu => ?_⟩
        have ht : t < (n - j) * 2 := by
         have := (List.getElem?_eq_some_iff.1 hu).1
         rwa [hlen] at this
        rw [hget t ht] at hu
        rw [Addr.add_lit]
        have := (hH (j * 2 + t) (by omega)).1
        rw [Nat.zero_add] at this
        exact this.trans hu
     have s1 : Hid (news.length = (n - j) * 2) := hlen
     have s2 : Hid (∀ u ∈ news, u.oneCell' = true) := by
      intro u hu
      rw [hnews] at hu
      exact hone u (List.mem_of_mem_drop hu)
     have s3 : Hid (∀ t, t < news.length → (w.drew.cell? ⟨g, 0 + i * 2 + t, none⟩).isSome = true ∧ w.drew.frozen? ⟨g, 0 + i * 2 + t, none⟩ = false) := by
      intro t ht
      rw [hlen] at ht
      have h3 := hH (i * 2 + t) (by omega)
      rw [Nat.add_assoc]
      exact ⟨by show (w.cell? _).isSome = true; rw [h3.1]; rfl, h3.2⟩
     obtain ⟨W1, hW1⟩ : ∃ W1, W1 = w.drew.setCells g (0 + i * 2) news := ⟨_, rfl⟩
     have hdr : w.drew.heap[g]? = some (.cells cur 101 (0, 0)) := hheap
     have hin : i * 2 + news.length ≤ cur.size := by rw [hlen]; omega
     have hW1' : W1 = putRow id w.drew g 0 (layC cur (i * 2) news) := by
      rw [hW1, Nat.zero_add, ← setCells_layC w.drew g news (i * 2) cur hin, putRow_self id w.drew g 0 cur (holds_of_heap hdr)]
     obtain ⟨c1, hc1⟩ : ∃ c1, c1 = layC cur (i * 2) news := ⟨_, rfl⟩
     have hc1s : c1.size = cur.size := by rw [hc1]; exact layC_size hin
     rw [← hc1] at hW1'
     have hheap1 : W1.heap[g]? = some (.cells c1 101 (0, 0)) := by rw [hW1']; exact putRow_heap hdr hc1s
     have hH1 := holds_of_heap hheap1
     have hin2 : (i + (n - j)) * 2 + (n - (i + (n - j))) * 2 ≤ c1.size := by rw [hc1s]; omega
     have hcl : ∀ ty, (Builtin.clear_ #[23] ty #[.slice (some ⟨g, (i + (n - j)) * 2, none⟩) (n - (i + (n - j))) (cap - (i + (n - j)))]).run Tryz.prog W1 = .ok (.tuple #[]) (W1.setCells g ((i + (n - j)) * 2) (Builtin.zeroCells z.cells (n - (i + (n - j)))).toList) :=
      fun ty => run_clear_k W1 _ _ ty z t22 g7 g6 g _ _ _ (by omega) (fun t ht => by
       rw [g5] at ht
       have := (hH1 ((i + (n - j)) * 2 + t) (by omega)).1
       rw [Nat.zero_add] at this
       rw [this]; rfl) (fun t ht => by
       rw [g5] at ht
       have := (hH1 ((i + (n - j)) * 2 + t) (by omega)).2
       rwa [Nat.zero_add] at this)
     have hz := zeroCells_len z.cells (n - (i + (n - j)))
     rw [g5] at hz
     obtain ⟨zl, hzl⟩ : ∃ zl, zl = (Builtin.zeroCells z.cells (n - (i + (n - j)))).toList := ⟨_, rfl⟩
     rw [← hzl] at hz
     simp only [← hzl] at hcl
     have X : Hid (W1 = putRow id w.drew g 0 c1) := hW1'
     have HZ : Hid (zl.length = (n - (i + (n - j))) * 2) := hz
     have hW : Hid (W1 = w.drew.setCells g (0 + i * 2) news) := hW1
     have Y : Hid (c1 = layC cur (i * 2) news) := hc1
     have Z : Hid (news = (cur.toList.take (n * 2)).drop (j * 2)) := hnews
     have HD : Hid (w.drew.heap[g]? = some (.cells cur 101 (0, 0))) := hdr
     have hic : i ≤ cap := by omega
     have hjc : j ≤ cap := by omega
     have hcm' : cap ≤ 9223372036854775807 := hcm
     clear hW1 hW1' hH1 hH hget hnews hc1 hheap hheap1 hdr hone hz hzl g7 g6 g4
     have mixed := hmix
     go_enter Tryz.func157, Tryz.ntmps157
     go_wp2_with fail
     go_region_law_o (refine step_append_room rfl (.tmp 22) (.tmp 25) 23 rfl 101 x0 2 t22 g1 g2 g 0 i cap (by simp [Act.eval, Act.put]) A (n - j) (cap - j) news (by simp [Act.eval, Act.put]) s1.out hsrc.out s2.out (by omega) s3.out ?_; rw [← hW.out])
     go_wp2
     go_ret
     have hz := HZ.out
     refine ⟨by rw [show n - (j - i) = i + (n - j) by omega]; rfl, ?_, layC c1 ((i + (n - j)) * 2) zl, ?_, ?_, ?_⟩
     · rw [X.out, setCells_layC _ _ _ _ _ (by rw [hz]; exact hin2)]
       have hgr := putRow_grown w.drew g (layC c1 ((i + (n - j)) * 2) zl)
       exact ⟨hgr.os, hgr.tape, hgr.output, hgr.size, hgr.block⟩
     · rw [X.out, setCells_layC _ _ _ _ _ (by rw [hz]; exact hin2)]
       exact putRow_heap HD.out (by rw [layC_size (by rw [hz]; exact hin2), hc1s])
     · rw [layC_size (by rw [hz]; exact hin2), hc1s]
     · have e1 : (n - (j - i)) * 2 = (i + (n - j)) * 2 := by omega
       have e2 : (cur.toList.take (i * 2)).length = i * 2 := by simp; omega
       rw [e1]
       unfold layC
       rw [List.append_assoc, List.take_append_of_le_length (by simp [hc1s]; omega), List.take_take, Nat.min_self, Y.out]
       unfold layC
       rw [List.take_append_of_le_length (by rw [List.length_append, e2, s1.out]; omega), List.take_of_length_le (by rw [List.length_append, e2, s1.out]; omega), List.take_take, Nat.min_eq_left (by omega), Z.out]
theorem t_DeleteCuts : TrKnown Tryz.prog tau 157 (deleteT 6) := delete_tr w_DeleteCuts
end Go.Proofs.YtjjpakdlkjaigaaGreat

/- Contracts: cuts: with, without, is. -/
namespace Go.Proofs.YtjjpakdlkjaigaaGreat
open Go.RowKit
set_option maxRecDepth 20000
def ctK (c : GCut) : Int := c.a * 256 + c.b
def okCt (l : List GCut) (x : GCut) : Prop := cutsB l = true ∧ placeB x.a = true ∧ placeB x.b = true
theorem cutB_in {c : GCut} (h : cutB c = true) : 0 ≤ c.a ∧ c.a < c.b ∧ c.b < 256 := by
 simp only [cutB, placeB, Bool.and_eq_true, decide_eq_true_eq] at h
 omega
theorem okCt_in {l : List GCut} {x : GCut} (h : okCt l x) : 0 ≤ x.a ∧ x.a < 256 ∧ 0 ≤ x.b ∧ x.b < 256 := by
 have := h.2
 simp only [placeB, Bool.and_eq_true, decide_eq_true_eq] at this
 omega
theorem okCt_lt {l : List GCut} {x : GCut} (h : okCt l x) {t : Nat} (ht : t < l.length) : (cutCmp (l.getD t default) x < 0) = (ctK (l.getD t default) < ctK x) := by
 have h1 := cutB_in ((cutsB_iff.1 h.1).2.2 _ (getD_mem (d := default) ht))
 have h2 := okCt_in h
 rw [cutCmp_lt]
 unfold cutLt ctK
 apply propext
 constructor <;> intro h3 <;> omega
theorem cutCmp_eq {p q : GCut} : (cutCmp p q = 0) = (p.a = q.a ∧ p.b = q.b) := by
 apply propext
 unfold cutCmp orL orL orL
 rcases cmpI_one p.a q.a with ⟨h, e⟩ | ⟨h, e⟩ | ⟨h, e⟩ <;> rcases cmpI_one p.b q.b with ⟨h', e'⟩ | ⟨h', e'⟩ | ⟨h', e'⟩ <;> rw [e, e'] <;> simp <;> omega
theorem okCt_eq {l : List GCut} {x : GCut} (h : okCt l x) {t : Nat} (ht : t < l.length) : (cutCmp (l.getD t default) x = 0) = (ctK (l.getD t default) = ctK x) := by
 have h1 := cutB_in ((cutsB_iff.1 h.1).2.2 _ (getD_mem (d := default) ht))
 have h2 := okCt_in h
 rw [cutCmp_eq]
 unfold ctK
 apply propext
 constructor <;> intro h3 <;> omega
def RisingC (l : List GCut) : Prop := ∀ s t, s < t → t < l.length → ctK (l.getD s default) < ctK (l.getD t default)
theorem risingC_of {l : List GCut} (h : cutsB l = true) : RisingC l := by
 intro s t hs ht
 have h0 := cutsB_iff.1 h
 have h1 := cutB_in (h0.2.2 _ (getD_mem (d := default) ht))
 have h2 := cutB_in (h0.2.2 _ (getD_mem (d := default) (show s < l.length by omega)))
 have h3 := h0.2.1 s t hs ht
 unfold cutLt at h3
 unfold ctK
 omega
theorem risingC_le {l : List GCut} (hs : RisingC l) {s t : Nat} (h : s ≤ t) (ht : t < l.length) : ctK (l.getD s default) ≤ ctK (l.getD t default) := by
 rcases Nat.lt_or_eq_of_le h with h | rfl
 · exact Int.le_of_lt (hs s t h ht)
 · exact Int.le_refl _
def cntCt (l : List GCut) (x : GCut) : Int := ((l.countP fun c => decide (ctK c < ctK x) : Nat) : Int)
def hasCt (l : List GCut) (x : GCut) : Bool := l.any fun c => decide (ctK c = ctK x)
theorem k_searchCt : Known Tryz.prog tau 191 (S3 dCuts dCut (dFn 132) fun l x _ => .ob (okCt l x) (.tup [.int .i64 (cntCt l x), .bool (hasCt l x)]) []) := by
 refine known3 hmix tau_ok (ctx_cons k_cutOrder ctx_nil) (fn := Tryz.f191) (by kernel_rfl) [(5, [(0, 0), (1, 0), (2, 0), (3, 6), (4, 8), (5, 0), (6, 49), (7, 64)]), (8, [(0, 0), (1, 0), (2, 0), (3, 6), (4, 8), (5, 16), (6, 16), (7, 16), (8, 208), (9, 272), (10, 16), (11, 1584), (12, 2064), (13, 4112), (14, 2049), (15, 32767)])] (by kernel_rfl) _ _ _ _ fun l x _ hfit hs => ⟨rfl,
  [(3, invX (Nat × Nat) [9, 10, 11, 15, 16, 17, 18, 19, 20, 21, 22, 23, 24, 25, 26, 27, 28, 29, 30, 31, 32, 33, 34] [] (fun g => g.1 ≤ g.2 ∧ g.2 ≤ l.length ∧ (∀ t, t < g.1 → ctK (l.getD t default) < ctK x) ∧ ∀ t, g.2 ≤ t → t < l.length → ctK x ≤ ctK (l.getD t default)) (fun g => withS [(9, .int .i64 g.1), (10, .int .i64 g.2)]) (fun g => g.2 - g.1))], ?_⟩
 have hlen : l.length * 16 ≤ 140737488355328 := hfit.1
 clear hfit
 have hr := risingC_of hs.1
 refine V2 ?_; constructor <;> (first | (with_reducible exact TT.i) | (intros; (repeat (apply Wk.mk; intro Kv hN hX hR)); apply Wr.mk))
 all_goals first
  | (refine ⟨(0, l.length), ⟨Nat.zero_le _, Nat.le_refl _, by intros; omega, by intros; omega⟩, ?_⟩
     refine V1 ?_; constructor <;> (first | (with_reducible exact TT.i) | (intros; (repeat (apply Wk.mk; intro Kv hN hX hR)); apply Wr.mk))
     all_goals rfl)
  | (rintro ⟨i, j⟩ ⟨hij, hj, h1, h2⟩
     dsimp only at hij hj h1 h2
     refine V1 ?_; constructor <;> (first | (with_reducible exact TT.i) | (intros; (repeat (apply Wk.mk; intro Kv hN hX hR)); apply Wr.mk))
     all_goals (try dsimp only at *)
     all_goals (try simp only [etaCut] at *)
     all_goals first
      | (refine Ob.mk ?_; decide)
      | (have hlt := of_decide_eq_true (show decide ((i : Int) < (j : Int)) = true by with_reducible assumption)
         obtain ⟨h, eh, h3, h4⟩ := mid_ok (i := i) (j := j) (n := l.length) (by omega) hj (by omega)
         simp only [eh, Int.toNat_natCast] at *
         first
          | exact Ob.mk ⟨by omega, by omega⟩
          | (have hc := of_decide_eq_true (show decide (cutCmp (l.getD h default) x < 0) = true by with_reducible assumption)
             rw [okCt_lt hs (by omega)] at hc
             refine ⟨(h + 1, j), ⟨by omega, hj, fun t ht => ?_, h2⟩, by show j - (h + 1) < j - i; omega, ?_⟩
             · have := risingC_le hr (s := t) (t := h) (by omega) (by omega)
               omega
             · have e1 := wrap_up (h := h) (n := l.length) (by omega) (by omega)
               refine V1 ?_; constructor <;> (first | (with_reducible exact TT.i) | (intros; (repeat (apply Wk.mk; intro Kv hN hX hR)); apply Wr.mk))
               all_goals first
                | exact e1
                | rfl)
          | (have hc := of_decide_eq_false (show decide (cutCmp (l.getD h default) x < 0) = false by with_reducible assumption)
             rw [okCt_lt hs (by omega)] at hc
             refine ⟨(i, h), ⟨by omega, by omega, h1, fun t ht ht2 => ?_⟩, by show h - i < j - i; omega, ?_⟩
             · have := risingC_le hr (s := h) (t := t) ht ht2
               omega
             · refine V1 ?_; constructor <;> (first | (with_reducible exact TT.i) | (intros; (repeat (apply Wk.mk; intro Kv hN hX hR)); apply Wr.mk))
               all_goals rfl))
      | (have hge := of_decide_eq_false (show decide ((i : Int) < (j : Int)) = false by with_reducible assumption)
         obtain rfl : i = j := by omega
         have e1 : cntCt l x = (i : Int) := congrArg Int.ofNat (search_end (d := default) (κ := fun p : GCut => ctK p) (K := ctK x) hj h1 h2)
         have e2 : hasCt l x = (decide (i < l.length) && decide (ctK (l.getD i default) = ctK x)) := search_there (d := default) (κ := fun p : GCut => ctK p) hr h1 h2
         (try simp only [Int.toNat_natCast] at *)
         first
          | exact Ob.mk ⟨by omega, of_decide_eq_true aQ⟩
          | exact e1.symm
          | (have a1 := of_decide_eq_true (show decide ((i : Int) < (l.length : Nat)) = true by with_reducible assumption)
             rw [e2, decide_eq_true (show i < l.length by omega), Bool.true_and]
             have e3 := okCt_eq hs (t := i) (by omega)
             simp only [e3]
             done)
          | (have a2 := of_decide_eq_true (show decide (cutCmp (l.getD i default) x = 0) = true by with_reducible assumption)
             have a1 := of_decide_eq_true (show decide ((i : Int) < (l.length : Nat)) = true by with_reducible assumption)
             rw [okCt_eq hs (by omega)] at a2
             rw [e2, decide_eq_true a2, decide_eq_true (show i < l.length by omega)]
             rfl)
          | (have a2 := of_decide_eq_false (show decide (cutCmp (l.getD i default) x = 0) = false by with_reducible assumption)
             have a1 := of_decide_eq_true (show decide ((i : Int) < (l.length : Nat)) = true by with_reducible assumption)
             rw [okCt_eq hs (by omega)] at a2
             rw [e2, decide_eq_false a2, Bool.and_false])
          | (have a1 := of_decide_eq_false (show decide ((i : Int) < (l.length : Nat)) = false by with_reducible assumption)
             rw [e2, decide_eq_false (show ¬ i < l.length by omega), Bool.false_and])))
def mkCt (a b : Int) : GCut := ⟨if b < a then b else a, if b > a then b else a⟩
def mayCt (l : List GCut) (a b : Int) : Bool := cutsB l && (placeB a && (placeB b && !decide (a = b)))
theorem mayCt_ok {l : List GCut} {a b : Int} (h1 : cutsB l = true) (h2 : placeB a = true) (h3 : placeB b = true) : okCt l (mkCt a b) := by
 refine ⟨h1, ?_, ?_⟩ <;> unfold mkCt <;> dsimp only <;> split <;> assumption
theorem cntCt_at {l : List GCut} {x : GCut} (hs : RisingC l) (h : hasCt l x = true) : l.countP (fun c => decide (ctK c < ctK x)) < l.length ∧ ctK (l.getD (l.countP fun c => decide (ctK c < ctK x)) default) = ctK x := by
 obtain ⟨y, hy, e⟩ := List.any_eq_true.1 h
 have e := of_decide_eq_true e
 obtain ⟨i, hi, rfl⟩ := List.getElem_of_mem hy
 have ei : ctK (l.getD i default) = ctK x := by rw [List.getD_eq_getElem?_getD, List.getElem?_eq_getElem hi]; exact e
 have hc : l.countP (fun c => decide (ctK c < ctK x)) = i := search_end (d := default) (κ := fun p : GCut => ctK p) (K := ctK x) (Nat.le_of_lt hi) (fun t ht => by
  have := hs t i ht hi
  show ctK (l.getD t default) < ctK x
  omega) (fun t ht h2 => by
  have := risingC_le hs ht h2
  show ctK x ≤ ctK (l.getD t default)
  omega)
 rw [hc]
 exact ⟨hi, ei⟩
noncomputable def withCt (l : List GCut) (a b : Int) : List GCut × Int := Classical.choose (seal_ex (if mayCt l a b = true then (if hasCt l (mkCt a b) = true then (l, (0 : Int)) else if l.length = 32 then ([], 1501) else (l.take (l.countP fun c => decide (ctK c < ctK (mkCt a b))) ++ [mkCt a b] ++ l.drop (l.countP fun c => decide (ctK c < ctK (mkCt a b))), 0)) else ([], 1500)))
theorem withCt_def (l : List GCut) (a b : Int) : withCt l a b = if mayCt l a b = true then (if hasCt l (mkCt a b) = true then (l, (0 : Int)) else if l.length = 32 then ([], 1501) else (l.take (l.countP fun c => decide (ctK c < ctK (mkCt a b))) ++ [mkCt a b] ++ l.drop (l.countP fun c => decide (ctK c < ctK (mkCt a b))), 0)) else ([], 1500) := Classical.choose_spec (seal_ex _)
noncomputable def outCt (l : List GCut) (a b : Int) : List GCut × Int := Classical.choose (seal_ex (if mayCt l a b = true then (if hasCt l (mkCt a b) = true then (l.take (l.countP fun c => decide (ctK c < ctK (mkCt a b))) ++ l.drop ((l.countP fun c => decide (ctK c < ctK (mkCt a b))) + 1), (0 : Int)) else (l, 0)) else ([], 1500)))
theorem outCt_def (l : List GCut) (a b : Int) : outCt l a b = if mayCt l a b = true then (if hasCt l (mkCt a b) = true then (l.take (l.countP fun c => decide (ctK c < ctK (mkCt a b))) ++ l.drop ((l.countP fun c => decide (ctK c < ctK (mkCt a b))) + 1), (0 : Int)) else (l, 0)) else ([], 1500) := Classical.choose_spec (seal_ex _)
noncomputable def isCt (l : List GCut) (a b : Int) : Bool × Int := Classical.choose (seal_ex (if mayCt l a b = true then (hasCt l (mkCt a b), (0 : Int)) else (false, 1500)))
theorem isCt_def (l : List GCut) (a b : Int) : isCt l a b = if mayCt l a b = true then (hasCt l (mkCt a b), (0 : Int)) else (false, 1500) := Classical.choose_spec (seal_ex _)
noncomputable def oWithCt (l : List GCut) (a b : Int) : Out := .ok (.tup [.own 0, .int .i64 (withCt l a b).2]) [.cuts (withCt l a b).1]
noncomputable def oOutCt (l : List GCut) (a b : Int) : Out := .ok (.tup [.own 0, .int .i64 (outCt l a b).2]) [.cuts (outCt l a b).1]
noncomputable def oIsCt (l : List GCut) (a b : Int) : Out := .ok (.tup [.bool (isCt l a b).1, .int .i64 (isCt l a b).2]) []
theorem mayCt_no {l : List GCut} {a b : Int} (h : cutsB l = false ∨ placeB a = false ∨ placeB b = false ∨ a = b) : mayCt l a b = false := by
 unfold mayCt
 rcases h with h | h | h | h <;> simp [h]
theorem mayCt_yes {l : List GCut} {a b : Int} (h1 : cutsB l = true) (h2 : placeB a = true) (h3 : placeB b = true) (h4 : a ≠ b) : mayCt l a b = true := by
 unfold mayCt
 simp [h1, h2, h3, h4]
theorem withCt_no {l : List GCut} {a b : Int} (h : mayCt l a b = false) : withCt l a b = ([], 1500) := by rw [withCt_def, if_neg (by rw [h]; simp)]
theorem withCt_has {l : List GCut} {a b : Int} (h : mayCt l a b = true) (h2 : hasCt l (mkCt a b) = true) : withCt l a b = (l, 0) := by rw [withCt_def, if_pos h, if_pos h2]
theorem withCt_full {l : List GCut} {a b : Int} (h : mayCt l a b = true) (h2 : hasCt l (mkCt a b) = false) (h3 : l.length = 32) : withCt l a b = ([], 1501) := by rw [withCt_def, if_pos h, if_neg (by rw [h2]; simp), if_pos h3]
theorem withCt_yes {l : List GCut} {a b : Int} (h : mayCt l a b = true) (h2 : hasCt l (mkCt a b) = false) (h3 : ¬ l.length = 32) : withCt l a b = (l.take (l.countP fun c => decide (ctK c < ctK (mkCt a b))) ++ [mkCt a b] ++ l.drop (l.countP fun c => decide (ctK c < ctK (mkCt a b))), 0) := by rw [withCt_def, if_pos h, if_neg (by rw [h2]; simp), if_neg h3]
theorem outCt_no {l : List GCut} {a b : Int} (h : mayCt l a b = false) : outCt l a b = ([], 1500) := by rw [outCt_def, if_neg (by rw [h]; simp)]
theorem outCt_has {l : List GCut} {a b : Int} (h : mayCt l a b = true) (h2 : hasCt l (mkCt a b) = true) : outCt l a b = (l.take (l.countP fun c => decide (ctK c < ctK (mkCt a b))) ++ l.drop ((l.countP fun c => decide (ctK c < ctK (mkCt a b))) + 1), 0) := by rw [outCt_def, if_pos h, if_pos h2]
theorem outCt_not {l : List GCut} {a b : Int} (h : mayCt l a b = true) (h2 : hasCt l (mkCt a b) = false) : outCt l a b = (l, 0) := by rw [outCt_def, if_pos h, if_neg (by rw [h2]; simp)]
theorem isCt_no {l : List GCut} {a b : Int} (h : mayCt l a b = false) : isCt l a b = (false, 1500) := by rw [isCt_def, if_neg (by rw [h]; simp)]
theorem isCt_yes {l : List GCut} {a b : Int} (h : mayCt l a b = true) : isCt l a b = (hasCt l (mkCt a b), 0) := by rw [isCt_def, if_pos h]
theorem etaMk (a b : Int) : (⟨if b < a then b else a, if b > a then b else a⟩ : GCut) = mkCt a b := rfl
abbrev askCtx : List (FuncId × Spec) := [(80, S1 dCuts fun l => okB (cutsB l)), (131, S1 dInt fun x => okB (placeB x)), (191, S3 dCuts dCut (dFn 132) fun l x _ => .ob (okCt l x) (.tup [.int .i64 (cntCt l x), .bool (hasCt l x)]) []), (87, S1 dCuts fun l => .ok (.own 0) [.cuts l])]
theorem t_askCt : TrKnown Tryz.prog tau 151 (inlT tau (mkCtx askCtx) [(5, [(0, 0), (1, 1), (2, 0), (3, 0), (4, 0), (5, 30), (6, 63), (7, 127)])] [] Tryz.f151) := inl_ok hmix tau_ok (ctx_cons k_cutsMay (ctx_cons k_Place (ctx_cons k_searchCt (ctx_cons k_CloneCuts ctx_nil)))) (by kernel_rfl) _ (by kernel_rfl) []
theorem k_withCt : Known Tryz.prog tau 99 (S3 dCuts dInt dInt oWithCt) := by
 refine knownX3 hmix tau_ok (fn := Tryz.f99) (by kernel_rfl) [] (by kernel_rfl) _ _ _ _ fun l a b hfit => ⟨rfl, _, ctx_tr t_InsertCuts (ctx_tr t_askCt ctx_nil), [], ?_⟩
 clear hfit
 refine V1 ?_; constructor <;> (first | (with_reducible exact TT.i) | (intros; (repeat (apply Wk.mk; intro Kv hN hX hR)); apply Wr.mk))
 all_goals (try simp only [etaMk] at *)
 all_goals first
  | (rw [withCt_no (mayCt_no (.inl (nf aQ)))] <;> rfl)
  | (rw [withCt_no (mayCt_no (.inr (.inl (nf aQ))))] <;> rfl)
  | (rw [withCt_no (mayCt_no (.inr (.inr (.inl (nf aQ)))))] <;> rfl)
  | (rw [withCt_no (mayCt_no (.inr (.inr (.inr (of_decide_eq_true aQ)))))] <;> rfl)
  | (have h1 := nt (show (!cutsB l) = false by with_reducible assumption)
     have h2 := nt (show (!placeB a) = false by with_reducible assumption)
     have h3 := nt (show (!placeB b) = false by with_reducible assumption)
     have h4 := of_decide_eq_false (show decide (a = b) = false by with_reducible assumption)
     have hm := mayCt_yes h1 h2 h3 h4
     have hp := cutsB_iff.1 h1
     have hc : l.countP (fun c => decide (ctK c < ctK (mkCt a b))) ≤ l.length := List.countP_le_length
     first
      | exact Ob.mk (mayCt_ok h1 h2 h3)
      | (rw [withCt_has hm aQ] <;> rfl)
      | (have h5 := of_decide_eq_true (show decide ((l.length : Int) = 32) = true by with_reducible assumption)
         rw [withCt_full hm aQ (by omega)] <;> rfl)
      | (have h5 := of_decide_eq_false (show decide ((l.length : Int) = 32) = false by with_reducible assumption)
         refine Ob.mk ⟨by unfold cntCt; omega, by unfold cntCt; omega, ?_⟩
         simp only [Rw.bts, Rw.kd, kdBytes]
         omega)
      | (have h5 := of_decide_eq_false (show decide ((l.length : Int) = 32) = false by with_reducible assumption)
         rw [withCt_yes hm aQ (by omega)] <;> rfl))
theorem k_outCt : Known Tryz.prog tau 100 (S3 dCuts dInt dInt oOutCt) := by
 refine knownX3 hmix tau_ok (fn := Tryz.f100) (by kernel_rfl) [] (by kernel_rfl) _ _ _ _ fun l a b hfit => ⟨rfl, _, ctx_tr t_DeleteCuts (ctx_tr t_askCt ctx_nil), [], ?_⟩
 clear hfit
 refine V1 ?_; constructor <;> (first | (with_reducible exact TT.i) | (intros; (repeat (apply Wk.mk; intro Kv hN hX hR)); apply Wr.mk))
 all_goals (try simp only [etaMk] at *)
 all_goals first
  | (rw [outCt_no (mayCt_no (.inl (nf aQ)))] <;> rfl)
  | (rw [outCt_no (mayCt_no (.inr (.inl (nf aQ))))] <;> rfl)
  | (rw [outCt_no (mayCt_no (.inr (.inr (.inl (nf aQ)))))] <;> rfl)
  | (rw [outCt_no (mayCt_no (.inr (.inr (.inr (of_decide_eq_true aQ)))))] <;> rfl)
  | (have h1 := nt (show (!cutsB l) = false by with_reducible assumption)
     have h2 := nt (show (!placeB a) = false by with_reducible assumption)
     have h3 := nt (show (!placeB b) = false by with_reducible assumption)
     have h4 := of_decide_eq_false (show decide (a = b) = false by with_reducible assumption)
     have hm := mayCt_yes h1 h2 h3 h4
     have hp := cutsB_iff.1 h1
     have hc : l.countP (fun c => decide (ctK c < ctK (mkCt a b))) ≤ l.length := List.countP_le_length
     first
      | exact Ob.mk (mayCt_ok h1 h2 h3)
      | (rw [outCt_not hm (nf aQ)] <;> rfl)
      | (have h5 := nt (show (!hasCt l (mkCt a b)) = false by with_reducible assumption)
         have h6 := cntCt_at (risingC_of h1) h5
         have w1 : IntKind.i64.wrap (cntCt l (mkCt a b) + 1) = cntCt l (mkCt a b) + 1 := wrapI (by unfold cntCt; omega) (by unfold cntCt; omega)
         have w2 : (cntCt l (mkCt a b) + 1).toNat = l.countP (fun c => decide (ctK c < ctK (mkCt a b))) + 1 := by unfold cntCt; omega
         first
          | exact Ob.mk ⟨by unfold cntCt; omega, by rw [w1]; omega, by rw [w1]; unfold cntCt; omega⟩
          | (rw [outCt_has hm h5, w1, w2] <;> rfl)
          | (rw [outCt_has hm h5] <;> rfl)))
theorem k_isCt : Known Tryz.prog tau 97 (S3 dCuts dInt dInt oIsCt) := by
 refine knownX3 hmix tau_ok (fn := Tryz.f97) (by kernel_rfl) [] (by kernel_rfl) _ _ _ _ fun l a b hfit => ⟨rfl, _, ctx_tr t_askCt ctx_nil, [], ?_⟩
 clear hfit
 refine V1 ?_; constructor <;> (first | (with_reducible exact TT.i) | (intros; (repeat (apply Wk.mk; intro Kv hN hX hR)); apply Wr.mk))
 all_goals (try simp only [etaMk] at *)
 all_goals first
  | (rw [isCt_no (mayCt_no (.inl (nf aQ)))] <;> rfl)
  | (rw [isCt_no (mayCt_no (.inr (.inl (nf aQ))))] <;> rfl)
  | (rw [isCt_no (mayCt_no (.inr (.inr (.inl (nf aQ)))))] <;> rfl)
  | (rw [isCt_no (mayCt_no (.inr (.inr (.inr (of_decide_eq_true aQ)))))] <;> rfl)
  | (have h1 := nt (show (!cutsB l) = false by with_reducible assumption)
     have h2 := nt (show (!placeB a) = false by with_reducible assumption)
     have h3 := nt (show (!placeB b) = false by with_reducible assumption)
     have h4 := of_decide_eq_false (show decide (a = b) = false by with_reducible assumption)
     have hm := mayCt_yes h1 h2 h3 h4
     have hp := cutsB_iff.1 h1
     have hc : l.countP (fun c => decide (ctK c < ctK (mkCt a b))) ≤ l.length := List.countP_le_length
     first
      | exact Ob.mk (mayCt_ok h1 h2 h3)
      | (rw [isCt_yes hm] <;> rfl))
end Go.Proofs.YtjjpakdlkjaigaaGreat

/- Chapter 23: three nodes; awake; a new world. -/
namespace Go.Proofs.YtjjpakdlkjaigaaGreat
open Go.RowKit
end Go.Proofs.YtjjpakdlkjaigaaGreat

/- Chapter 23: messages sent in two parts; a message that may be sent. -/
namespace Go.Proofs.YtjjpakdlkjaigaaGreat
open Go.RowKit
def baseB (n : List GNode) (c : List GCut) : Bool := nodesB n && (cutsB c && (n.all (fun x => (namedN x).all (isNd n)) && c.all (fun x => (namedC x).all (isNd n))))
theorem worldB_pk {n : List GNode} {c : List GCut} {l : List GMsg} : worldB ⟨n, c, l⟩ = true ↔ baseB n c = true ∧ l.length ≤ 512 ∧ ∀ m ∈ l, mayB m = true ∧ packB n m = true := by
 rw [worldB_iff, named_split]
 simp only [baseB, Bool.and_eq_true]
 constructor
 · rintro ⟨h1, h2, h3, h4, h5, h6⟩
   obtain ⟨q1, q2⟩ := queueB_iff2.1 h3
   exact ⟨⟨h1, h2, h4, h5⟩, q1, fun m hm => ⟨q2 m hm, List.all_eq_true.1 h6 m hm⟩⟩
 · rintro ⟨⟨h1, h2, h4, h5⟩, q1, q2⟩
   exact ⟨h1, h2, queueB_iff2.2 ⟨q1, fun m hm => (q2 m hm).1⟩, h4, h5, List.all_eq_true.2 fun m hm => (q2 m hm).2⟩
theorem worldB_sub {n : List GNode} {c : List GCut} {l l' : List GMsg} (h : worldB ⟨n, c, l⟩ = true) (hl : l'.length ≤ 512) (hs : ∀ m ∈ l', m ∈ l) : worldB ⟨n, c, l'⟩ = true := by
 obtain ⟨h1, h2, h3⟩ := worldB_pk.1 h
 exact worldB_pk.2 ⟨h1, hl, fun m hm => h3 m (hs m hm)⟩
theorem worldB_app {n : List GNode} {c : List GCut} {p l : List GMsg} (h : worldB ⟨n, c, p⟩ = true) (h2 : worldB ⟨n, c, l⟩ = true) : worldB ⟨n, c, p ++ l.take (512 - p.length)⟩ = true := by
 obtain ⟨a1, a2, a3⟩ := worldB_pk.1 h
 obtain ⟨b1, b2, b3⟩ := worldB_pk.1 h2
 refine worldB_pk.2 ⟨a1, ?_, fun m hm => ?_⟩
 · rw [List.length_append, List.length_take]
   omega
 · rcases List.mem_append.1 hm with hm | hm
   · exact a3 m hm
   · exact b3 m (List.mem_of_mem_take hm)
end Go.Proofs.YtjjpakdlkjaigaaGreat

/- Plain law: an act in a world: the world may be. -/
namespace Go.Proofs.YtjjpakdlkjaigaaGreat
open Go.RowKit
def ndX (l : List GNode) (id : Int) : Nat := l.countP fun n => decide (n.view.id < id)
def ndAt (l : List GNode) (id : Int) : GNode := l.getD (ndX l id) default
def setNd (l : List GNode) (id : Int) (x : GNode) : List GNode := l.set (ndX l id) x
theorem ndX_at {l : List GNode} {x : Int} (hs : RisingN l) (h : isNd l x = true) : ndX l x < l.length ∧ (ndAt l x).view.id = x := by
 obtain ⟨y, hy, e⟩ := List.any_eq_true.1 h
 have e := of_decide_eq_true e
 obtain ⟨i, hi, rfl⟩ := List.getElem_of_mem hy
 have ei : (l.getD i default).view.id = x := by rw [List.getD_eq_getElem?_getD, List.getElem?_eq_getElem hi]; exact e
 have hc : ndX l x = i := search_end (d := default) (κ := fun p : GNode => p.view.id) (K := x) (Nat.le_of_lt hi) (fun t ht => by
  have := hs t i ht hi
  show (l.getD t default).view.id < x
  omega) (fun t ht h2 => by
  have := risingN_le hs ht h2
  show x ≤ (l.getD t default).view.id
  omega)
 unfold ndAt
 rw [hc]
 exact ⟨hi, ei⟩
theorem ndX_of {l : List GNode} {i : Nat} (hs : RisingN l) (hi : i < l.length) : ndX l (l.getD i default).view.id = i :=
 search_end (d := default) (κ := fun p : GNode => p.view.id) (Nat.le_of_lt hi) (fun t ht => hs t i ht hi) (fun t ht h2 => risingN_le hs ht h2)
theorem ndAt_mem {l : List GNode} {x : Int} (hs : RisingN l) (h : isNd l x = true) : ndAt l x ∈ l := getD_mem (ndX_at hs h).1
theorem isNd_mem {l : List GNode} {n : GNode} (h : n ∈ l) : isNd l n.view.id = true := List.any_eq_true.2 ⟨n, h, decide_eq_true rfl⟩
theorem isNd_ids {l l' : List GNode} (h : l.map (fun n => n.view.id) = l'.map fun n => n.view.id) (y : Int) : isNd l y = isNd l' y := by
 have e : ∀ m : List GNode, isNd m y = (m.map fun n => n.view.id).any fun z => decide (z = y) := fun m => by unfold isNd; rw [List.any_map]; rfl
 rw [e, e, h]
theorem setNd_ids {l : List GNode} {id : Int} {x : GNode} (hs : RisingN l) (h : isNd l id = true) (hx : x.view.id = id) : (setNd l id x).map (fun n => n.view.id) = l.map fun n => n.view.id := by
 obtain ⟨h1, h2⟩ := ndX_at hs h
 apply List.ext_getElem (by simp [setNd])
 intro j h3 h4
 simp only [setNd, List.getElem_map, List.getElem_set]
 split
 · rename_i e
   subst e
   unfold ndAt at h2
   refine hx.trans (h2.symm.trans ?_)
   simp [List.getD_eq_getElem?_getD, h1]
 · rfl
theorem setNd_len (l : List GNode) (id : Int) (x : GNode) : (setNd l id x).length = l.length := by simp [setNd]
theorem nodesB_ids {l l' : List GNode} (h : l'.map (fun n => n.view.id) = l.map fun n => n.view.id) (hl : nodesB l = true) (hn : ∀ n ∈ l', nodeB n = true) : nodesB l' = true := by
 obtain ⟨a1, a2, a3, a4⟩ := nodesB_iff.1 hl
 have e : l'.length = l.length := by have := congrArg List.length h; simpa using this
 refine nodesB_iff.2 ⟨by omega, by omega, ?_, hn⟩
 have h1 : (l.map fun n => n.view.id).Pairwise (· < ·) := List.pairwise_map.2 (risingN_iff.1 a3)
 rw [← h] at h1
 exact risingN_iff.2 ((List.pairwise_map (R := fun a b : Int => a < b) (f := fun n : GNode => n.view.id)).1 h1)
theorem setNd_mem {l : List GNode} {id : Int} {x n : GNode} (h : n ∈ setNd l id x) : n ∈ l ∨ n = x := List.mem_or_eq_of_mem_set h
theorem baseB_iff {n : List GNode} {c : List GCut} : baseB n c = true ↔ nodesB n = true ∧ cutsB c = true ∧ (∀ x ∈ n, ∀ y ∈ namedN x, isNd n y = true) ∧ ∀ x ∈ c, isNd n x.a = true ∧ isNd n x.b = true := by
 simp only [baseB, Bool.and_eq_true, List.all_eq_true]
 constructor
 · rintro ⟨h1, h2, h3, h4⟩
   exact ⟨h1, h2, h3, fun x hx => ⟨h4 x hx x.a (by simp [namedC]), h4 x hx x.b (by simp [namedC])⟩⟩
 · rintro ⟨h1, h2, h3, h4⟩
   refine ⟨h1, h2, h3, fun x hx y hy => ?_⟩
   simp [namedC] at hy
   rcases hy with rfl | rfl
   · exact (h4 x hx).1
   · exact (h4 x hx).2
theorem baseB_set {n : List GNode} {c : List GCut} {id : Int} {x : GNode} (h : baseB n c = true) (hid : isNd n id = true) (hx : nodeB x = true) (hxi : x.view.id = id) (hnm : ∀ y ∈ namedN x, isNd n y = true) : baseB (setNd n id x) c = true := by
 obtain ⟨h1, h2, h3, h4⟩ := baseB_iff.1 h
 have hr := (nodesB_iff.1 h1).2.2.1
 have e := setNd_ids hr hid hxi
 have hi : ∀ y, isNd (setNd n id x) y = isNd n y := isNd_ids e
 refine baseB_iff.2 ⟨nodesB_ids e h1 fun z hz => ?_, h2, fun z hz y hy => ?_, fun z hz => ?_⟩
 · rcases setNd_mem hz with h5 | h5
   · exact (nodesB_iff.1 h1).2.2.2 z h5
   · rw [h5]; exact hx
 · rw [hi]
   rcases setNd_mem hz with h5 | h5
   · exact h3 z h5 y hy
   · rw [h5] at hy; exact hnm y hy
 · rw [hi, hi]; exact h4 z hz
theorem packB_set {n : List GNode} {id : Int} {x : GNode} (hr : RisingN n) (hid : isNd n id = true) (hxi : x.view.id = id) (m : GMsg) : packB (setNd n id x) m = packB n m := by
 unfold packB
 congr 1
 funext y
 exact isNd_ids (setNd_ids hr hid hxi) y
theorem worldB_base {w : GWorld} : worldB w = true ↔ baseB w.nodes w.cuts = true ∧ w.packets.length ≤ 512 ∧ ∀ m ∈ w.packets, mayB m = true ∧ packB w.nodes m = true := worldB_pk
theorem packB_all {n : List GNode} {m : GMsg} : packB n m = true ↔ ∀ y ∈ namedM m, isNd n y = true := by simp [packB]
theorem base_rising {n : List GNode} {c : List GCut} (h : baseB n c = true) : RisingN n := (nodesB_iff.1 (baseB_iff.1 h).1).2.2.1
theorem turn_may {w : GWorld} {id : Int} {x : GNode} {ms : List GMsg} (hw : worldB w = true) (hid : isNd w.nodes id = true) (hx : nodeB x = true) (hxi : x.view.id = id) (hnm : ∀ y ∈ namedN x, isNd w.nodes y = true) (hl : ms.length ≤ 512) (hm : ∀ m ∈ ms, mayB m = true ∧ ∀ y ∈ namedM m, isNd w.nodes y = true) :
  worldB ⟨setNd w.nodes id x, w.cuts, w.packets⟩ = true ∧ worldB ⟨setNd w.nodes id x, w.cuts, ms⟩ = true := by
 obtain ⟨h1, h2, h3⟩ := worldB_base.1 hw
 have hb := baseB_set h1 hid hx hxi hnm
 have hr := base_rising h1
 refine ⟨worldB_base.2 ⟨hb, h2, fun m hm => ?_⟩, worldB_base.2 ⟨hb, hl, fun m hm' => ?_⟩⟩
 · exact ⟨(h3 m hm).1, by show packB (setNd w.nodes id x) m = true; rw [packB_set hr hid hxi]; exact (h3 m hm).2⟩
 · exact ⟨(hm m hm').1, by show packB (setNd w.nodes id x) m = true; rw [packB_set hr hid hxi]; exact packB_all.2 (hm m hm').2⟩
def sendP (w : GWorld) (ms : List GMsg) : GWorld := ⟨w.nodes, w.cuts, w.packets ++ ms.take (512 - w.packets.length)⟩
theorem send_may {w : GWorld} {ms : List GMsg} (h : worldB w = true) (h2 : worldB ⟨w.nodes, w.cuts, ms⟩ = true) : sendW w ms = (sendP w ms, 0) ∧ worldB (sendP w ms) = true :=
 ⟨by rw [sendW_def, if_pos ⟨h, h2⟩]; rfl, worldB_app h h2⟩
theorem sub_len : ∀ {l U : List Int}, l.Pairwise (· ≠ ·) → (∀ x ∈ l, x ∈ U) → l.length ≤ U.length
 | [], U, _, _ => Nat.zero_le _
 | x :: l, U, hd, h => by
   rw [List.pairwise_cons] at hd
   have h1 := sub_len (U := U.erase x) hd.2 fun y hy => (List.mem_erase_of_ne (hd.1 y hy).symm).2 (h y (List.mem_cons_of_mem _ hy))
   have hx := h x List.mem_cons_self
   rw [List.length_erase_of_mem hx] at h1
   have := List.length_pos_of_mem hx
   simp only [List.length_cons]
   omega
theorem newP_ok {id : Int} {U : List Int} (hU : U.length ≤ 8) (hp : ∀ y ∈ U, placeB y = true) : ∀ {ids acc : List Int}, passB acc = true → (∀ y ∈ acc, y ∈ U ∧ y ≠ id) → (∀ y ∈ ids, y ∈ U) → ∃ l, newP id acc ids = some l ∧ passB l = true ∧ ∀ y ∈ l, y ∈ U ∧ y ≠ id
 | [], acc, h, ha, _ => ⟨acc, rfl, h, ha⟩
 | y :: ys, acc, h, ha, hi => by
   have hy := hi y List.mem_cons_self
   have hys : ∀ z ∈ ys, z ∈ U := fun z hz => hi z (List.mem_cons_of_mem _ hz)
   unfold newP
   split
   · exact newP_ok hU hp h ha hys
   · rename_i hne
     have hpy := hp y hy
     have hr := rising_iff.1 (passB_iff.1 h).2.1
     have hlen := sub_len (l := acc) (U := U) (hr.imp fun h => by omega) fun z hz => (ha z hz).1
     cases hh : hasI acc y with
     | true =>
       rw [withP_has h hpy hh, if_pos rfl]
       exact newP_ok hU hp h ha hys
     | false =>
       rw [withP_yes h hpy hh (by omega), if_pos rfl]
       exact newP_ok hU hp (passB_insP' h hpy hh (by omega)) (fun z hz => by
        rcases mem_insP.1 hz with e | hz
        · rw [e]; exact ⟨hy, hne⟩
        · exact ha z hz) hys
theorem world_ids {l : List GNode} {y : Int} : isNd l y = true ↔ y ∈ l.map fun n => n.view.id := by
 simp [isNd, List.any_eq_true]
theorem node_place {l : List GNode} {y : Int} (hn : ∀ n ∈ l, nodeB n = true) (h : isNd l y = true) : placeB y = true := by
 obtain ⟨n, h1, rfl⟩ := List.mem_map.1 (world_ids.1 h)
 exact (peers_iff.1 (viewB_iff2.1 (nodeB_iff.1 (hn n h1)).1).1).1
theorem new_facts {l : List GNode} {id : Int} {ids : List Int} (hl : nodesB l = true) (hid : isNd l id = true) (hi : ∀ y ∈ ids, isNd l y = true) : (newN id ids).2 = 0 ∧ nodeB (newN id ids).1 = true ∧ (newN id ids).1.view.id = id ∧ (newN id ids).1.up = true ∧ ∀ y ∈ namedN (newN id ids).1, isNd l y = true := by
 obtain ⟨a1, a2, a3, a4⟩ := nodesB_iff.1 hl
 have hp := node_place a4 hid
 obtain ⟨L, e, h1, h2⟩ := newP_ok (id := id) (U := l.map fun n => n.view.id) (by simpa using a2) (fun y hy => node_place a4 (world_ids.2 hy)) (acc := []) (ids := ids) (by decide) (by simp) fun y hy => world_ids.1 (hi y hy)
 have h16 := (passB_iff.1 h1).1
 rw [newN_yes hp e]
 refine ⟨rfl, nodeB_iff.2 ⟨viewB_iff2.2 ⟨peers_iff.2 ⟨hp, by simp, List.Pairwise.nil, by simp⟩, h1, by simpa using h16, fun x hx => ⟨(h2 x hx).2, by simp [namesP]⟩⟩, rfl, by simp, by simp, .inl rfl⟩, rfl, rfl, fun y hy => ?_⟩
 have hy : y ∈ L := by simpa [namedN, namesP] using hy
 exact world_ids.2 (h2 y hy).1
theorem mkCt_ok {a b : Int} (ha : placeB a = true) (hb : placeB b = true) (hne : a ≠ b) : cutB (mkCt a b) = true := by
 simp only [placeB, Bool.and_eq_true, decide_eq_true_eq] at ha hb
 unfold mkCt cutB placeB
 simp only [Bool.and_eq_true, decide_eq_true_eq]
 split <;> split <;> omega
theorem mkCt_nd {l : List GNode} {a b : Int} (ha : isNd l a = true) (hb : isNd l b = true) : isNd l (mkCt a b).a = true ∧ isNd l (mkCt a b).b = true := by
 unfold mkCt
 dsimp only
 constructor <;> split <;> assumption
theorem cutLt_ctK {p q : GCut} (hp : cutB p = true) (hq : cutB q = true) : cutLt p q ↔ ctK p < ctK q := by
 have h1 := cutB_in hp
 have h2 := cutB_in hq
 unfold cutLt ctK
 omega
theorem cuts_rise {l : List GCut} (hb : ∀ c ∈ l, cutB c = true) : l.Pairwise cutLt ↔ l.Pairwise fun p q => ctK p < ctK q := by
 constructor
 · intro h
   exact h.imp_of_mem fun hp hq => (cutLt_ctK (hb _ hp) (hb _ hq)).1
 · intro h
   exact h.imp_of_mem fun hp hq => (cutLt_ctK (hb _ hp) (hb _ hq)).2
theorem withCt_ok {l : List GCut} {a b : Int} (h0 : (withCt l a b).2 = 0) : cutsB (withCt l a b).1 = true ∧ ∀ c ∈ (withCt l a b).1, c = mkCt a b ∨ c ∈ l := by
 cases hm : mayCt l a b with
 | false => rw [withCt_no hm] at h0; simp at h0
 | true =>
   have hm' := hm
   simp only [mayCt, Bool.and_eq_true] at hm'
   obtain ⟨c1, c2, c3, c4⟩ := hm'
   have c4 : a ≠ b := by simpa using c4
   have hp := cutsB_iff.1 c1
   cases hh : hasCt l (mkCt a b) with
   | true => rw [withCt_has hm hh]; exact ⟨c1, fun c hc => .inr hc⟩
   | false =>
     by_cases h32 : l.length = 32
     · rw [withCt_full hm hh h32] at h0; simp at h0
     · rw [withCt_yes hm hh h32]
       dsimp only
       obtain ⟨L, hL⟩ : ∃ L, L = l.take (l.countP fun c => decide (ctK c < ctK (mkCt a b))) ++ [mkCt a b] ++ l.drop (l.countP fun c => decide (ctK c < ctK (mkCt a b))) := ⟨_, rfl⟩
       have hmem : ∀ p, p ∈ L ↔ p = mkCt a b ∨ p ∈ l := fun p => by rw [hL]; exact mem_insK
       have hlen : L.length = l.length + 1 := by rw [hL]; exact len_insK
       have hx := mkCt_ok c2 c3 c4
       have hris : L.Pairwise fun p q => ctK p < ctK q := by
        have h2 := ins_risingK ctK (x := mkCt a b) ((cuts_rise hp.2.2).1 (risingCt_iff.1 hp.2.1)) (fun y hy e => by
         have : hasCt l (mkCt a b) = true := List.any_eq_true.2 ⟨y, hy, decide_eq_true e⟩
         rw [this] at hh
         simp at hh)
        rw [hL]
        exact h2
       rw [← hL]
       clear hL
       have hb : ∀ c ∈ L, cutB c = true := fun c hc => by
        rcases (hmem c).1 hc with h1 | h1
        · rw [h1]; exact hx
        · exact hp.2.2 c h1
       exact ⟨cutsB_iff.2 ⟨by omega, risingCt_iff.2 ((cuts_rise hb).2 hris), hb⟩, fun c hc => (hmem c).1 hc⟩
theorem outCt_ok {l : List GCut} {a b : Int} (hl : cutsB l = true) (h0 : (outCt l a b).2 = 0) : cutsB (outCt l a b).1 = true ∧ ∀ c ∈ (outCt l a b).1, c ∈ l := by
 have hp := cutsB_iff.1 hl
 have key : ∀ L : List GCut, L.Sublist l → cutsB L = true := fun L hs => cutsB_iff.2 ⟨Nat.le_trans hs.length_le hp.1, risingCt_iff.2 ((risingCt_iff.1 hp.2.1).sublist hs), fun c hc => hp.2.2 c (hs.subset hc)⟩
 cases hm : mayCt l a b with
 | false => rw [outCt_no hm] at h0; simp at h0
 | true =>
   cases hh : hasCt l (mkCt a b) with
   | false => rw [outCt_not hm hh]; exact ⟨hl, fun c hc => hc⟩
   | true =>
     rw [outCt_has hm hh]
     have hs : (l.take (l.countP fun c => decide (ctK c < ctK (mkCt a b))) ++ l.drop ((l.countP fun c => decide (ctK c < ctK (mkCt a b))) + 1)).Sublist l := by
      conv => rhs; rw [← List.take_append_drop (l.countP fun c => decide (ctK c < ctK (mkCt a b))) l]
      exact List.Sublist.append (List.Sublist.refl _) (List.drop_sublist_drop_left _ (Nat.le_succ _))
     exact ⟨key _ hs, fun c hc => hs.subset hc⟩
end Go.Proofs.YtjjpakdlkjaigaaGreat

/- Plain law: what an act makes of a world. -/
namespace Go.Proofs.YtjjpakdlkjaigaaGreat
open Go.RowKit
def actB (w : GWorld) (a : GAct) : Bool :=
 if a.kind = 1 ∨ a.kind = 2 ∨ a.kind = 3 then decide (0 ≤ a.pick) && decide (a.pick ≤ 65535)
 else if a.kind < 0 ∨ 10 < a.kind then false
 else isNd w.nodes a.node && (if a.kind = 4 ∨ a.kind = 5 then isNd w.nodes a.other && !decide (a.node = a.other)
  else if a.kind = 7 then decide (a.ids.length ≤ 16) && a.ids.all (isNd w.nodes)
  else if a.kind = 8 then placeB a.key && placeB a.value
  else if a.kind = 9 ∨ a.kind = 10 then placeB a.key
  else true)
def turnW (w : GWorld) (id : Int) (x : GNode) (ms : List GMsg) : GWorld := sendP ⟨setNd w.nodes id x, w.cuts, w.packets⟩ ms
def leftW (w : GWorld) (p : Nat) : GWorld := ⟨w.nodes, w.cuts, w.packets.take p ++ w.packets.drop (p + 1)⟩
def pickP (w : GWorld) (a : GAct) : Nat := a.pick.toNat % w.packets.length
noncomputable def tickW (w : GWorld) (id : Int) : GWorld := if (ndAt w.nodes id).up = true then turnW w id (tickN (ndAt w.nodes id)).1 (tickN (ndAt w.nodes id)).2.1 else w
noncomputable def delivW (w : GWorld) (p : Nat) : GWorld :=
 if (isCt w.cuts (w.packets.getD p default).src (w.packets.getD p default).dst).1 = true then leftW w p
 else if (ndAt w.nodes (w.packets.getD p default).dst).up = true then turnW (leftW w p) (w.packets.getD p default).dst (handleN (ndAt w.nodes (w.packets.getD p default).dst) (w.packets.getD p default)).1 (handleN (ndAt w.nodes (w.packets.getD p default).dst) (w.packets.getD p default)).2.1
 else leftW w p
noncomputable def setW (w : GWorld) (id : Int) (r : GNode × Int) : GWorld := if r.2 = 0 then ⟨setNd w.nodes id r.1, w.cuts, w.packets⟩ else w
noncomputable def actW (w : GWorld) (a : GAct) : GWorld :=
 if a.kind = 0 then tickW w a.node
 else if a.kind = 1 then (if w.packets.length = 0 then w else delivW w (pickP w a))
 else if a.kind = 2 then (if w.packets.length = 0 then w else leftW w (pickP w a))
 else if a.kind = 3 then (if w.packets.length = 0 then w else sendP w [w.packets.getD (pickP w a) default])
 else if a.kind = 4 then (if (withCt w.cuts a.node a.other).2 = 0 then ⟨w.nodes, (withCt w.cuts a.node a.other).1, w.packets⟩ else w)
 else if a.kind = 5 then ⟨w.nodes, (outCt w.cuts a.node a.other).1, w.packets⟩
 else if a.kind = 6 then ⟨setNd w.nodes a.node ⟨false, ⟨a.node, [], []⟩, [], []⟩, w.cuts, w.packets⟩
 else if a.kind = 7 then (if (ndAt w.nodes a.node).up = true then w else ⟨setNd w.nodes a.node (newN a.node a.ids).1, w.cuts, w.packets⟩)
 else if a.kind = 8 then (if (ndAt w.nodes a.node).up = true then setW w a.node (wroteN (ndAt w.nodes a.node) ⟨a.key, ⟨0, 0⟩, a.value, false⟩) else w)
 else if a.kind = 9 then (if (ndAt w.nodes a.node).up = true then setW w a.node (wroteN (ndAt w.nodes a.node) ⟨a.key, ⟨0, 0⟩, 0, true⟩) else w)
 else (if (ndAt w.nodes a.node).up = true then turnW w a.node (askN (ndAt w.nodes a.node) a.key).1 (askN (ndAt w.nodes a.node) a.key).2.1 else w)
theorem actW_0 {w : GWorld} {a : GAct} (h : a.kind = 0) : actW w a = tickW w a.node := by
 unfold actW
 rw [if_pos h]
theorem actW_1 {w : GWorld} {a : GAct} (h : a.kind = 1) : actW w a = (if w.packets.length = 0 then w else delivW w (pickP w a)) := by
 unfold actW
 rw [if_neg (by omega), if_pos h]
theorem actW_2 {w : GWorld} {a : GAct} (h : a.kind = 2) : actW w a = (if w.packets.length = 0 then w else leftW w (pickP w a)) := by
 unfold actW
 rw [if_neg (by omega), if_neg (by omega), if_pos h]
theorem actW_3 {w : GWorld} {a : GAct} (h : a.kind = 3) : actW w a = (if w.packets.length = 0 then w else sendP w [w.packets.getD (pickP w a) default]) := by
 unfold actW
 rw [if_neg (by omega), if_neg (by omega), if_neg (by omega), if_pos h]
theorem actW_4 {w : GWorld} {a : GAct} (h : a.kind = 4) : actW w a = (if (withCt w.cuts a.node a.other).2 = 0 then ⟨w.nodes, (withCt w.cuts a.node a.other).1, w.packets⟩ else w) := by
 unfold actW
 rw [if_neg (by omega), if_neg (by omega), if_neg (by omega), if_neg (by omega), if_pos h]
theorem actW_5 {w : GWorld} {a : GAct} (h : a.kind = 5) : actW w a = ⟨w.nodes, (outCt w.cuts a.node a.other).1, w.packets⟩ := by
 unfold actW
 rw [if_neg (by omega), if_neg (by omega), if_neg (by omega), if_neg (by omega), if_neg (by omega), if_pos h]
theorem actW_6 {w : GWorld} {a : GAct} (h : a.kind = 6) : actW w a = ⟨setNd w.nodes a.node ⟨false, ⟨a.node, [], []⟩, [], []⟩, w.cuts, w.packets⟩ := by
 unfold actW
 rw [if_neg (by omega), if_neg (by omega), if_neg (by omega), if_neg (by omega), if_neg (by omega), if_neg (by omega), if_pos h]
theorem actW_7 {w : GWorld} {a : GAct} (h : a.kind = 7) : actW w a = (if (ndAt w.nodes a.node).up = true then w else ⟨setNd w.nodes a.node (newN a.node a.ids).1, w.cuts, w.packets⟩) := by
 unfold actW
 rw [if_neg (by omega), if_neg (by omega), if_neg (by omega), if_neg (by omega), if_neg (by omega), if_neg (by omega), if_neg (by omega), if_pos h]
theorem actW_8 {w : GWorld} {a : GAct} (h : a.kind = 8) : actW w a = (if (ndAt w.nodes a.node).up = true then setW w a.node (wroteN (ndAt w.nodes a.node) ⟨a.key, ⟨0, 0⟩, a.value, false⟩) else w) := by
 unfold actW
 rw [if_neg (by omega), if_neg (by omega), if_neg (by omega), if_neg (by omega), if_neg (by omega), if_neg (by omega), if_neg (by omega), if_neg (by omega), if_pos h]
theorem actW_9 {w : GWorld} {a : GAct} (h : a.kind = 9) : actW w a = (if (ndAt w.nodes a.node).up = true then setW w a.node (wroteN (ndAt w.nodes a.node) ⟨a.key, ⟨0, 0⟩, 0, true⟩) else w) := by
 unfold actW
 rw [if_neg (by omega), if_neg (by omega), if_neg (by omega), if_neg (by omega), if_neg (by omega), if_neg (by omega), if_neg (by omega), if_neg (by omega), if_neg (by omega), if_pos h]
theorem actW_10 {w : GWorld} {a : GAct} (h : a.kind = 10) : actW w a = (if (ndAt w.nodes a.node).up = true then turnW w a.node (askN (ndAt w.nodes a.node) a.key).1 (askN (ndAt w.nodes a.node) a.key).2.1 else w) := by
 unfold actW
 rw [if_neg (by omega), if_neg (by omega), if_neg (by omega), if_neg (by omega), if_neg (by omega), if_neg (by omega), if_neg (by omega), if_neg (by omega), if_neg (by omega), if_neg (by omega)]
noncomputable def doW (w : GWorld) (a : GAct) : GWorld × Int := Classical.choose (seal_ex (if worldB w = true ∧ actB w a = true then (actW w a, (0 : Int)) else (worldZ, 2400)))
theorem doW_def (w : GWorld) (a : GAct) : doW w a = if worldB w = true ∧ actB w a = true then (actW w a, (0 : Int)) else (worldZ, 2400) := Classical.choose_spec (seal_ex _)
noncomputable def oDo (w : GWorld) (a : GAct) : Out := .ok (.tup [.agg [.own 0, .own 1, .own 2], .int .i64 (doW w a).2]) (wOwn (doW w a).1)
theorem doW_no {w : GWorld} {a : GAct} (h : worldB w = false ∨ actB w a = false) : doW w a = (worldZ, 2400) := by
 rw [doW_def, if_neg]
 rintro ⟨h1, h2⟩
 rcases h with h | h <;> simp_all
theorem doW_yes {w : GWorld} {a : GAct} (h1 : worldB w = true) (h2 : actB w a = true) : doW w a = (actW w a, 0) := by rw [doW_def, if_pos ⟨h1, h2⟩]
theorem act_kind {w : GWorld} {a : GAct} (h : actB w a = true) : 0 ≤ a.kind ∧ a.kind ≤ 10 := by
 unfold actB at h
 split at h
 · omega
 · split at h
   · simp at h
   · omega
theorem act_node {w : GWorld} {a : GAct} (h : actB w a = true) (hk : ¬ (a.kind = 1 ∨ a.kind = 2 ∨ a.kind = 3)) : isNd w.nodes a.node = true := by
 have := act_kind h
 unfold actB at h
 rw [if_neg hk, if_neg (by omega)] at h
 simp only [Bool.and_eq_true] at h
 exact h.1
theorem act_pick {w : GWorld} {a : GAct} (h : actB w a = true) (hk : a.kind = 1 ∨ a.kind = 2 ∨ a.kind = 3) : 0 ≤ a.pick ∧ a.pick ≤ 65535 := by
 unfold actB at h
 rw [if_pos hk] at h
 simp only [Bool.and_eq_true, decide_eq_true_eq] at h
 exact h
theorem act_other {w : GWorld} {a : GAct} (h : actB w a = true) (hk : a.kind = 4 ∨ a.kind = 5) : isNd w.nodes a.other = true ∧ a.node ≠ a.other := by
 have := act_kind h
 unfold actB at h
 rw [if_neg (by omega), if_neg (by omega), if_pos hk] at h
 simp only [Bool.and_eq_true] at h
 exact ⟨h.2.1, by simpa using h.2.2⟩
theorem act_ids {w : GWorld} {a : GAct} (h : actB w a = true) (hk : a.kind = 7) : a.ids.length ≤ 16 ∧ a.ids.all (isNd w.nodes) = true := by
 unfold actB at h
 rw [if_neg (by omega), if_neg (by omega), if_neg (by omega), if_pos hk] at h
 simp only [Bool.and_eq_true, decide_eq_true_eq] at h
 exact h.2
theorem act_key {w : GWorld} {a : GAct} (h : actB w a = true) (hk : a.kind = 8 ∨ a.kind = 9 ∨ a.kind = 10) : placeB a.key = true := by
 unfold actB at h
 rw [if_neg (by omega), if_neg (by omega), if_neg (by omega), if_neg (by omega)] at h
 split at h
 · simp only [Bool.and_eq_true] at h
   exact h.2.1
 · rw [if_pos (by omega)] at h
   simp only [Bool.and_eq_true] at h
   exact h.2
theorem act_value {w : GWorld} {a : GAct} (h : actB w a = true) (hk : a.kind = 8) : placeB a.value = true := by
 unfold actB at h
 rw [if_neg (by omega), if_neg (by omega), if_neg (by omega), if_neg (by omega), if_pos hk] at h
 simp only [Bool.and_eq_true] at h
 exact h.2.2
theorem world_node {w : GWorld} {id : Int} (hw : worldB w = true) (hid : isNd w.nodes id = true) : RisingN w.nodes ∧ ndX w.nodes id < w.nodes.length ∧ nodeB (ndAt w.nodes id) = true ∧ (ndAt w.nodes id).view.id = id ∧ ∀ y ∈ namedN (ndAt w.nodes id), isNd w.nodes y = true := by
 obtain ⟨h1, h2, h3⟩ := worldB_base.1 hw
 obtain ⟨b1, b2, b3, b4⟩ := baseB_iff.1 h1
 have hr := base_rising h1
 have hx := ndX_at hr hid
 have hm := ndAt_mem hr hid
 exact ⟨hr, hx.1, (nodesB_iff.1 b1).2.2.2 _ hm, hx.2, b3 _ hm⟩
theorem tick_turn {w : GWorld} {id : Int} (hw : worldB w = true) (hid : isNd w.nodes id = true) (hu : (ndAt w.nodes id).up = true) :
  worldB ⟨setNd w.nodes id (tickN (ndAt w.nodes id)).1, w.cuts, w.packets⟩ = true ∧ worldB ⟨setNd w.nodes id (tickN (ndAt w.nodes id)).1, w.cuts, (tickN (ndAt w.nodes id)).2.1⟩ = true := by
 obtain ⟨hr, hx, hb, hi, hn⟩ := world_node hw hid
 obtain ⟨f1, f2, f3, f4, f5, f6, f7⟩ := tick_facts (up_iff.2 ⟨hu, hb⟩)
 exact turn_may hw hid f2 (f3.trans hi) (fun y hy => hn y (f5 y hy)) (by omega) fun m hm => ⟨(f7 m hm).1, fun y hy => by
  rcases (f7 m hm).2 y hy with h | h
  · rw [h, hi]; exact hid
  · exact hn y h⟩
theorem ask_turn {w : GWorld} {id k : Int} (hw : worldB w = true) (hid : isNd w.nodes id = true) (hu : (ndAt w.nodes id).up = true) (hk : placeB k = true) :
  worldB ⟨setNd w.nodes id (askN (ndAt w.nodes id) k).1, w.cuts, w.packets⟩ = true ∧ worldB ⟨setNd w.nodes id (askN (ndAt w.nodes id) k).1, w.cuts, (askN (ndAt w.nodes id) k).2.1⟩ = true := by
 obtain ⟨hr, hx, hb, hi, hn⟩ := world_node hw hid
 obtain ⟨f1, f2, f3, f4, f5, f6⟩ := ask_facts (k := k) (up_iff.2 ⟨hu, hb⟩) hk
 exact turn_may hw hid f2 (by rw [f3]; exact hi) (fun y hy => hn y (by unfold namedN at hy ⊢; rw [f3] at hy; exact hy)) (by omega) fun m hm => ⟨(f6 m hm).1, fun y hy => by
  rcases (f6 m hm).2 y hy with h | h
  · rw [h, hi]; exact hid
  · exact hn y h⟩
theorem left_may {w : GWorld} {p : Nat} (hw : worldB w = true) (hp : p < w.packets.length) : worldB (leftW w p) = true := by
 obtain ⟨h1, h2, h3⟩ := worldB_base.1 hw
 refine worldB_sub (l := w.packets) hw ?_ fun m hm => ?_
 · simp only [List.length_append, List.length_take, List.length_drop]
   omega
 · rcases List.mem_append.1 hm with h | h
   · exact List.mem_of_mem_take h
   · exact List.mem_of_mem_drop h
theorem pack_facts {w : GWorld} {p : Nat} (hw : worldB w = true) (hp : p < w.packets.length) : mayB (w.packets.getD p default) = true ∧ isNd w.nodes (w.packets.getD p default).src = true ∧ isNd w.nodes (w.packets.getD p default).dst = true ∧ ∀ y ∈ (w.packets.getD p default).ids, isNd w.nodes y = true := by
 obtain ⟨h1, h2, h3⟩ := worldB_base.1 hw
 have hm := h3 _ (getD_mem (d := default) hp)
 have hq := packB_all.1 hm.2
 exact ⟨hm.1, hq _ (by simp [namedM]), hq _ (by simp [namedM]), fun y hy => hq y (by unfold namedM; exact List.mem_append_right _ hy)⟩
theorem handle_turn {w : GWorld} {p : Nat} (hw : worldB w = true) (hp : p < w.packets.length) (hu : (ndAt w.nodes (w.packets.getD p default).dst).up = true) :
  worldB ⟨setNd w.nodes (w.packets.getD p default).dst (handleN (ndAt w.nodes (w.packets.getD p default).dst) (w.packets.getD p default)).1, w.cuts, (leftW w p).packets⟩ = true ∧ worldB ⟨setNd w.nodes (w.packets.getD p default).dst (handleN (ndAt w.nodes (w.packets.getD p default).dst) (w.packets.getD p default)).1, w.cuts, (handleN (ndAt w.nodes (w.packets.getD p default).dst) (w.packets.getD p default)).2.1⟩ = true := by
 obtain ⟨p1, p2, p3, p4⟩ := pack_facts hw hp
 obtain ⟨hr, hx, hb, hi, hn⟩ := world_node hw p3
 obtain ⟨f1, f2, f3, f4, f5, f6, f7⟩ := handle_facts (up_iff.2 ⟨hu, hb⟩) p1 hi.symm
 exact turn_may (left_may hw hp) p3 f2 (f3.trans hi) (fun y hy => by
  rcases f5 y hy with h | h | h
  · rw [h]; exact p2
  · exact p4 y h
  · exact hn y h) (by omega) fun m hm => ⟨(f7 m hm).1, fun y hy => by
  rcases (f7 m hm).2 y hy with h | h
  · rw [h, hi]; exact p3
  · rw [h]; exact p2⟩
theorem set_may {w : GWorld} {id : Int} {x : GNode} (hw : worldB w = true) (hid : isNd w.nodes id = true) (hx : nodeB x = true) (hxi : x.view.id = id) (hnm : ∀ y ∈ namedN x, isNd w.nodes y = true) : worldB ⟨setNd w.nodes id x, w.cuts, w.packets⟩ = true :=
 (turn_may (ms := []) hw hid hx hxi hnm (by simp) (by simp)).1
theorem cuts_may {w : GWorld} {c : List GCut} (hw : worldB w = true) (hc : cutsB c = true) (hn : ∀ x ∈ c, isNd w.nodes x.a = true ∧ isNd w.nodes x.b = true) : worldB ⟨w.nodes, c, w.packets⟩ = true := by
 obtain ⟨h1, h2, h3⟩ := worldB_base.1 hw
 obtain ⟨b1, b2, b3, b4⟩ := baseB_iff.1 h1
 exact worldB_base.2 ⟨baseB_iff.2 ⟨b1, hc, b3, hn⟩, h2, h3⟩
theorem world_cuts {w : GWorld} (hw : worldB w = true) : cutsB w.cuts = true ∧ ∀ x ∈ w.cuts, isNd w.nodes x.a = true ∧ isNd w.nodes x.b = true := by
 obtain ⟨h1, h2, h3⟩ := worldB_base.1 hw
 obtain ⟨b1, b2, b3, b4⟩ := baseB_iff.1 h1
 exact ⟨b2, b4⟩
theorem world_place {w : GWorld} {y : Int} (hw : worldB w = true) (h : isNd w.nodes y = true) : placeB y = true :=
 node_place (nodesB_iff.1 (baseB_iff.1 (worldB_base.1 hw).1).1).2.2.2 h
theorem down_ok {id : Int} (h : placeB id = true) : nodeB ⟨false, ⟨id, [], []⟩, [], []⟩ = true :=
 nodeB_iff.2 ⟨viewB_iff2.2 ⟨peers_iff.2 ⟨h, by simp, List.Pairwise.nil, by simp⟩, rfl, by simp, by simp⟩, rfl, by simp, by simp, .inr rfl⟩
theorem one_pack {w : GWorld} {p : Nat} (hw : worldB w = true) (hp : p < w.packets.length) : worldB ⟨w.nodes, w.cuts, [w.packets.getD p default]⟩ = true :=
 worldB_sub (l := w.packets) hw (by simp) fun m hm => by rw [List.mem_singleton.1 hm]; exact getD_mem hp
theorem turnW_may {w : GWorld} {id : Int} {x : GNode} {ms : List GMsg} (h : worldB ⟨setNd w.nodes id x, w.cuts, w.packets⟩ = true ∧ worldB ⟨setNd w.nodes id x, w.cuts, ms⟩ = true) : worldB (turnW w id x ms) = true := (send_may h.1 h.2).2
theorem wrote_set {w : GWorld} {id : Int} {i : GItem} (hw : worldB w = true) (hid : isNd w.nodes id = true) (hu : (ndAt w.nodes id).up = true) (hk : placeB i.key = true) (hv : placeB i.value = true) (hg : i.gone = true → i.value = 0) : worldB (setW w id (wroteN (ndAt w.nodes id) i)) = true := by
 unfold setW
 split
 · rename_i h0
   obtain ⟨hr, hx, hb, hi, hn⟩ := world_node hw hid
   obtain ⟨f1, f2, f3⟩ := wrote_facts (up_iff.2 ⟨hu, hb⟩) hk hv hg h0
   exact set_may hw hid f1 (by rw [f2]; exact hi) fun y hy => hn y (by unfold namedN at hy ⊢; rw [f2] at hy; exact hy)
 · exact hw
theorem pickP_lt {w : GWorld} {a : GAct} (h : ¬ w.packets.length = 0) : pickP w a < w.packets.length := Nat.mod_lt _ (by omega)
theorem deliv_may {w : GWorld} {p : Nat} (hw : worldB w = true) (hp : p < w.packets.length) : worldB (delivW w p) = true := by
 unfold delivW
 split
 · exact left_may hw hp
 · split
   · rename_i hu
     have h := handle_turn hw hp hu
     unfold turnW
     generalize handleN (ndAt w.nodes (w.packets.getD p default).dst) (w.packets.getD p default) = r at h ⊢
     exact (send_may h.1 h.2).2
   · exact left_may hw hp
theorem kinds {k : Int} (h : 0 ≤ k ∧ k ≤ 10) : k = 0 ∨ k = 1 ∨ k = 2 ∨ k = 3 ∨ k = 4 ∨ k = 5 ∨ k = 6 ∨ k = 7 ∨ k = 8 ∨ k = 9 ∨ k = 10 := by omega
theorem heal_ok {w : GWorld} {a : GAct} (hw : worldB w = true) (ha : actB w a = true) (h : a.kind = 5) : (outCt w.cuts a.node a.other).2 = 0 := by
 have ho := act_other ha (.inr h)
 have hid := act_node ha (by omega)
 have hm : mayCt w.cuts a.node a.other = true := mayCt_yes (world_cuts hw).1 (world_place hw hid) (world_place hw ho.1) ho.2
 cases hh : hasCt w.cuts (mkCt a.node a.other) with
 | true => rw [outCt_has hm hh]
 | false => rw [outCt_not hm hh]
theorem step_may {w : GWorld} {a : GAct} (hw : worldB w = true) (ha : actB w a = true) : worldB (actW w a) = true := by
 rcases kinds (act_kind ha) with h | h | h | h | h | h | h | h | h | h | h
 · rw [actW_0 h]
   have hid := act_node ha (by omega)
   unfold tickW
   by_cases hu : (ndAt w.nodes a.node).up = true
   · rw [if_pos hu]; exact turnW_may (tick_turn hw hid hu)
   · rw [if_neg hu]; exact hw
 · rw [actW_1 h]
   by_cases h0 : w.packets.length = 0
   · rw [if_pos h0]; exact hw
   · rw [if_neg h0]; exact deliv_may hw (pickP_lt h0)
 · rw [actW_2 h]
   by_cases h0 : w.packets.length = 0
   · rw [if_pos h0]; exact hw
   · rw [if_neg h0]; exact left_may hw (pickP_lt h0)
 · rw [actW_3 h]
   by_cases h0 : w.packets.length = 0
   · rw [if_pos h0]; exact hw
   · rw [if_neg h0]; exact (send_may hw (one_pack hw (pickP_lt h0))).2
 · rw [actW_4 h]
   have ho := act_other ha (.inl h)
   have hid := act_node ha (by omega)
   by_cases h0 : (withCt w.cuts a.node a.other).2 = 0
   · rw [if_pos h0]
     have := withCt_ok h0
     exact cuts_may hw this.1 fun x hx => by
      rcases this.2 x hx with e | e
      · rw [e]; exact mkCt_nd hid ho.1
      · exact (world_cuts hw).2 x e
   · rw [if_neg h0]; exact hw
 · rw [actW_5 h]
   have := outCt_ok (world_cuts hw).1 (heal_ok hw ha h)
   exact cuts_may hw this.1 fun x hx => (world_cuts hw).2 x (this.2 x hx)
 · rw [actW_6 h]
   have hid := act_node ha (by omega)
   exact set_may hw hid (down_ok (world_place hw hid)) rfl (by simp [namedN, namesP])
 · rw [actW_7 h]
   have hid := act_node ha (by omega)
   by_cases hu : (ndAt w.nodes a.node).up = true
   · rw [if_pos hu]; exact hw
   · rw [if_neg hu]
     have hi := act_ids ha h
     obtain ⟨f1, f2, f3, f4, f5⟩ := new_facts (baseB_iff.1 (worldB_base.1 hw).1).1 hid (List.all_eq_true.1 hi.2)
     exact set_may hw hid f2 f3 f5
 · rw [actW_8 h]
   by_cases hu : (ndAt w.nodes a.node).up = true
   · rw [if_pos hu]; exact wrote_set hw (act_node ha (by omega)) hu (act_key ha (by omega)) (act_value ha h) (by simp)
   · rw [if_neg hu]; exact hw
 · rw [actW_9 h]
   by_cases hu : (ndAt w.nodes a.node).up = true
   · rw [if_pos hu]; exact wrote_set hw (act_node ha (by omega)) hu (act_key ha (by omega)) (show placeB 0 = true from rfl) (by simp)
   · rw [if_neg hu]; exact hw
 · rw [actW_10 h]
   by_cases hu : (ndAt w.nodes a.node).up = true
   · rw [if_pos hu]; exact turnW_may (ask_turn hw (act_node ha (by omega)) hu (act_key ha (by omega)))
   · rw [if_neg hu]; exact hw
end Go.Proofs.YtjjpakdlkjaigaaGreat

/- Plain law: an act, aS the program does it. -/
namespace Go.Proofs.YtjjpakdlkjaigaaGreat
open Go.RowKit
theorem ndAt_fold (l : List GNode) (id : Int) : l.getD (cntNd l id).toNat default = ndAt l id := Eq.trans rfl rfl
theorem setNd_fold (l : List GNode) (id : Int) (x : GNode) : l.set (cntNd l id).toNat x = setNd l id x := Eq.trans rfl rfl
theorem do_of {w : GWorld} {a : GAct} {W : GWorld} (hw : worldB w = true) (ha : actB w a = true) (h : actW w a = W) : doW w a = (W, 0) := by rw [doW_yes hw ha, h]
theorem tick_up {x : GNode} (hb : nodeB x = true) : (tickN x).2.2 = 0 ↔ x.up = true := by
 constructor
 · intro h
   cases hu : x.up with
   | true => rfl
   | false => rw [tickN_no (by rw [hu]; rfl)] at h; simp at h
 · intro h
   exact (tick_facts (up_iff.2 ⟨h, hb⟩)).1
theorem ask_up {x : GNode} {k : Int} (hb : nodeB x = true) (hk : placeB k = true) : (askN x k).2.2 = 0 ↔ x.up = true := by
 constructor
 · intro h
   cases hu : x.up with
   | true => rfl
   | false => rw [askN_no (.inl (by rw [hu]; rfl))] at h; simp at h
 · intro h
   exact (ask_facts (up_iff.2 ⟨h, hb⟩) hk).1
theorem handle_up {x : GNode} {m : GMsg} (hb : nodeB x = true) (hm : mayB m = true) (hd : m.dst = x.view.id) : (handleN x m).2.2 = 0 ↔ x.up = true := by
 constructor
 · intro h
   cases hu : x.up with
   | true => rfl
   | false => rw [handleN_no (.inl (by rw [hu]; rfl))] at h; simp at h
 · intro h
   exact (handle_facts (up_iff.2 ⟨h, hb⟩) hm hd).1
theorem wrote_up {x : GNode} {i : GItem} (h : (wroteN x i).2 = 0) : x.up = true := by
 cases hu : x.up with
 | true => rfl
 | false => rw [wroteN_no (.inl (by rw [hu]; rfl))] at h; simp at h
section
variable {w : GWorld} {a : GAct} (hw : worldB w = true) (ha : actB w a = true)
include hw ha
theorem do0_yes (hk : a.kind = 0) (h : (tickN (ndAt w.nodes a.node)).2.2 = 0) : doW w a = ((sendW ⟨setNd w.nodes a.node (tickN (ndAt w.nodes a.node)).1, w.cuts, w.packets⟩ (tickN (ndAt w.nodes a.node)).2.1).1, 0) := by
 have hid := act_node ha (by omega)
 have hx := world_node hw hid
 have hu := (tick_up hx.2.2.1).1 h
 have ht := tick_turn hw hid hu
 rw [(send_may ht.1 ht.2).1]
 refine do_of hw ha ?_
 rw [actW_0 hk, tickW, if_pos hu]
 rfl
theorem do0_no (hk : a.kind = 0) (h : ¬ (tickN (ndAt w.nodes a.node)).2.2 = 0) : doW w a = (w, 0) := by
 have hx := world_node hw (act_node ha (by omega))
 refine do_of hw ha ?_
 rw [actW_0 hk, tickW, if_neg fun hu => h ((tick_up hx.2.2.1).2 hu)]
theorem take_of (hk : a.kind = 1 ∨ a.kind = 2 ∨ a.kind = 3) (h0 : ¬ w.packets.length = 0) : takeQ w.packets (a.pick.tmod (w.packets.length : Int)) = (w.packets.getD (pickP w a) default, (leftW w (pickP w a)).packets, 0) := by
 have hp := act_pick ha hk
 have hq := (worldB_iff.1 hw).2.2.1
 have e : a.pick.tmod (w.packets.length : Int) = ((pickP w a : Nat) : Int) := by
  unfold pickP
  obtain ⟨n, hn⟩ := Int.eq_ofNat_of_zero_le hp.1
  rw [hn]
  rfl
 have hlt := pickP_lt (a := a) h0
 rw [e, takeQ_def, if_pos ⟨hq, by omega, by omega⟩, Int.toNat_natCast]
 rfl
theorem do1_none (hk : a.kind = 1) (h0 : w.packets.length = 0) : doW w a = (w, 0) := by
 refine do_of hw ha ?_
 rw [actW_1 hk, if_pos h0]
theorem do1_cut (hk : a.kind = 1) (h0 : ¬ w.packets.length = 0) (hc : (isCt w.cuts (w.packets.getD (pickP w a) default).src (w.packets.getD (pickP w a) default).dst).1 = true) : doW w a = (leftW w (pickP w a), 0) := by
 refine do_of hw ha ?_
 rw [actW_1 hk, if_neg h0, delivW, if_pos hc]
theorem do1_yes (hk : a.kind = 1) (h0 : ¬ w.packets.length = 0) (hc : (isCt w.cuts (w.packets.getD (pickP w a) default).src (w.packets.getD (pickP w a) default).dst).1 = false)
  (h : (handleN (ndAt w.nodes (w.packets.getD (pickP w a) default).dst) (w.packets.getD (pickP w a) default)).2.2 = 0) :
  doW w a = ((sendW ⟨setNd w.nodes (w.packets.getD (pickP w a) default).dst (handleN (ndAt w.nodes (w.packets.getD (pickP w a) default).dst) (w.packets.getD (pickP w a) default)).1, w.cuts, (leftW w (pickP w a)).packets⟩ (handleN (ndAt w.nodes (w.packets.getD (pickP w a) default).dst) (w.packets.getD (pickP w a) default)).2.1).1, 0) := by
 have hlt := pickP_lt (a := a) h0
 obtain ⟨p1, p2, p3, p4⟩ := pack_facts hw hlt
 obtain ⟨hr, hx, hb, hi, hn⟩ := world_node hw p3
 have hu := (handle_up hb p1 hi.symm).1 h
 have ht := handle_turn hw hlt hu
 rw [(send_may ht.1 ht.2).1]
 refine do_of hw ha ?_
 rw [actW_1 hk, if_neg h0, delivW, if_neg (by rw [hc]; simp), if_pos hu]
 rfl
theorem do1_no (hk : a.kind = 1) (h0 : ¬ w.packets.length = 0) (hc : (isCt w.cuts (w.packets.getD (pickP w a) default).src (w.packets.getD (pickP w a) default).dst).1 = false)
  (h : ¬ (handleN (ndAt w.nodes (w.packets.getD (pickP w a) default).dst) (w.packets.getD (pickP w a) default)).2.2 = 0) : doW w a = (leftW w (pickP w a), 0) := by
 have hlt := pickP_lt (a := a) h0
 obtain ⟨p1, p2, p3, p4⟩ := pack_facts hw hlt
 obtain ⟨hr, hx, hb, hi, hn⟩ := world_node hw p3
 refine do_of hw ha ?_
 rw [actW_1 hk, if_neg h0, delivW, if_neg (by rw [hc]; simp), if_neg fun hu => h ((handle_up hb p1 hi.symm).2 hu)]
theorem do2_none (hk : a.kind = 2) (h0 : w.packets.length = 0) : doW w a = (w, 0) := by
 refine do_of hw ha ?_
 rw [actW_2 hk, if_pos h0]
theorem do2_yes (hk : a.kind = 2) (h0 : ¬ w.packets.length = 0) : doW w a = (leftW w (pickP w a), 0) := by
 refine do_of hw ha ?_
 rw [actW_2 hk, if_neg h0]
theorem do3_none (hk : a.kind = 3) (h0 : w.packets.length = 0) : doW w a = (w, 0) := by
 refine do_of hw ha ?_
 rw [actW_3 hk, if_pos h0]
theorem do3_yes (hk : a.kind = 3) (h0 : ¬ w.packets.length = 0) : doW w a = ((sendW w [w.packets.getD (pickP w a) default]).1, 0) := by
 rw [(send_may hw (one_pack hw (pickP_lt (a := a) h0))).1]
 refine do_of hw ha ?_
 rw [actW_3 hk, if_neg h0]
theorem do4_yes (hk : a.kind = 4) (h : (withCt w.cuts a.node a.other).2 = 0) : doW w a = (⟨w.nodes, (withCt w.cuts a.node a.other).1, w.packets⟩, 0) := by
 refine do_of hw ha ?_
 rw [actW_4 hk, if_pos h]
theorem do4_no (hk : a.kind = 4) (h : ¬ (withCt w.cuts a.node a.other).2 = 0) : doW w a = (w, 0) := by
 refine do_of hw ha ?_
 rw [actW_4 hk, if_neg h]
theorem do5 (hk : a.kind = 5) : doW w a = (⟨w.nodes, (outCt w.cuts a.node a.other).1, w.packets⟩, 0) := do_of hw ha (actW_5 hk)
theorem do6 (hk : a.kind = 6) : doW w a = (⟨setNd w.nodes a.node ⟨false, ⟨a.node, [], []⟩, [], []⟩, w.cuts, w.packets⟩, 0) := do_of hw ha (actW_6 hk)
theorem do7_up (hk : a.kind = 7) (h : (ndAt w.nodes a.node).up = true) : doW w a = (w, 0) := by
 refine do_of hw ha ?_
 rw [actW_7 hk, if_pos h]
theorem do7_down (hk : a.kind = 7) (h : (ndAt w.nodes a.node).up = false) : doW w a = (⟨setNd w.nodes a.node (newN a.node a.ids).1, w.cuts, w.packets⟩, 0) := by
 refine do_of hw ha ?_
 rw [actW_7 hk, if_neg (by rw [h]; simp)]
theorem do8_yes (hk : a.kind = 8) (h : (wroteN (ndAt w.nodes a.node) ⟨a.key, ⟨0, 0⟩, a.value, false⟩).2 = 0) : doW w a = (⟨setNd w.nodes a.node (wroteN (ndAt w.nodes a.node) ⟨a.key, ⟨0, 0⟩, a.value, false⟩).1, w.cuts, w.packets⟩, 0) := by
 refine do_of hw ha ?_
 rw [actW_8 hk, if_pos (wrote_up h), setW, if_pos h]
theorem do8_no (hk : a.kind = 8) (h : ¬ (wroteN (ndAt w.nodes a.node) ⟨a.key, ⟨0, 0⟩, a.value, false⟩).2 = 0) : doW w a = (w, 0) := by
 refine do_of hw ha ?_
 rw [actW_8 hk, setW, if_neg h]
 split <;> rfl
theorem do9_yes (hk : a.kind = 9) (h : (wroteN (ndAt w.nodes a.node) ⟨a.key, ⟨0, 0⟩, 0, true⟩).2 = 0) : doW w a = (⟨setNd w.nodes a.node (wroteN (ndAt w.nodes a.node) ⟨a.key, ⟨0, 0⟩, 0, true⟩).1, w.cuts, w.packets⟩, 0) := by
 refine do_of hw ha ?_
 rw [actW_9 hk, if_pos (wrote_up h), setW, if_pos h]
theorem do9_no (hk : a.kind = 9) (h : ¬ (wroteN (ndAt w.nodes a.node) ⟨a.key, ⟨0, 0⟩, 0, true⟩).2 = 0) : doW w a = (w, 0) := by
 refine do_of hw ha ?_
 rw [actW_9 hk, setW, if_neg h]
 split <;> rfl
theorem do10_yes (hk : a.kind = 10) (h : (askN (ndAt w.nodes a.node) a.key).2.2 = 0) : doW w a = ((sendW ⟨setNd w.nodes a.node (askN (ndAt w.nodes a.node) a.key).1, w.cuts, w.packets⟩ (askN (ndAt w.nodes a.node) a.key).2.1).1, 0) := by
 have hid := act_node ha (by omega)
 have hx := world_node hw hid
 have hkey := act_key ha (by omega)
 have hu := (ask_up hx.2.2.1 hkey).1 h
 have ht := ask_turn hw hid hu hkey
 rw [(send_may ht.1 ht.2).1]
 refine do_of hw ha ?_
 rw [actW_10 hk, if_pos hu]
 rfl
theorem do10_no (hk : a.kind = 10) (h : ¬ (askN (ndAt w.nodes a.node) a.key).2.2 = 0) : doW w a = (w, 0) := by
 have hx := world_node hw (act_node ha (by omega))
 refine do_of hw ha ?_
 rw [actW_10 hk, if_neg fun hu => h ((ask_up hx.2.2.1 (act_key ha (by omega))).2 hu)]
end
end Go.Proofs.YtjjpakdlkjaigaaGreat

/- Chapter 11: awake; a view that hears nobody. -/
namespace Go.Proofs.YtjjpakdlkjaigaaGreat
open Go.RowKit
def withC11 (l : List Int) (x : Int) : List Int × Int := if passB l = true ∧ placeB x = true then (if hasI l x = true then (l, (0 : Int)) else if l.length = 16 then ([], 801) else (insP l x, 0)) else ([], 800)
def foldC : List Int → List Int → List Int
 | acc, [] => acc
 | acc, x :: l => foldC (withC11 acc x).1 l
theorem foldC_eq : ∀ (l acc : List Int), foldW acc l = foldC acc l
 | [], _ => rfl
 | x :: l, acc => by
   unfold foldW foldC
   rw [show withP acc x = withC11 acc x from withP_def acc x, foldC_eq l]
def tickC (v : GView) : GView × List Int × Int := if viewB v = true then ((⟨v.id, leftP v.peers, foldC v.passive (lostP v.peers)⟩ : GView), namesP (leftP v.peers) ++ foldC v.passive (lostP v.peers), (0 : Int)) else (viewZ, [], 1100)
theorem tickC_eq (v : GView) : tickV v = tickC v := by
 rw [tickV_def, foldC_eq]
 rfl
end Go.Proofs.YtjjpakdlkjaigaaGreat

/- Chapter 19: node 100; awake. -/
namespace Go.Proofs.YtjjpakdlkjaigaaGreat
open Go.RowKit
def ownC (v : GView) (k : Int) : Int := if viewB v = true ∧ placeB k = true then (if rowMayB k (namesP v.peers ++ [v.id]) = true then minP k ((namesP v.peers ++ [v.id]).getD 0 0) ((namesP v.peers ++ [v.id]).drop 1) else 0) else 0
theorem ownC_eq (v : GView) (k : Int) : (ownV v k).1 = ownC v k := by
 rw [ownV_def, ownP_def, ownC]
 split
 · by_cases h : rowMayB k (namesP v.peers ++ [v.id]) = true
   · rw [if_pos ⟨h, by simp⟩, if_pos h]
   · rw [if_neg fun x => h x.1, if_neg h]
 · rfl
def succC (v : GView) : Int := if viewB v = true then (if v.peers.length = 0 then v.id else (namesP v.peers).getD 0 0) else 0
theorem succC_eq (v : GView) : (succV v).1 = succC v := by
 rw [succV_def, succC]
 split
 · split <;> rfl
 · rfl
def shareC (v : GView) : List GItem → List GMsg
 | [] => []
 | i :: l => (if (if ownC v i.key = v.id then succC v else ownC v i.key) = v.id then [] else [(⟨1, v.id, (if ownC v i.key = v.id then succC v else ownC v i.key), [], 0, i, false⟩ : GMsg)]) ++ shareC v l
theorem shareC_eq (v : GView) : ∀ l, shareL v l = shareC v l
 | [] => rfl
 | i :: l => by
   unfold shareL shareC toV
   rw [ownC_eq, succC_eq, shareC_eq v l]
def tickNC (x : GNode) : GNode × List GMsg × Int := if (x.up && nodeB x) = true then ((⟨x.up, (tickC x.view).1, x.items, x.log⟩ : GNode), helloL (tickC x.view).1 (tickC x.view).2.1 ++ (if (x.up && nodeB ⟨x.up, (tickC x.view).1, x.items, x.log⟩) = true then shareC (tickC x.view).1 x.items else []), (0 : Int)) else (nodeZ, [], 1900)
theorem tickNC_eq (x : GNode) : tickN x = tickNC x := by
 rw [tickN_def, shareN_def, tickC_eq, tickNC]
 split
 · congr 3
   split
   · exact shareC_eq _ _
   · rfl
 · rfl
end Go.Proofs.YtjjpakdlkjaigaaGreat

/- Plain law: two nodes, and what is done with them. -/
namespace Go.Proofs.YtjjpakdlkjaigaaGreat
open Go.RowKit
def x3 : GNode := ⟨true, ⟨3, [], [9]⟩, [⟨5, ⟨1, 3⟩, 7, false⟩], []⟩
def w2 : GWorld := ⟨[x3, upN 9], [], []⟩
def h39 : GMsg := ⟨0, 3, 9, [], 0, ⟨0, ⟨0, 0⟩, 0, false⟩, false⟩
def w2a : GWorld := ⟨[x3, upN 9], [], [h39]⟩
theorem w2_may : worldB w2 = true := by decide
theorem w2a_may : worldB w2a = true := by decide
theorem aw24_new : newW [3, 9] = (⟨[upN 3, upN 9], [], []⟩, 0) := newW_yes (by decide) (by decide) (by decide)
theorem aw24_t : tickN x3 = (x3, [h39], 0) := by rw [tickNC_eq]; decide
theorem aw24_known : knownV ⟨9, [], []⟩ 3 = ⟨9, [⟨3, 0⟩], []⟩ := by
 rw [knownV_def, if_neg (by decide), heardP_yes (by decide) (by decide) (by decide) (by decide) (by decide), withoutP_yes (by decide) (by decide)]
 decide
theorem aw24_h : handleN (upN 9) h39 = (⟨true, ⟨9, [⟨3, 0⟩], []⟩, [], []⟩, [], 0) := by
 rw [handle_0 (by decide) (by decide) (by decide) (by decide)]
 have e : helloV (upN 9).view h39.src h39.ids = (⟨9, [⟨3, 0⟩], []⟩, 0) := by
  rw [helloV_yes (by decide) (by decide) (by decide) (by decide) (by decide)]
  have e2 : knownV (upN 9).view h39.src = ⟨9, [⟨3, 0⟩], []⟩ := aw24_known
  rw [e2]
  rfl
 rw [e]
 rfl
theorem aw24_1 : doW w2 ⟨0, 3, 0, 0, [], 0, 0⟩ = (w2a, 0) := by
 have e : ndAt w2.nodes 3 = x3 := by decide
 have h : (tickN (ndAt w2.nodes 3)).2.2 = 0 := by rw [e, aw24_t]
 rw [do0_yes w2_may (by decide) rfl h]
 show ((sendW ⟨setNd w2.nodes 3 (tickN (ndAt w2.nodes 3)).1, w2.cuts, w2.packets⟩ (tickN (ndAt w2.nodes 3)).2.1).1, (0 : Int)) = _
 rw [e, aw24_t, sendW_yes (by decide) (by decide)]
 decide
theorem aw24_2 : doW w2a ⟨1, 0, 0, 1, [], 0, 0⟩ = (⟨[x3, ⟨true, ⟨9, [⟨3, 0⟩], []⟩, [], []⟩], [], []⟩, 0) := by
 have hp : w2a.packets.getD (pickP w2a ⟨1, 0, 0, 1, [], 0, 0⟩) default = h39 := by decide
 have e : ndAt w2a.nodes h39.dst = upN 9 := by decide
 rw [do1_yes w2a_may (by decide) rfl (by decide) (by rw [hp, isCt_yes (by decide)]; decide) (by rw [hp, e, aw24_h])]
 rw [hp, e, aw24_h, sendW_yes (by decide) (by decide)]
 decide
theorem aw24_3 : doW w2a ⟨2, 0, 0, 0, [], 0, 0⟩ = (w2, 0) := by
 rw [do2_yes w2a_may (by decide) rfl (by decide)]
 decide
theorem aw24_4 : doW w2 ⟨6, 3, 0, 0, [], 0, 0⟩ = (⟨[⟨false, ⟨3, [], []⟩, [], []⟩, upN 9], [], []⟩, 0) := by
 rw [do6 w2_may (by decide) rfl]
 decide
theorem aw24_5 : doW w2 ⟨0, 4, 0, 0, [], 0, 0⟩ = (worldZ, 2400) := doW_no (.inr (by decide))
theorem aw24_6 : doW w2 ⟨11, 0, 0, 0, [], 0, 0⟩ = (worldZ, 2400) := doW_no (.inr (by decide))
end Go.Proofs.YtjjpakdlkjaigaaGreat

/- Contracts: an act: may it be. -/
namespace Go.Proofs.YtjjpakdlkjaigaaGreat
open Go.RowKit
set_option maxRecDepth 20000
def dPAct : Dec GAct := ⟨fun x => match x with
 | .pt .any [.int .i64 a, .int .i64 b, .int .i64 c, .int .i64 d, .row .any (.ints ids), .int .i64 k, .int .i64 v] => some ⟨a, b, c, d, ids, k, v⟩
 | _ => none, fun m => .pt .any [.int .i64 m.kind, .int .i64 m.node, .int .i64 m.other, .int .i64 m.pick, .row .any (.ints m.ids), .int .i64 m.key, .int .i64 m.value], fun x a h => by
   split at h <;> simp at h; subst h; rfl⟩
theorem k_there : Known Tryz.prog tau 90 (S2 dPWorld dInt fun w x => .ob (RisingN w.nodes) (.bool (isNd w.nodes x)) []) := by
 refine known2 hmix tau_ok (ctx_cons k_wFind ctx_nil) (fn := Tryz.f90) (by kernel_rfl) [] (by kernel_rfl) _ _ _ fun w x hfit hs => ⟨rfl, [], ?_⟩
 clear hfit
 refine V1 ?_; constructor <;> (first | (with_reducible exact TT.i) | (intros; (repeat (apply Wk.mk; intro Kv hN hX hR)); apply Wr.mk))
 all_goals first
  | exact Ob.mk hs
  | rfl
abbrev thereCtx : List (FuncId × Spec) := [(90, S2 dPWorld dInt fun w x => .ob (RisingN w.nodes) (.bool (isNd w.nodes x)) [])]
noncomputable abbrev T_may1 : CallT := inlT tau (mkCtx thereCtx) [] [] Tryz.f91
theorem t_may1 : TrKnown Tryz.prog tau 91 T_may1 := inl_ok hmix tau_ok (ctx_cons k_there ctx_nil) (by kernel_rfl) [] (by kernel_rfl) []
noncomputable abbrev T_mIdx (L : List (Nat × Inv)) : CallT := inlT tau (addTr 91 T_may1 (mkCtx [])) [] L Tryz.f136
theorem t_mIdx (L : List (Nat × Inv)) : TrKnown Tryz.prog tau 136 (T_mIdx L) := inl_ok hmix tau_ok (ctx_tr t_may1 ctx_nil) (by kernel_rfl) [] (by kernel_rfl) L
noncomputable abbrev T_mCont (L : List (Nat × Inv)) : CallT := inlT tau (addTr 136 (T_mIdx L) (mkCtx [])) [] [] Tryz.f82
theorem t_mCont (L : List (Nat × Inv)) : TrKnown Tryz.prog tau 82 (T_mCont L) := inl_ok hmix tau_ok (ctx_tr (t_mIdx L) ctx_nil) (by kernel_rfl) [] (by kernel_rfl) []
def mayL (W : List Nat) (w : GWorld) (ids : List Int) : List (Nat × Inv) := [(2, invN W (fun i => i ≤ ids.length ∧ ∀ x ∈ ids.take i, isNd w.nodes x = true) (fun i => withS [(8, .int .i64 i)]) (fun i => ids.length - i))]
theorem act7 {w : GWorld} {a : GAct} (hk : a.kind = 7) (hn : isNd w.nodes a.node = true) (hl : a.ids.length ≤ 16) : actB w a = a.ids.all (isNd w.nodes) := by
 unfold actB
 rw [if_neg (by omega), if_neg (by omega), if_neg (by omega), if_pos hk, hn, decide_eq_true hl]
 rfl
set_option maxHeartbeats 4000000 in
theorem k_doerMay : Known Tryz.prog tau 36 (S2 dPWorld dPAct fun w a => .ob (RisingN w.nodes) (.bool (actB w a)) []) := by
 refine knownX2 hmix tau_ok (fn := Tryz.f36) (by kernel_rfl) [(6, [(0, 0), (1, 1), (2, 2), (3, 4), (4, 8), (5, 16), (6, 32), (7, 96), (8, 160), (9, 288), (10, 544), (11, 1056), (12, 2080), (13, 4096), (14, 4096), (15, 20480), (16, 36864), (17, 69632), (18, 143360), (19, 266240), (20, 528384)]), (11, [(0, 0), (1, 0), (2, 2), (3, 4), (4, 8), (5, 17), (6, 32), (7, 64), (8, 192), (9, 320), (10, 576), (11, 64), (12, 2112), (13, 4160), (14, 8256), (15, 17472), (16, 32832), (17, 131071)])] (by kernel_rfl) _ _ _ fun w a hfit hs => ⟨rfl, _, ctx_tr (t_mCont (mayL [4, 5, 8, 9, 10, 11, 12, 13, 14, 15, 16, 17, 18] w a.ids)) (ctx_cons k_there (ctx_cons k_Byte ctx_nil)), [], ?_⟩
 have hlen : a.ids.length * 8 ≤ 140737488355328 := hfit.2.1.2.2.2.2.1
 clear hfit
 (repeat' (first | ((with_reducible refine BdI ?_); (first | ((with_reducible refine SqI ?_ (fun Kv hN hX hR => ?_)); (next => exact rfl)) | ((with_reducible refine JnI ?_ ?_); (next => exact rfl)) | (conv => whnf))) | (with_reducible first | refine BdS (fun Kv hN hX hR => ?_) | refine Stop.mk ?_ | refine Join.mk ⟨fun Kv hN hX hR => ?_, ?_⟩ | refine DrawJ.each ?_ | exact SubJ.self _) | with_reducible refine SubJ.of ?_ | (with_reducible first | refine FlS (fun Kf hF => ?_) | refine FlN ?_ | refine NdS (fun Kg hG => ?_) | (refine hF _ _ ?_; clear hF; clear Kf) | (refine hG _ _ _ _ ?_; clear hG; clear Kg)) | ((with_reducible refine SqI ?_ (fun Kv hN hX hR => ?_)); (next => exact rfl)) | ((with_reducible refine JnI ?_ ?_); (next => exact rfl)) | ((with_reducible first | refine hN _ ?_ | refine hX _ _ ?_ | refine hR _ ?_); (try (clear hG; clear Kg)); clear hN hX hR; clear Kv) | ((conv => whnf); first | (with_reducible first | rfl | exact True.intro | refine (fun (_ : (_ : Prop)) => ?_) | refine And.intro ?_ ?_) | ((with_reducible first | refine hN _ ?_ | refine hX _ _ ?_ | refine hR _ ?_); (try (clear hG; clear Kg)); clear hN hX hR; clear Kv) | (with_reducible first | refine BdS (fun Kv hN hX hR => ?_) | refine Stop.mk ?_ | refine Join.mk ⟨fun Kv hN hX hR => ?_, ?_⟩ | refine DrawJ.each ?_ | exact SubJ.self _) | with_reducible refine SubJ.of ?_ | (with_reducible first | refine FlS (fun Kf hF => ?_) | refine FlN ?_ | refine NdS (fun Kg hG => ?_) | (refine hF _ _ ?_; clear hF; clear Kf) | (refine hG _ _ _ _ ?_; clear hG; clear Kg))))); all_goals (conv => whnf); all_goals (repeat ((try (clear hG; clear Kg)); clear hN hX hR; clear Kv))
 all_goals first
  | exact Ob.mk hs
  | (refine ⟨0, ⟨by omega, by simp⟩, ?_⟩
     (repeat' (first | ((with_reducible refine BdI ?_); (first | ((with_reducible refine SqI ?_ (fun Kv hN hX hR => ?_)); (next => exact rfl)) | ((with_reducible refine JnI ?_ ?_); (next => exact rfl)) | (conv => whnf))) | (with_reducible first | refine BdS (fun Kv hN hX hR => ?_) | refine Stop.mk ?_ | refine Join.mk ⟨fun Kv hN hX hR => ?_, ?_⟩ | refine DrawJ.each ?_ | exact SubJ.self _) | with_reducible refine SubJ.of ?_ | (with_reducible first | refine FlS (fun Kf hF => ?_) | refine FlN ?_ | refine NdS (fun Kg hG => ?_) | (refine hF _ _ ?_; clear hF; clear Kf) | (refine hG _ _ _ _ ?_; clear hG; clear Kg)) | ((with_reducible refine SqI ?_ (fun Kv hN hX hR => ?_)); (next => exact rfl)) | ((with_reducible refine JnI ?_ ?_); (next => exact rfl)) | ((with_reducible first | refine hN _ ?_ | refine hX _ _ ?_ | refine hR _ ?_); (try (clear hG; clear Kg)); clear hN hX hR; clear Kv) | ((conv => whnf); first | (with_reducible first | rfl | exact True.intro | intro _ | refine And.intro ?_ ?_) | ((with_reducible first | refine hN _ ?_ | refine hX _ _ ?_ | refine hR _ ?_); (try (clear hG; clear Kg)); clear hN hX hR; clear Kv) | (with_reducible first | refine BdS (fun Kv hN hX hR => ?_) | refine Stop.mk ?_ | refine Join.mk ⟨fun Kv hN hX hR => ?_, ?_⟩ | refine DrawJ.each ?_ | exact SubJ.self _) | with_reducible refine SubJ.of ?_ | (with_reducible first | refine FlS (fun Kf hF => ?_) | refine FlN ?_ | refine NdS (fun Kg hG => ?_) | (refine hF _ _ ?_; clear hF; clear Kf) | (refine hG _ _ _ _ ?_; clear hG; clear Kg))))); all_goals (conv => whnf); all_goals (repeat ((try (clear hG; clear Kg)); clear hN hX hR; clear Kv))
     all_goals rfl)
  | (with_reducible intro i hi
     (repeat' (first | ((with_reducible refine BdI ?_); (first | ((with_reducible refine SqI ?_ (fun Kv hN hX hR => ?_)); (next => exact rfl)) | ((with_reducible refine JnI ?_ ?_); (next => exact rfl)) | (conv => whnf))) | (with_reducible first | refine BdS (fun Kv hN hX hR => ?_) | refine Stop.mk ?_ | refine Join.mk ⟨fun Kv hN hX hR => ?_, ?_⟩ | refine DrawJ.each ?_ | exact SubJ.self _) | with_reducible refine SubJ.of ?_ | (with_reducible first | refine FlS (fun Kf hF => ?_) | refine FlN ?_ | refine NdS (fun Kg hG => ?_) | (refine hF _ _ ?_; clear hF; clear Kf) | (refine hG _ _ _ _ ?_; clear hG; clear Kg)) | ((with_reducible refine SqI ?_ (fun Kv hN hX hR => ?_)); (next => exact rfl)) | ((with_reducible refine JnI ?_ ?_); (next => exact rfl)) | ((with_reducible first | refine hN _ ?_ | refine hX _ _ ?_ | refine hR _ ?_); (try (clear hG; clear Kg)); clear hN hX hR; clear Kv) | ((conv => whnf); first | (with_reducible first | rfl | exact True.intro | intro _ | refine And.intro ?_ ?_) | ((with_reducible first | refine hN _ ?_ | refine hX _ _ ?_ | refine hR _ ?_); (try (clear hG; clear Kg)); clear hN hX hR; clear Kv) | (with_reducible first | refine BdS (fun Kv hN hX hR => ?_) | refine Stop.mk ?_ | refine Join.mk ⟨fun Kv hN hX hR => ?_, ?_⟩ | refine DrawJ.each ?_ | exact SubJ.self _) | with_reducible refine SubJ.of ?_ | (with_reducible first | refine FlS (fun Kf hF => ?_) | refine FlN ?_ | refine NdS (fun Kg hG => ?_) | (refine hF _ _ ?_; clear hF; clear Kf) | (refine hG _ _ _ _ ?_; clear hG; clear Kg))))); all_goals (conv => whnf); all_goals (repeat ((try (clear hG; clear Kg)); clear hN hX hR; clear Kv))
     all_goals (try simp only [Int.toNat_natCast] at *)
     all_goals first
      | exact Ob.mk ⟨by omega, of_decide_eq_true aQ⟩
      | exact Ob.mk hs
      | (have hk := of_decide_eq_true (show decide (a.kind = 7) = true by with_reducible assumption)
         have hn := nt (show (!isNd w.nodes a.node) = false by with_reducible assumption)
         have hl := of_decide_eq_true (show decide ((a.ids.length : Int) ≤ 16) = true by with_reducible assumption)
         have e7 := act7 hk hn (by omega)
         first
          | (have h := of_decide_eq_true (show decide ((i : Int) < (a.ids.length : Nat)) = true by with_reducible assumption)
             first
              | (have h3 := nf (show (!isNd w.nodes (a.ids.getD i 0)) = true by with_reducible assumption)
                 rw [e7, List.all_eq_false.2 ⟨_, getD_mem (d := 0) (show i < a.ids.length by omega), by rw [h3]; simp⟩, decide_eq_true (show (0 : Int) ≤ (i : Int) by omega)]
                 rfl)
              | (have h3 := nt (show (!isNd w.nodes (a.ids.getD i 0)) = false by with_reducible assumption)
                 refine ⟨i + 1, ⟨by omega, all_take_succ (d := 0) (by omega) hi.2 h3⟩, by omega, ?_⟩
                 (repeat' (first | ((with_reducible refine BdI ?_); (first | ((with_reducible refine SqI ?_ (fun Kv hN hX hR => ?_)); (next => exact rfl)) | ((with_reducible refine JnI ?_ ?_); (next => exact rfl)) | (conv => whnf))) | (with_reducible first | refine BdS (fun Kv hN hX hR => ?_) | refine Stop.mk ?_ | refine Join.mk ⟨fun Kv hN hX hR => ?_, ?_⟩ | refine DrawJ.each ?_ | exact SubJ.self _) | with_reducible refine SubJ.of ?_ | (with_reducible first | refine FlS (fun Kf hF => ?_) | refine FlN ?_ | refine NdS (fun Kg hG => ?_) | (refine hF _ _ ?_; clear hF; clear Kf) | (refine hG _ _ _ _ ?_; clear hG; clear Kg)) | ((with_reducible refine SqI ?_ (fun Kv hN hX hR => ?_)); (next => exact rfl)) | ((with_reducible refine JnI ?_ ?_); (next => exact rfl)) | ((with_reducible first | refine hN _ ?_ | refine hX _ _ ?_ | refine hR _ ?_); (try (clear hG; clear Kg)); clear hN hX hR; clear Kv) | ((conv => whnf); first | (with_reducible first | rfl | exact True.intro | intro _ | refine And.intro ?_ ?_) | ((with_reducible first | refine hN _ ?_ | refine hX _ _ ?_ | refine hR _ ?_); (try (clear hG; clear Kg)); clear hN hX hR; clear Kv) | (with_reducible first | refine BdS (fun Kv hN hX hR => ?_) | refine Stop.mk ?_ | refine Join.mk ⟨fun Kv hN hX hR => ?_, ?_⟩ | refine DrawJ.each ?_ | exact SubJ.self _) | with_reducible refine SubJ.of ?_ | (with_reducible first | refine FlS (fun Kf hF => ?_) | refine FlN ?_ | refine NdS (fun Kg hG => ?_) | (refine hF _ _ ?_; clear hF; clear Kf) | (refine hG _ _ _ _ ?_; clear hG; clear Kg))))); all_goals (conv => whnf); all_goals (repeat ((try (clear hG; clear Kg)); clear hN hX hR; clear Kv))
                 all_goals first
                  | exact wrapI (by omega) (by omega)
                  | rfl))
          | (have h := of_decide_eq_false (show decide ((i : Int) < (a.ids.length : Nat)) = false by with_reducible assumption)
             have h2 := hi.2
             rw [List.take_of_length_le (by omega)] at h2
             rw [e7, List.all_eq_true.2 h2]
             rfl)))
  | (unfold actB; simp_all; done)
  | (unfold actB; simp_all; omega)
end Go.Proofs.YtjjpakdlkjaigaaGreat

/- Contracts: an act. -/
namespace Go.Proofs.YtjjpakdlkjaigaaGreat
open Go.RowKit
noncomputable abbrev T_dNode : CallT := inlT tau (mkCtx [(85, S2 dPWorld dInt fun w x => .ob (RisingN w.nodes) (.tup [.int .i64 (cntNd w.nodes x), .bool (isNd w.nodes x)]) [])]) [(1, [(0, 0), (1, 1), (2, 2), (3, 0), (4, 8), (5, 16), (6, 32), (7, 68), (8, 128), (9, 256), (10, 256), (11, 1023), (12, 4095)])] [] Tryz.f93
theorem t_dNode : TrKnown Tryz.prog tau 93 T_dNode := inl_ok hmix tau_ok (ctx_cons k_wFind ctx_nil) (by kernel_rfl) _ (by kernel_rfl) []
noncomputable abbrev T_dSend : CallT := inlT tau (mkCtx [(149, S2 dWorld dMsgs oSendW)]) [] [] Tryz.f95
theorem t_dSend : TrKnown Tryz.prog tau 95 T_dSend := inl_ok hmix tau_ok (ctx_cons k_worldSend ctx_nil) (by kernel_rfl) _ (by kernel_rfl) []
noncomputable abbrev T_dPicked : CallT := inlT tau (mkCtx [(150, S2 dMsgs dInt oTake)]) [(3, [(0, 0), (1, 1), (2, 2), (3, 4), (4, 8), (5, 0), (6, 32), (7, 64), (8, 128), (9, 0), (10, 512), (11, 1024), (12, 2048), (13, 4096), (14, 8192), (15, 16640), (16, 32784), (17, 65536), (18, 131072), (19, 131072), (20, 131072), (21, 0), (22, 2621439), (23, 7340031), (24, 16777215)])] [] Tryz.f96
theorem t_dPicked : TrKnown Tryz.prog tau 96 T_dPicked := inl_ok hmix tau_ok (ctx_cons k_Take ctx_nil) (by kernel_rfl) _ (by kernel_rfl) []
theorem t_dTick : TrKnown Tryz.prog tau 37 (inlT tau (addTr 93 T_dNode (addTr 95 T_dSend (mkCtx [(94, S1 dNode oTick)]))) [] [] Tryz.f37) := inl_ok hmix tau_ok (ctx_tr t_dNode (ctx_tr t_dSend (ctx_cons k_tickStep ctx_nil))) (by kernel_rfl) _ (by kernel_rfl) []
theorem t_dDeliver : TrKnown Tryz.prog tau 38 (inlT tau (addTr 93 T_dNode (addTr 95 T_dSend (addTr 96 T_dPicked (mkCtx [(98, S2 dNode dMsg oHandle), (97, S3 dCuts dInt dInt oIsCt)])))) [(3, [(0, 0), (1, 1), (2, 2), (3, 4), (4, 8), (5, 0), (6, 32), (7, 0), (8, 128), (9, 336), (10, 512), (11, 1024), (12, 1024), (13, 4095), (14, 16383)]), (6, [(0, 0), (1, 1), (2, 2), (3, 0), (4, 12), (5, 16), (6, 32), (7, 32), (8, 32), (9, 0), (10, 639), (11, 1791), (12, 4095)])] [] Tryz.f38) := inl_ok hmix tau_ok (ctx_tr t_dNode (ctx_tr t_dSend (ctx_tr t_dPicked (ctx_cons k_handle (ctx_cons k_isCt ctx_nil))))) (by kernel_rfl) _ (by kernel_rfl) []
theorem t_dLose : TrKnown Tryz.prog tau 39 (inlT tau (addTr 96 T_dPicked (mkCtx [])) [] [] Tryz.f39) := inl_ok hmix tau_ok (ctx_tr t_dPicked ctx_nil) (by kernel_rfl) _ (by kernel_rfl) []
theorem t_dTwice : TrKnown Tryz.prog tau 40 (inlT tau (addTr 95 T_dSend (addTr 96 T_dPicked (mkCtx []))) [] [] Tryz.f40) := inl_ok hmix tau_ok (ctx_tr t_dSend (ctx_tr t_dPicked ctx_nil)) (by kernel_rfl) _ (by kernel_rfl) []
theorem t_dCut : TrKnown Tryz.prog tau 41 (inlT tau (mkCtx [(99, S3 dCuts dInt dInt oWithCt)]) [(0, [(0, 0), (1, 1), (2, 2), (3, 4), (4, 8), (5, 0), (6, 32), (7, 64), (8, 128), (9, 0), (10, 512), (11, 1024), (12, 2048), (13, 4368), (14, 8192), (15, 16384), (16, 16384), (17, 65535), (18, 262143)])] [] Tryz.f41) := inl_ok hmix tau_ok (ctx_cons k_withCt ctx_nil) (by kernel_rfl) _ (by kernel_rfl) []
theorem t_dHeal : TrKnown Tryz.prog tau 42 (inlT tau (mkCtx [(100, S3 dCuts dInt dInt oOutCt)]) [(0, [(0, 0), (1, 0), (2, 2), (3, 4), (4, 8), (5, 16), (6, 0), (7, 64), (8, 128), (9, 256), (10, 0), (11, 1024), (12, 2048), (13, 4096), (14, 8736), (15, 16384), (16, 32768), (17, 32768), (18, 131071), (19, 393215), (20, 655359), (21, 1179647)])] [] Tryz.f42) := inl_ok hmix tau_ok (ctx_cons k_outCt ctx_nil) (by kernel_rfl) _ (by kernel_rfl) []
theorem t_dCrash : TrKnown Tryz.prog tau 43 (inlT tau (addTr 93 T_dNode (mkCtx [])) [(0, [(0, 0), (1, 0), (2, 3), (3, 0), (4, 8), (5, 16), (6, 32), (7, 64), (8, 128), (9, 511), (10, 1023)])] [] Tryz.f43) := inl_ok hmix tau_ok (ctx_tr t_dNode ctx_nil) (by kernel_rfl) _ (by kernel_rfl) []
theorem t_dStart : TrKnown Tryz.prog tau 44 (inlT tau (addTr 93 T_dNode (mkCtx [(101, S2 dInt dInts fun id ids => .ok (.tup [.agg (nNew (newN id ids).1), .int .i64 (newN id ids).2]) [.ints (newN id ids).1.view.passive])])) [(2, [(0, 0), (1, 0), (2, 2), (3, 4), (4, 8), (5, 0), (6, 32), (7, 64), (8, 128), (9, 272), (10, 512), (11, 1024), (12, 1024), (13, 4095), (14, 12287)])] [] Tryz.f44) := inl_ok hmix tau_ok (ctx_tr t_dNode (ctx_cons k_New ctx_nil)) (by kernel_rfl) _ (by kernel_rfl) []
theorem t_dPut : TrKnown Tryz.prog tau 45 (inlT tau (addTr 93 T_dNode (mkCtx [(102, S3 dNode dInt dInt fun x k v => oWrote x ⟨k, ⟨0, 0⟩, v, false⟩)])) [(1, [(0, 0), (1, 1), (2, 2), (3, 0), (4, 8), (5, 16), (6, 32), (7, 0), (8, 128), (9, 256), (10, 512), (11, 1092), (12, 2048), (13, 4096), (14, 4096), (15, 0), (16, 49151), (17, 131071)])] [] Tryz.f45) := inl_ok hmix tau_ok (ctx_tr t_dNode (ctx_cons k_writePut ctx_nil)) (by kernel_rfl) _ (by kernel_rfl) []
theorem t_dDrop : TrKnown Tryz.prog tau 46 (inlT tau (addTr 93 T_dNode (mkCtx [(103, S2 dNode dInt fun x k => oWrote x ⟨k, ⟨0, 0⟩, 0, true⟩)])) [(1, [(0, 0), (1, 1), (2, 2), (3, 0), (4, 8), (5, 16), (6, 32), (7, 68), (8, 128), (9, 256), (10, 256), (11, 0), (12, 3071), (13, 8191)])] [] Tryz.f46) := inl_ok hmix tau_ok (ctx_tr t_dNode (ctx_cons k_writeDrop ctx_nil)) (by kernel_rfl) _ (by kernel_rfl) []
theorem t_dGet : TrKnown Tryz.prog tau 47 (inlT tau (addTr 93 T_dNode (addTr 95 T_dSend (mkCtx [(104, S2 dNode dInt oAskN)]))) [(1, [(0, 0), (1, 1), (2, 2), (3, 0), (4, 8), (5, 16), (6, 32), (7, 68), (8, 128), (9, 256), (10, 256), (11, 256), (12, 0), (13, 5119), (14, 14335), (15, 32767)])] [] Tryz.f47) := inl_ok hmix tau_ok (ctx_tr t_dNode (ctx_tr t_dSend (ctx_cons k_askGet ctx_nil))) (by kernel_rfl) _ (by kernel_rfl) []
theorem etaAct (a : GAct) : (⟨a.kind, a.node, a.other, a.pick, a.ids, a.key, a.value⟩ : GAct) = a := rfl
end Go.Proofs.YtjjpakdlkjaigaaGreat

/- Contracts: an act of kind 0. -/
namespace Go.Proofs.YtjjpakdlkjaigaaGreat
open Go.RowKit
set_option maxRecDepth 20000
set_option maxHeartbeats 4000000 in
theorem m_Do0 (w : GWorld) (node other pick : Int) (ids : List Int) (key value : Int) : Meets Tryz.prog tau [] Tryz.f13 [dWorld.e w, dAct.e ⟨0, node, other, pick, ids, key, value⟩] (oDo w ⟨0, node, other, pick, ids, key, value⟩) := by
 refine fun hfit => ⟨rfl, _, ctx_tr t_dTick (ctx_cons k_worldMay (ctx_cons k_worldCopy (ctx_cons k_doerMay ctx_nil))), [], ?_⟩
 clear hfit
 refine V1 ?_; constructor <;> (first | (with_reducible exact TT.i) | (intros; (repeat (apply Wk.mk; intro Kv hN hX hR)); apply Wr.mk))
 all_goals (try simp only [etaWorld, etaNd, etaMsg, ndAt_fold, setNd_fold, decide_eq_true_eq, decide_eq_false_iff_not] at *)
 all_goals first
  | (rw [doW_no (.inl (nf aQ))] <;> rfl)
  | (rw [doW_no (.inr (nf aQ))] <;> rfl)
  | (have hw : worldB w = true := nt aQ
     have hr := base_rising (worldB_base.1 hw).1
     first
      | exact Ob.mk hr
      | (have ha := nt (show (!actB w ⟨0, node, other, pick, ids, key, value⟩) = false by with_reducible assumption)
         first
          | exact Ob.mk ⟨by decide, by decide⟩
          | (have hid : isNd w.nodes node = true := act_node ha (by simp)
             have hx := (ndX_at hr hid).1
             unfold ndX at hx
             exact Ob.mk ⟨by unfold cntNd; omega, by unfold cntNd; omega⟩)
          | (have h0 : (tickN (ndAt w.nodes node)).2.2 = 0 := by with_reducible assumption
             rw [do0_yes hw ha rfl h0] <;> rfl)
          | (have h0 : ¬ (tickN (ndAt w.nodes node)).2.2 = 0 := by with_reducible assumption
             rw [do0_no hw ha rfl h0] <;> rfl)))
end Go.Proofs.YtjjpakdlkjaigaaGreat
