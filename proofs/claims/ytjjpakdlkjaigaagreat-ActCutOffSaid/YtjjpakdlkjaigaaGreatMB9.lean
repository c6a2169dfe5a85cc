/- A part of the proof of a law: F4, InsItems, F5, F17, F1m, F21, F22, F23a, F23b, F2m, G12, G12b, ClMsgs, DelMsgs, F14a, F14b. -/
import Derived.Test.YtjjpakdlkjaigaaGreatMB8
import Derived.Shelf.RegionOpenPlain
import Derived.WalkKit
import Derived.Deep.LoopGhost
import Derived.Deep.RegionLaw
import Derived.Lib.Walk
import Derived.Lib.SliceRun
import Derived.Lib.AppendZeros
import Derived.Lib.AppendZerosOnto
import Derived.Maps.AppendAt
import Derived.Laws.AppendOwn
import Derived.Conc.AppendEvents2
set_option linter.all false
set_option linter.unusedVariables false
set_option linter.unusedSimpArgs false
set_option linter.unusedSectionVars false
/- Contracts: the best of two items. -/
namespace Go.Proofs.YtjjpakdlkjaigaaGreat
open Go.RowKit
set_option maxRecDepth 20000
def newerB (a b : GVer) : Bool := decide (b.count < a.count) || (decide (a.count = b.count) && decide (b.writer < a.writer))
noncomputable def newV (a b : GVer) : Bool × Int := Classical.choose (seal_ex (if verB a = true ∧ verB b = true then (newerB a b, (0 : Int)) else (false, 300)))
theorem newV_def (a b : GVer) : newV a b = if verB a = true ∧ verB b = true then (newerB a b, (0 : Int)) else (false, 300) := Classical.choose_spec (seal_ex _)
theorem newV_no {a b : GVer} (h : verB a = false ∨ verB b = false) : newV a b = (false, 300) := by
 rw [newV_def, if_neg]
 rintro ⟨h1, h2⟩
 rcases h with h | h <;> simp_all
theorem newV_yes {a b : GVer} (h1 : verB a = true) (h2 : verB b = true) : newV a b = (newerB a b, 0) := by rw [newV_def, if_pos ⟨h1, h2⟩]
noncomputable def oNewer (a b : GVer) : Out := .ok (.tup [.bool (newV a b).1, .int .i64 (newV a b).2]) []
theorem etaVer (v : GVer) : (⟨v.count, v.writer⟩ : GVer) = v := rfl
theorem k_newer : Known Tryz.prog tau 247 (S2 dVer dVer oNewer) := by
 refine known2 hmix tau_ok (ctx_cons k_VerMay ctx_nil) (fn := Tryz.f247) (by kernel_rfl) [] (by kernel_rfl) _ _ _ fun a b hfit => ⟨rfl, [], ?_⟩
 clear hfit
 refine V1 ?_; constructor <;> (first | (with_reducible exact TT.i) | (intros; (repeat (apply Wk.mk; intro Kv hN hX hR)); apply Wr.mk))
 all_goals (try simp only [etaVer] at *)
 all_goals first
  | (rw [newV_no (.inl (nf aQ))] <;> rfl)
  | (rw [newV_no (.inr (nf aQ))] <;> rfl)
  | (rw [newV_yes (nt aQ) (nt aQ)]; done)
  | (rw [newV_yes (nt aQ) (nt aQ)]
     simp only [newerB]
     first
      | rfl
      | (simp_all; done)
      | (simp_all; omega))
theorem k_refNewer : Known Tryz.prog tau 206 (S2 dVer dVer oNewer) := by
 refine known2 hmix tau_ok (ctx_cons k_refVer ctx_nil) (fn := Tryz.f206) (by kernel_rfl) [] (by kernel_rfl) _ _ _ fun a b hfit => ⟨rfl, [], ?_⟩
 clear hfit
 refine V1 ?_; constructor <;> (first | (with_reducible exact TT.i) | (intros; (repeat (apply Wk.mk; intro Kv hN hX hR)); apply Wr.mk))
 all_goals (try simp only [etaVer] at *)
 all_goals first
  | (rw [newV_no (.inl (nf aQ))] <;> rfl)
  | (rw [newV_no (.inr (nf aQ))] <;> rfl)
  | (rw [newV_yes (nt aQ) (nt aQ)]; done)
  | (rw [newV_yes (nt aQ) (nt aQ)]
     simp only [newerB]
     first
      | rfl
      | (simp_all; done)
      | (simp_all; omega))
def dPItem : Dec GItem := ⟨fun x => match x with
 | .pt .any [.int .i64 k, .int .i64 c, .int .i64 w, .int .i64 v, .bool g] => some ⟨k, ⟨c, w⟩, v, g⟩
 | _ => none, fun i => .pt .any [.int .i64 i.key, .int .i64 i.ver.count, .int .i64 i.ver.writer, .int .i64 i.value, .bool i.gone], fun x a h => by
   split at h <;> simp at h; subst h; rfl⟩
def betterB (a b : GItem) : Bool := if a.ver.count = b.ver.count ∧ a.ver.writer = b.ver.writer then (if a.gone = b.gone then decide (b.value < a.value) else a.gone) else newerB a.ver b.ver
theorem k_better : Known Tryz.prog tau 236 (S2 dPItem dPItem fun a b => .ob (verB a.ver = true ∧ verB b.ver = true) (.bool (betterB a b)) []) := by
 refine known2 hmix tau_ok (ctx_cons k_newer ctx_nil) (fn := Tryz.f236) (by kernel_rfl) [(1, [(0, 0), (1, 1), (2, 2), (3, 4), (4, 0), (5, 16), (6, 32), (7, 64), (8, 136)]), (2, [(0, 0), (1, 1), (2, 2), (3, 4), (4, 0), (5, 16), (6, 32), (7, 64), (8, 136), (9, 256), (10, 512), (11, 512), (12, 2047), (13, 8191)]), (4, [(0, 0), (1, 1), (2, 2), (3, 4), (4, 0), (5, 16), (6, 32), (7, 64), (8, 136)]), (6, [(0, 0), (1, 1), (2, 2), (3, 4), (4, 0), (5, 16), (6, 32), (7, 64), (8, 136), (9, 511)])] (by kernel_rfl) _ _ _ fun a b hfit hs => ⟨rfl, [], ?_⟩
 clear hfit
 have e0 := newV_yes hs.1 hs.2
 refine V1 ?_; constructor <;> (first | (with_reducible exact TT.i) | (intros; (repeat (apply Wk.mk; intro Kv hN hX hR)); apply Wr.mk))
 all_goals (try simp only [etaVer] at *)
 all_goals first
  | rfl
  | (rw [e0]
     unfold betterB
     have h := nf (b := decide (a.ver.count = b.ver.count) && decide (a.ver.writer = b.ver.writer)) aQ
     rw [if_neg (by simpa using h)]
     done)
  | (unfold betterB; simp_all; done)
noncomputable def bestI (a b : GItem) : GItem × Int := Classical.choose (seal_ex (if itemB a = true ∧ itemB b = true ∧ a.key = b.key then (if betterB a b = true then (a, (0 : Int)) else (b, 0)) else (iZ, 400)))
theorem bestI_def (a b : GItem) : bestI a b = if itemB a = true ∧ itemB b = true ∧ a.key = b.key then (if betterB a b = true then (a, (0 : Int)) else (b, 0)) else (iZ, 400) := Classical.choose_spec (seal_ex _)
theorem bestI_no {a b : GItem} (h : itemB a = false ∨ itemB b = false ∨ a.key ≠ b.key) : bestI a b = (iZ, 400) := by
 rw [bestI_def, if_neg]
 rintro ⟨h1, h2, h3⟩
 rcases h with h | h | h <;> simp_all
theorem bestI_yes {a b : GItem} (h1 : itemB a = true) (h2 : itemB b = true) (h3 : a.key = b.key) : bestI a b = if betterB a b = true then (a, 0) else (b, 0) := by rw [bestI_def, if_pos ⟨h1, h2, h3⟩]
theorem itemB_ver {a : GItem} (h : itemB a = true) : verB a.ver = true := by
 simp only [itemB, Bool.and_eq_true] at h
 exact h.2.2.1
noncomputable def oBest (a b : GItem) : Out := .ok (.tup [dItem.e (bestI a b).1, .int .i64 (bestI a b).2]) []
theorem k_best : Known Tryz.prog tau 223 (S2 dItem dItem oBest) := by
 refine known2 hmix tau_ok (ctx_cons k_ItemMay (ctx_cons k_better ctx_nil)) (fn := Tryz.f223) (by kernel_rfl) [] (by kernel_rfl) _ _ _ fun a b hfit => ⟨rfl, [], ?_⟩
 clear hfit
 refine V1 ?_; constructor <;> (first | (with_reducible exact TT.i) | (intros; (repeat (apply Wk.mk; intro Kv hN hX hR)); apply Wr.mk))
 all_goals (try simp only [etaItem] at *)
 all_goals first
  | (rw [bestI_no (.inl (nf aQ))] <;> rfl)
  | (rw [bestI_no (.inr (.inl (nf aQ)))] <;> rfl)
  | (have h3 := of_decide_eq_false (nf (b := decide (a.key = b.key)) aQ)
     rw [bestI_no (.inr (.inr h3))] <;> rfl)
  | (have h1 := nt (show (!itemB a) = false by with_reducible assumption)
     have h2 := nt (show (!itemB b) = false by with_reducible assumption)
     have h3 := of_decide_eq_true (nt (b := decide (a.key = b.key)) aQ)
     first
      | exact Ob.mk ⟨itemB_ver h1, itemB_ver h2⟩
      | (rw [bestI_yes h1 h2 h3, if_pos aQ] <;> rfl)
      | (have h4 : betterB a b = false := by with_reducible assumption
         rw [bestI_yes h1 h2 h3, if_neg (by rw [h4]; simp)] <;> rfl))
theorem itemB_gone {a : GItem} (h : itemB a = true) : a.gone = true → a.value = 0 := by
 intro hg
 simp only [itemB, Bool.and_eq_true] at h
 have := h.2.2.2
 rw [hg] at this
 simpa using this
theorem best_ref {a b : GItem} (ha : itemB a = true) (hb : itemB b = true) : betterB a b = (newerB a.ver b.ver || !(!(decide (a.ver.count = b.ver.count) && decide (a.ver.writer = b.ver.writer)) || (b.gone || (!a.gone && decide (a.value ≤ b.value))))) := by
 have ga := itemB_gone ha
 have gb := itemB_gone hb
 unfold betterB newerB
 by_cases h1 : a.ver.count = b.ver.count
 · by_cases h2 : a.ver.writer = b.ver.writer
   · rw [if_pos ⟨h1, h2⟩, decide_eq_true h1, decide_eq_true h2, h1, h2]
     cases hg : a.gone <;> cases hh : b.gone
     · by_cases h3 : a.value ≤ b.value
       · simp [h3]
       · simp [h3]; omega
     · simp
     · simp
     · rw [ga hg, gb hh]
       simp
   · rw [if_neg (fun e => h2 e.2), decide_eq_false h2]
     simp
 · rw [if_neg (fun e => h1 e.1), decide_eq_false h1]
   simp
theorem k_refBest : Known Tryz.prog tau 175 (S2 dItem dItem oBest) := by
 refine known2 hmix tau_ok (ctx_cons k_refItem (ctx_cons k_refNewer ctx_nil)) (fn := Tryz.f175) (by kernel_rfl) [] (by kernel_rfl) _ _ _ fun a b hfit => ⟨rfl, [], ?_⟩
 clear hfit
 refine V1 ?_; constructor <;> (first | (with_reducible exact TT.i) | (intros; (repeat (apply Wk.mk; intro Kv hN hX hR)); apply Wr.mk))
 all_goals (try simp only [etaItem, etaVer] at *)
 all_goals first
  | (rw [bestI_no (.inl (nf aQ))] <;> rfl)
  | (rw [bestI_no (.inr (.inl (nf aQ)))] <;> rfl)
  | (have h3 := of_decide_eq_false (nf (b := decide (a.key = b.key)) aQ)
     rw [bestI_no (.inr (.inr h3))] <;> rfl)
  | (have h1 := nt (show (!itemB a) = false by with_reducible assumption)
     have h2 := nt (show (!itemB b) = false by with_reducible assumption)
     have h3 := of_decide_eq_true (nt (b := decide (a.key = b.key)) aQ)
     have e0 := newV_yes (itemB_ver h1) (itemB_ver h2)
     have e1 := best_ref h1 h2
     simp only [e0] at *
     rw [bestI_yes h1 h2 h3]
     first
      | (have g : newerB a.ver b.ver = true := by with_reducible assumption
         rw [if_pos (by rw [e1, g]; rfl)] <;> rfl)
      | (have g : newerB a.ver b.ver = false := by with_reducible assumption
         first
          | (have g2 : (!(decide (a.ver.count = b.ver.count) && decide (a.ver.writer = b.ver.writer))) = true := by with_reducible assumption
             rw [if_neg (by rw [e1, g, g2]; simp)] <;> rfl)
          | (have g2 : (!(decide (a.ver.count = b.ver.count) && decide (a.ver.writer = b.ver.writer))) = false := by with_reducible assumption
             first
              | (have g3 : b.gone = true := by with_reducible assumption
                 rw [if_neg (by rw [e1, g, g2, g3]; simp)] <;> rfl)
              | (have g3 : b.gone = false := by with_reducible assumption
                 first
                  | (have g4 : a.gone = true := nt aQ
                     rw [if_pos (by rw [e1, g, g2, g3, g4]; rfl)] <;> rfl)
                  | (have g4 : a.gone = false := nf aQ
                     first
                      | (have g5 : decide (a.value ≤ b.value) = true := by with_reducible assumption
                         rw [if_neg (by rw [e1, g, g2, g3, g4, g5]; simp)] <;> rfl)
                      | (have g5 : decide (a.value ≤ b.value) = false := by with_reducible assumption
                         rw [if_pos (by rw [e1, g, g2, g3, g4, g5]; rfl)] <;> rfl))))))
end Go.Proofs.YtjjpakdlkjaigaaGreat

/- slices.Insert at one type, one element: its walk. -/
namespace Go.Proofs.YtjjpakdlkjaigaaGreat
open Go.RowKit Go.Sort
set_option maxHeartbeats 4000000 in
set_option maxRecDepth 1000000 in
theorem i_endItems (base n : Nat) (v v2 : Value) (us vs : List Value) (w : World) (hr : w.ownsRow base 64 5 v n us) (hr2 : w.ownsRow base 64 5 v2 1 vs) (hbig : (n + 1) * 40 ≤ 140737488355328) (hv : ∀ u ∈ vs, u.oneCell' = true) (hbase : base ≤ w.heap.size) :
  Calls Tryz.prog 224 #[v, .int .i64 n, v2] w fun x w' => ∃ v', x = .returned v' ∧ w'.ownsRow base 64 5 v' (n + 1) (us ++ vs) ∧ w.grownBy w' v.ownBlock ∧ (v'.ownBlock = v.ownBlock ∨ ∃ g, v'.ownBlock = some g ∧ w.heap.size ≤ g) := by
 obtain ⟨hk10, het, ti, hti, hsz, hby, _⟩ := tau_ok.rk 64 4 (by kernel_rfl)
 obtain ⟨x0, z, g1, g2, g3, g4, g5, g6⟩ := (tau_ok.ti _ ti hti).info
 have g2 : x0.size = 5 := g2.trans hsz
 have g3 : x0.bytes = 40 := g3.trans hby
 have g5 : z.cells.size = 5 := g5.trans hsz
 clear hk10 het g6
 have t22 : Tryz.prog.underlying 49 = some (.slice 64) := Tryz.underlying49
 have mixed := hmix
 have h63 : n + 1 ≤ maxLen := by unfold maxLen; omega
 rcases hr2.2 with ⟨_, h0⟩ | ⟨g', cap', cur', rfl, hb', hh', hn', hm', hs', ht'⟩
 · omega
 have hnews : ∀ j u, vs[j]? = some u → w.cell? ((⟨g', 0, none⟩ : Addr).add j) = some u := hr2.cells (g := g') rfl
 have hl : vs.length = 1 * 5 := hr2.1
 have HN : Hid (∀ j u, vs[j]? = some u → w.cell? ((⟨g', 0, none⟩ : Addr).add j) = some u) := hnews
 have HV : Hid (∀ u ∈ vs, u.oneCell' = true) := hv
 have HR : Hid (w.ownsRow base 64 5 v n us) := hr
 have hcm : n ≤ 9223372036854775807 := by omega
 rcases hr.2 with ⟨rfl, h0⟩ | ⟨g, cap, cur, rfl, hb, hh, hnc, hm, hs, ht⟩
 · subst h0
   clear hr2 hnews hv hh' ht' hs' hr
   go_enter Tryz.func224, Tryz.ntmps224
   go_wp2_with (at_builtin; refine wpList_append_own_at _ rfl _ _ 49 rfl base 64 x0 z 5 40 t22 g1 g4 g2 g3 g5 (by decide) _ _ _ rfl HR.out ⟨g', 0, none⟩ 1 cap' vs rfl ?qc1 ?qc2 ?qc3 ?qc4 ?qc5 ?qc6 ?_)
   case qc1 => exact hl
   case qc2 => exact HN.out
   case qc3 => exact HV.out
   case qc4 => exact h63
   case qc5 => exact hbig
   case qc6 => exact hbase
   intro v' w1 hown hgrow hnil hat
   go_wp2
   go_ret
   exact ⟨v', rfl, hown, hgrow, hat.imp id fun h => ⟨_, h, Nat.le_refl _⟩⟩
 · have hcm2 : cap ≤ 9223372036854775807 := hm
   clear hr2 hnews hv hh' ht' hs' hh hs ht hr
   go_enter Tryz.func224, Tryz.ntmps224
   go_wp2_with (at_builtin; refine wpList_append_own_at _ rfl _ _ 49 rfl base 64 x0 z 5 40 t22 g1 g4 g2 g3 g5 (by decide) _ _ _ rfl HR.out ⟨g', 0, none⟩ 1 cap' vs rfl ?qc1 ?qc2 ?qc3 ?qc4 ?qc5 ?qc6 ?_)
   case qc1 => exact hl
   case qc2 => exact HN.out
   case qc3 => exact HV.out
   case qc4 => exact h63
   case qc5 => exact hbig
   case qc6 => exact hbase
   all_goals
    intro v' w1 hown hgrow hnil hat
    go_wp2
    go_ret
    exact ⟨v', rfl, hown, hgrow, hat.imp id fun h => ⟨_, h, Nat.le_refl _⟩⟩
set_option maxHeartbeats 4000000 in
set_option maxRecDepth 1000000 in
theorem i_shiftItems (g cap n i g' cap' : Nat) (cur cur' : Array Value) (w : World) (hh : w.heap[g]? = some (.cells cur 64 (0, 0))) (hs : cur.size = cap * 5) (hroom : n + 1 ≤ cap) (hcm : cap ≤ maxLen) (hin : i < n)
  (hh' : w.heap[g']? = some (.cells cur' 64 (0, 0))) (hs' : cur'.size = cap' * 5) (hn' : 1 ≤ cap') (hne : g' ≠ g) (h1 : ∀ u ∈ cur.toList.take (n * 5), u.oneCell' = true) (h1' : ∀ u ∈ cur'.toList.take 5, u.oneCell' = true) :
  Calls Tryz.prog 224 #[.slice (some ⟨g, 0, none⟩) n cap, .int .i64 i, .slice (some ⟨g', 0, none⟩) 1 cap'] w fun x w' => x = .returned (.slice (some ⟨g, 0, none⟩) (n + 1) cap) ∧
   w' = putRow id w.drew g 0 (layC (layC cur ((i + 1) * 5) ((cur.toList.take (n * 5)).drop (i * 5))) (i * 5) (cur'.toList.take 5)) := by
 obtain ⟨x0, z, g1, g2, g3, g4, g5, g6, g7⟩ := zero_of w tau_ok (e := 64) (kd := 4) (by kernel_rfl)
 have g2 : x0.size = 5 := g2
 have t22 : Tryz.prog.underlying 49 = some (.slice 64) := Tryz.underlying49
 have mixed := hmix
 have hcap : (n + 1) * 5 ≤ cur.size := by rw [hs]; exact Nat.mul_le_mul_right _ hroom
 have hcap' : 5 ≤ cur'.size := by rw [hs']; omega
 obtain ⟨news, hnews⟩ : ∃ news, news = (cur.toList.take (n * 5)).drop (i * 5) := ⟨_, rfl⟩
 obtain ⟨vs, hvs⟩ : ∃ vs, vs = cur'.toList.take 5 := ⟨_, rfl⟩
 rw [← hnews, ← hvs]
 have hdl : news.length = (n - i) * 5 := by rw [hnews]; simp; omega
 have hvl : vs.length = 1 * 5 := by rw [hvs]; simp; omega
 have hH := holds_of_heap hh
 have hH' := holds_of_heap hh'
 have hz2 : ¬ ((i : Int) = (n : Int)) := by omega
 have hov : ∀ lb cb, (callFunc 237 #[.slice (some ⟨g', 0, none⟩) 1 cap', .slice (some ⟨g, (i + 1) * 5, none⟩) lb cb]).run Tryz.prog w = .ok (.value (.bool false)) w := fun lb cb => by
  rw [run_callFunc_extern Tryz.func237 (by kernel_rfl) (by kernel_rfl) (by kernel_rfl) (e := Extern.SlicesOverlaps.overlaps #[49, 49] #[4]) (by kernel_rfl),
   Lib.run_overlaps_apart w 49 4 64 t22 5 (fun w => by simp [Go.sizeOf, typeInfo, g1, g2]) ⟨g', 0, none⟩ ⟨g, (i + 1) * 5, none⟩ 1 cap' lb cb hne 64 64 cur'.size cur.size (by simp [World.shape?, hh']) (by simp [World.shape?, hh]) (by omega) (by simp [World.frozen?, hh']) (by simp [World.frozen?, hh'])]
  rfl
 have hcp1 : ∀ ty lb dc lc sc, lb = n - i → n - i ≤ lc → (Builtin.copy_ #[49, 49] ty #[.slice (some ⟨g, (i + 1) * 5, none⟩) lb dc, .slice (some ⟨g, i * 5, none⟩) lc sc]).run Tryz.prog w.drew = .ok (goInt ((n - i : Nat) : Int)) (w.drew.setCells g ((i + 1) * 5) news) := fun ty lb dc lc sc hlb hlc =>
  run_copy_k w.drew _ _ ty 64 g ((i + 1) * 5) lb dc ⟨g, i * 5, none⟩ lc sc news t22 g1 g2 (by simp only [Nat.min_def]; split <;> omega) hdl
   (fun j v hj => by
     have hlt : j < (n - i) * 5 := by have := (List.getElem?_eq_some_iff.1 hj).1; rwa [hdl] at this
     rw [hnews, List.getElem?_drop, List.getElem?_take_of_lt (by omega), Array.getElem?_toList, Array.getElem?_eq_getElem (by omega)] at hj
     rw [Addr.add_lit]
     have := (hH (i * 5 + j) (by omega)).1
     rw [Nat.zero_add, getElem!_pos cur _ (by omega)] at this
     injection hj with hj
     rw [← hj]
     exact this)
   (fun j hj => by
     rw [hdl] at hj
     have := (hH ((i + 1) * 5 + j) (by omega)).1
     rw [Nat.zero_add] at this
     show (w.cell? _).isSome = true
     rw [this]; rfl)
   (fun j hj => by
     rw [hdl] at hj
     have := (hH ((i + 1) * 5 + j) (by omega)).2
     rwa [Nat.zero_add] at this)
   (fun v hv => h1 v (by rw [hnews] at hv; exact List.mem_of_mem_drop hv))
 obtain ⟨W1, hW1⟩ : ∃ W1, W1 = w.drew.setCells g ((i + 1) * 5) news := ⟨_, rfl⟩
 have hsp1 : ∀ k, k < (n + 1) * 5 → (W1.cell? ⟨g, k, none⟩).isSome = true := fun k hk => by
  rw [hW1]
  refine isSome_setC g _ _ _ (fun j hj => ?_) _ ?_
  · rw [hdl] at hj
    have := (hH ((i + 1) * 5 + j) (by omega)).1
    rw [Nat.zero_add] at this
    show (w.cell? _).isSome = true
    rw [this]; rfl
  · have := (hH k (by omega)).1
    rw [Nat.zero_add] at this
    show (w.cell? _).isSome = true
    rw [this]; rfl
 have hcp2 : ∀ (W : World), (∀ x, W.cell? x = W1.cell? x) → (∀ x, W.frozen? x = W1.frozen? x) → ∀ ty dc, (Builtin.copy_ #[49, 49] ty #[.slice (some ⟨g, i * 5, none⟩) (n + 1 - i) dc, .slice (some ⟨g', 0, none⟩) 1 cap']).run Tryz.prog W = .ok (goInt 1) (W.setCells g (i * 5) vs) := fun W hWc hWf ty dc =>
  run_copy_k W _ _ ty 64 g (i * 5) (n + 1 - i) dc ⟨g', 0, none⟩ 1 cap' vs t22 g1 g2 (by simp only [Nat.min_def]; split <;> omega) hvl
   (fun j v hj => by
     have hlt : j < 5 := by have := (List.getElem?_eq_some_iff.1 hj).1; rw [hvl] at this; omega
     rw [hvs, List.getElem?_take_of_lt (by omega), Array.getElem?_toList, Array.getElem?_eq_getElem (by omega)] at hj
     rw [Addr.add_lit, hWc, hW1, World.cell?_setCells_out g _ _ _ _ (fun h _ => absurd h hne)]
     have := (hH' j (by omega)).1
     rw [getElem!_pos cur' _ (by omega)] at this
     injection hj with hj
     rw [← hj]
     exact this)
   (fun j hj => by rw [hvl] at hj; rw [hWc]; exact hsp1 _ (by omega))
   (fun j hj => by
     rw [hvl] at hj
     rw [hWf, hW1, World.frozen?_setCells]
     have := (hH (i * 5 + j) (by omega)).2
     rwa [Nat.zero_add] at this)
   (fun v hv => h1' v (by rw [hvs] at hv; exact hv))
 have hfin : W1.setCells g (i * 5) vs = putRow id w.drew g 0 (layC (layC cur ((i + 1) * 5) news) (i * 5) vs) := by
  have hdr : w.drew.heap[g]? = some (.cells cur 64 (0, 0)) := hh
  rw [hW1]
  conv => lhs; rw [← putRow_self id w.drew g 0 cur (holds_of_heap hdr)]
  rw [setCells_layC w.drew g news _ cur (by rw [hdl]; omega), setCells_layC w.drew g vs _ _ (by rw [layC_size (by rw [hdl]; omega), hvl]; omega)]
 have hw1 : IntKind.i64.wrap ((i : Int) + 1) = (i : Int) + 1 := by rw [IntKind.wrap_i64]; unfold maxLen at hcm; omega
 have htn : ((i : Int) + 1).toNat = i + 1 := by omega
 have hb1 : (0 : Int) ≤ (i : Int) + 1 := by omega
 have hin2 : i ≤ n := by omega
 have hb2 : ¬ (cap = i + 1) := by omega
 have hb3 : (i : Int) ≤ (n : Int) + 1 := by omega
 have hb4 : ¬ (cap = i) := by omega
 have hcm2 : cap ≤ 9223372036854775807 := hcm
 rw [← hW1] at hcp1
 have HF : Hid (W1.setCells g (i * 5) vs = putRow id w.drew g 0 (layC (layC cur ((i + 1) * 5) news) (i * 5) vs)) := hfin
 rw [← hfin]
 clear hfin hW1 hsp1 hH hH' hh hh' hnews hvs h1 h1' g6 g7 g4 hdl hvl hs hs' hcap hcap'
 go_enter Tryz.func224, Tryz.ntmps224
 go_wp2_with (simp only [hov])
 go_region_law_o (refine step_copy_k rfl (.tmp 73) (.tmp 76) 49 49 rfl (.slice (some ⟨g, (i + 1) * 5, none⟩) (n - i) (cap - (i + 1))) (.slice (some ⟨g, i * 5, none⟩) (n + 1 - i) (cap - i)) (by simp [Act.eval, Act.put]) (by simp [Act.eval, Act.put]) (hcp1 _ _ _ _ _ (by omega) (by omega)) ?_)
 go_wp2_with (at_builtin; go_loud (refine wpList_copy_k _ rfl _ _ 49 49 rfl _ _ rfl rfl (hcp2 _ (fun _ => rfl) (fun _ => rfl) _ _) ?_))
 go_ret
 exact ⟨rfl, rfl⟩
set_option maxHeartbeats 4000000 in
set_option maxRecDepth 1000000 in
theorem i_growItems (g cap n i g' cap' : Nat) (cur cur' : Array Value) (w : World) (hh : w.heap[g]? = some (.cells cur 64 (0, 0))) (hs : cur.size = cap * 5) (hnc : n ≤ cap) (hroom : cap < n + 1) (hcm : cap ≤ maxLen) (hin : i < n) (hbig : (n + 1) * 40 ≤ 140737488355328)
  (hh' : w.heap[g']? = some (.cells cur' 64 (0, 0))) (hs' : cur'.size = cap' * 5) (hn' : 1 ≤ cap') (h1 : ∀ u ∈ cur.toList.take (n * 5), u.oneCell' = true) (h1' : ∀ u ∈ cur'.toList.take 5, u.oneCell' = true) :
  Calls Tryz.prog 224 #[.slice (some ⟨g, 0, none⟩) n cap, .int .i64 i, .slice (some ⟨g', 0, none⟩) 1 cap'] w fun x w' => ∃ G ROW, x = .returned (.slice (some ⟨w.heap.size, 0, none⟩) (n + 1) G) ∧ n + 1 ≤ G ∧ G ≤ maxLen ∧ ROW.size = G * 5 ∧ ROW.toList.take (i * 5) = (cur.toList.take (n * 5)).take (i * 5) ∧
   w' = putRow id (w.drew.alloc (.cells ROW 64)).drew w.heap.size 0 (layC (layC ROW (i * 5) (cur'.toList.take 5)) ((i + 1) * 5) ((cur.toList.take (n * 5)).drop (i * 5))) := by
 obtain ⟨x0, z, g1, g2, g3, g4, g5, g6, g7⟩ := zero_of w tau_ok (e := 64) (kd := 4) (by kernel_rfl)
 have g2 : x0.size = 5 := g2
 have g3 : x0.bytes = 40 := g3
 have g5 : z.cells.size = 5 := g5
 have t22 : Tryz.prog.underlying 49 = some (.slice 64) := Tryz.underlying49
 have tI : Tryz.prog.underlying 3 = some (.int .i64) := Tryz.underlying3
 have mixed := hmix
 have hcap : n * 5 ≤ cur.size := by rw [hs]; exact Nat.mul_le_mul_right _ hnc
 have hcap' : 5 ≤ cur'.size := by rw [hs']; omega
 obtain ⟨cs, hcs⟩ : ∃ cs, cs = cur.toList.take (n * 5) := ⟨_, rfl⟩
 obtain ⟨vs, hvs⟩ : ∃ vs, vs = cur'.toList.take 5 := ⟨_, rfl⟩
 rw [← hcs, ← hvs]
 rw [← hcs] at h1
 rw [← hvs] at h1'
 have hcl : cs.length = n * 5 := by rw [hcs]; simp; omega
 have hvl : vs.length = 1 * 5 := by rw [hvs]; simp; omega
 have hH := holds_of_heap hh
 have hH' := holds_of_heap hh'
 have hcc : ∀ j v, cs[j]? = some v → w.cell? ⟨g, j, none⟩ = some v := fun j v hj => by
  have hlt : j < n * 5 := by have := (List.getElem?_eq_some_iff.1 hj).1; rwa [hcl] at this
  rw [hcs, List.getElem?_take_of_lt (by omega), Array.getElem?_toList, Array.getElem?_eq_getElem (by omega)] at hj
  have := (hH j (by omega)).1
  rw [Nat.zero_add, getElem!_pos cur _ (by omega)] at this
  injection hj with hj
  rw [← hj]
  exact this
 have hvc : ∀ j v, vs[j]? = some v → w.cell? ⟨g', j, none⟩ = some v := fun j v hj => by
  have hlt : j < 5 := by have := (List.getElem?_eq_some_iff.1 hj).1; rw [hvl] at this; omega
  rw [hvs, List.getElem?_take_of_lt (by omega), Array.getElem?_toList, Array.getElem?_eq_getElem (by omega)] at hj
  have := (hH' j (by omega)).1
  rw [Nat.zero_add, getElem!_pos cur' _ (by omega)] at this
  injection hj with hj
  rw [← hj]
  exact this
 have hgw : g < w.heap.size := (Array.getElem?_eq_some_iff.1 hh).1
 have hvw : g' < w.heap.size := (Array.getElem?_eq_some_iff.1 hh').1
 have hkk : (n : Int) + 1 - (i : Int) = ((n + 1 - i : Nat) : Int) := by omega
 have hik : i + (n + 1 - i) = n + 1 := by omega
 have hold : (Builtin.firstCells x0.size i (.slice (some ⟨g, 0, none⟩) i cap)).run Tryz.prog w.drew = .ok (cs.take (i * 5)).toArray w.drew := by
  rw [g2]
  exact run_firstCells_some w.drew 5 i ⟨g, 0, none⟩ i cap (cs.take (i * 5)) (by rw [List.length_take]; omega) (fun j v hj => by
   rw [Addr.add_lit, Nat.zero_add]
   rw [List.getElem?_take] at hj
   split at hj
   · exact hcc j v hj
   · cases hj)
 have hrz : ∀ ty, (Builtin.append_ #[49, 3] ty #[.slice (some ⟨g, 0, none⟩) i cap, .int .i64 ((n : Int) + 1 - (i : Int))]).run Tryz.prog w =
   .ok (.slice (some ⟨w.heap.size, 0, none⟩) (n + 1) (grownCap w (n + 1) cap 64)) (w.drew.alloc (.cells ((cs.take (i * 5)).toArray ++ Builtin.zeroCells z.cells (n + 1 - i) ++ Builtin.zeroCells z.cells (grownCap w (n + 1) cap 64 - (n + 1))) 64)) := fun ty => by
  have h := Lib.run_append_grow_zeros w 49 3 ty 64 x0 z .i64 .i64 t22 tI g1 g4 (some ⟨g, 0, none⟩) i cap (cs.take (i * 5)) hold (n + 1 - i) (by omega) (by omega) (by omega) (by omega) (by rw [g3]; omega) (by rw [g3, hik]; exact growslice_fits hroom hbig)
  rw [hik] at h
  rw [hkk]
  exact h
 obtain ⟨G, hG⟩ : ∃ G, G = grownCap w (n + 1) cap 64 := ⟨_, rfl⟩
 obtain ⟨ROW, hROW⟩ : ∃ ROW : Array Value, ROW = (cs.take (i * 5)).toArray ++ Builtin.zeroCells z.cells (n + 1 - i) ++ Builtin.zeroCells z.cells (G - (n + 1)) := ⟨_, rfl⟩
 rw [← hG] at hrz
 rw [← hROW] at hrz
 have hGn : n + 1 ≤ G := by rw [hG]; exact grownCap_ge w _ _ _
 have hGm : G ≤ maxLen := by rw [hG]; exact grownCap_le_maxLen w (n + 1) cap 64 (by unfold maxLen; omega)
 have hG63 : G ≤ 9223372036854775807 := hGm
 have hRs : ROW.size = G * 5 := by
  rw [hROW]
  simp [Builtin.zeroCells, g5, hcl]
  omega
 have hRl : (n + 1) * 5 ≤ ROW.size := by rw [hRs]; exact Nat.mul_le_mul_right _ hGn
 have hRt : ROW.toList.take (i * 5) = cs.take (i * 5) := by
  rw [hROW]
  simp only [Array.toList_append, List.append_assoc]
  rw [List.take_append_of_le_length (by simp [hcl]; omega)]
  first | done | (show List.take _ (List.take _ cs) = _; rw [List.take_take, Nat.min_self])
 obtain ⟨W1, hW1⟩ : ∃ W1, W1 = w.drew.alloc (.cells ROW 64) := ⟨_, rfl⟩
 rw [← hW1] at hrz
 have hN : ∀ j, j < (n + 1) * 5 → (W1.cell? ⟨w.heap.size, j, none⟩).isSome = true := fun j hj => by
  rw [hW1, World.cell?_alloc_at (w := w.drew) ROW _ w.heap.size j rfl, Array.getElem?_eq_getElem (by omega)]; rfl
 have hNf : ∀ j, W1.frozen? ⟨w.heap.size, j, none⟩ = false := fun j => by rw [hW1]; exact World.frozen?_alloc_at (w := w.drew) ROW _ w.heap.size j rfl
 have hOb : ∀ j v, w.cell? ⟨g, j, none⟩ = some v → W1.cell? ⟨g, j, none⟩ = some v := fun j v h => by rw [hW1, World.cell?_alloc_past (w := w.drew) _ g j hgw]; exact h
 have hOv : ∀ j v, w.cell? ⟨g', j, none⟩ = some v → W1.cell? ⟨g', j, none⟩ = some v := fun j v h => by rw [hW1, World.cell?_alloc_past (w := w.drew) _ g' j hvw]; exact h
 have hcpA : ∀ (W : World), (∀ x, W.cell? x = W1.cell? x) → (∀ x, W.frozen? x = W1.frozen? x) → ∀ ty dc, (Builtin.copy_ #[49, 49] ty #[.slice (some ⟨w.heap.size, i * 5, none⟩) (n + 1 - i) dc, .slice (some ⟨g', 0, none⟩) 1 cap']).run Tryz.prog W = .ok (goInt ((1 : Nat) : Int)) (W.setCells w.heap.size (i * 5) vs) := fun W hWc hWf ty dc =>
  run_copy_k W _ _ ty 64 w.heap.size (i * 5) (n + 1 - i) dc ⟨g', 0, none⟩ 1 cap' vs t22 g1 g2 (by simp only [Nat.min_def]; split <;> omega) hvl
   (fun j v hj => by rw [Addr.add_lit, Nat.zero_add, hWc]; exact hOv _ v (hvc j v hj))
   (fun j hj => by rw [hvl] at hj; rw [hWc]; exact hN _ (by omega)) (fun j hj => by rw [hWf]; exact hNf _) h1'
 have hgN : g ≠ w.heap.size := by omega
 have hdl : (cs.drop (i * 5)).length = (n - i) * 5 := by rw [List.length_drop, hcl]; omega
 have hcpB : ∀ (W : World), (∀ x, W.cell? x = (W1.setCells w.heap.size (i * 5) vs).cell? x) → (∀ x, W.frozen? x = (W1.setCells w.heap.size (i * 5) vs).frozen? x) → ∀ ty dc sc, (Builtin.copy_ #[49, 49] ty #[.slice (some ⟨w.heap.size, (i + 1) * 5, none⟩) (n - i) dc, .slice (some ⟨g, i * 5, none⟩) (n - i) sc]).run Tryz.prog W = .ok (goInt ((n - i : Nat) : Int)) (W.setCells w.heap.size ((i + 1) * 5) (cs.drop (i * 5))) := fun W hWc hWf ty dc sc =>
  run_copy_k W _ _ ty 64 w.heap.size ((i + 1) * 5) (n - i) dc ⟨g, i * 5, none⟩ (n - i) sc (cs.drop (i * 5)) t22 g1 g2 (by simp only [Nat.min_def]; split <;> omega) hdl
   (fun j v hj => by
     rw [Addr.add_lit, hWc, World.cell?_setCells_out _ _ _ _ _ (fun h _ => absurd h hgN)]
     exact hOb _ v (hcc _ v (by rwa [List.getElem?_drop] at hj)))
   (fun j hj => by rw [hdl] at hj; rw [hWc]; exact isSome_setC _ _ _ _ (fun t ht => by rw [hvl] at ht; exact hN _ (by omega)) _ (hN _ (by omega)))
   (fun j hj => by rw [hWf, World.frozen?_setCells]; exact hNf _) (fun v hv => h1 v (List.mem_of_mem_drop hv))
 have hfin : ((w.drew.alloc (.cells ROW 64)).drew.setCells w.heap.size (i * 5) vs).setCells w.heap.size ((i + 1) * 5) (cs.drop (i * 5)) = putRow id (w.drew.alloc (.cells ROW 64)).drew w.heap.size 0 (layC (layC ROW (i * 5) vs) ((i + 1) * 5) (cs.drop (i * 5))) := by
  have hdr : (w.drew.alloc (.cells ROW 64)).drew.heap[w.heap.size]? = some (.cells ROW 64 (0, 0)) := by
   show (w.drew.heap.push _)[w.heap.size]? = _
   exact Array.getElem?_push_size
  conv => lhs; rw [← putRow_self id (w.drew.alloc (.cells ROW 64)).drew w.heap.size 0 ROW (holds_of_heap hdr)]
  rw [setCells_layC _ _ vs _ ROW (by rw [hvl]; omega), setCells_layC _ _ (cs.drop (i * 5)) _ _ (by rw [layC_size (by rw [hvl]; omega), hdl]; omega)]
 subst hW1
 have hE1 : ∀ x, ((w.alloc (.cells ROW 64)).drew).cell? x = (w.drew.alloc (.cells ROW 64)).cell? x := fun x => rfl
 have hE2 : ∀ x, ((w.alloc (.cells ROW 64)).drew).frozen? x = (w.drew.alloc (.cells ROW 64)).frozen? x := fun x => rfl
 have hF1 : ∀ x, (((w.alloc (.cells ROW 64)).drew.setCells w.heap.size (i * 5) vs).drew).cell? x = ((w.drew.alloc (.cells ROW 64)).setCells w.heap.size (i * 5) vs).cell? x := fun x => rfl
 have hF2 : ∀ x, (((w.alloc (.cells ROW 64)).drew.setCells w.heap.size (i * 5) vs).drew).frozen? x = ((w.drew.alloc (.cells ROW 64)).setCells w.heap.size (i * 5) vs).frozen? x := fun x => rfl
 have hz2 : ¬ ((i : Int) = (n : Int)) := by omega
 have hz3 : (cap : Int) < (n : Int) + 1 := by omega
 have hw1 : IntKind.i64.wrap ((i : Int) + 1) = (i : Int) + 1 := by rw [IntKind.wrap_i64]; unfold maxLen at hcm; omega
 have htn : ((i : Int) + 1).toNat = i + 1 := by omega
 have hb1 : (0 : Int) ≤ (i : Int) + 1 := by omega
 have hin2 : i ≤ n := by omega
 have hGi : ¬ (G = i) := by omega
 have hGim : ¬ (G = i + 1) := by omega
 have hci : ¬ (cap = i) := by omega
 have hb3 : (i : Int) ≤ (n : Int) + 1 := by omega
 have hcm2 : cap ≤ 9223372036854775807 := hcm
 have HF : Hid (((w.drew.alloc (.cells ROW 64)).drew.setCells w.heap.size (i * 5) vs).setCells w.heap.size ((i + 1) * 5) (cs.drop (i * 5)) = putRow id (w.drew.alloc (.cells ROW 64)).drew w.heap.size 0 (layC (layC ROW (i * 5) vs) ((i + 1) * 5) (cs.drop (i * 5)))) := hfin
 have HRt : Hid (ROW.toList.take (i * 5) = cs.take (i * 5)) := hRt
 have HRs : Hid (ROW.size = G * 5) := hRs
 clear hfin hRt hRs hkk hik hold hROW hG hRl hH hH' hh hh' hcs hvs h1 h1' g6 g7 g4 hdl hvl hs hs' hcap hcap' hcc hvc hN hNf hOb hOv hcl
 go_enter Tryz.func224, Tryz.ntmps224
 go_wp2_with (first
  | (at_builtin; refine Lib.wpList_append_run _ rfl _ _ _ _ rfl _ _ rfl rfl _ _ (hrz _) ?_)
  | (at_builtin; refine wpList_copy_k _ rfl _ _ 49 49 rfl _ _ rfl rfl (hcpA _ hE1 hE2 _ _) ?_)
  | (at_builtin; refine wpList_copy_k _ rfl _ _ 49 49 rfl _ _ rfl rfl (hcpB _ (fun _ => rfl) (fun _ => rfl) _ _ _) ?_))
 go_region_law_o (refine step_copy_k rfl _ _ 49 49 rfl (.slice (some ⟨w.heap.size, (i + 1) * 5, none⟩) (n - i) (G - (i + 1))) (.slice (some ⟨g, i * 5, none⟩) (n - i) (cap - i)) (by simp [Act.eval, Act.put]) (by simp [Act.eval, Act.put]) (hcpB _ hF1 hF2 _ (G - (i + 1)) (cap - i)) ?_)
 go_wp2
 go_ret
 refine ⟨G, ROW, rfl, hGn, hGm, HRs.out, HRt.out, ?_⟩
 rw [← setCells_drew]
 exact HF.out
theorem w_InsertItems : InsW Tryz.prog 224 64 5 40 := by
 refine InsW.of (fnOk_enters (fn := Tryz.f224) (D := [(11, [(0, 0), (1, 0), (2, 0), (3, 6), (4, 9), (5, 0), (6, 0), (7, 96), (8, 144)]), (15, [(0, 0), (1, 0), (2, 0), (3, 6), (4, 9), (5, 0), (6, 0), (7, 96), (8, 144)])]) (by kernel_rfl) (by kernel_rfl)) (fun base n v v2 us vs w a1 a2 a3 a4 a5 => i_endItems base n v v2 us vs w a1 a2 a3 a4 a5) (fun g cap n i g' cap' cur cur' w a1 a2 a3 a4 a5 a6 a7 a8 a9 b1 b2 => ?_) (fun g cap n i g' cap' cur cur' w a1 a2 a3 a4 a5 a6 a7 a8 a9 b1 b2 b3 => ?_)
 · have h := i_shiftItems g cap n i g' cap' cur cur' w a1 a2 a3 a4 a5 a6 a7 a8 a9 b1 b2
   (try simp only [Nat.mul_one] at h ⊢)
   exact h
 · have h := i_growItems g cap n i g' cap' cur cur' w a1 a2 a3 a4 a5 a6 a7 a8 a9 b1 b2 b3
   (try simp only [Nat.mul_one] at h ⊢)
   exact h
theorem t_InsertItems : TrKnown Tryz.prog tau 224 (insertT 4) := insert_tr w_InsertItems
end Go.Proofs.YtjjpakdlkjaigaaGreat

/- Contracts: items by key: put, get. -/
namespace Go.Proofs.YtjjpakdlkjaigaaGreat
open Go.RowKit
set_option maxRecDepth 20000
theorem k_byKey : Known Tryz.prog tau 204 (S2 dItem dInt fun i k => .ok (.int .i64 (cmpI i.key k)) []) := by
 refine known2 hmix tau_ok (ctx_cons k_cmpCompare ctx_nil) (fn := Tryz.f204) (by kernel_rfl) [] (by kernel_rfl) _ _ _ fun n x hfit => ⟨rfl, [], ?_⟩
 clear hfit
 refine V1 ?_; constructor <;> (first | (with_reducible exact TT.i) | (intros; (repeat (apply Wk.mk; intro Kv hN hX hR)); apply Wr.mk))
 all_goals first
  | rfl
theorem risingK_le {l : List GItem} (hs : RisingK l) {s t : Nat} (h : s ≤ t) (ht : t < l.length) : (l.getD s default).key ≤ (l.getD t default).key := by
 rcases Nat.lt_or_eq_of_le h with h | rfl
 · exact Int.le_of_lt (hs s t h ht)
 · exact Int.le_refl _
def cntK (l : List GItem) (x : Int) : Int := ((l.countP fun i => decide (i.key < x) : Nat) : Int)
def hasK (l : List GItem) (x : Int) : Bool := l.any fun i => decide (i.key = x)
theorem k_searchK : Known Tryz.prog tau 203 (S3 dItems dInt (dFn 204) fun l x _ => .ob (RisingK l) (.tup [.int .i64 (cntK l x), .bool (hasK l x)]) []) := by
 refine known3 hmix tau_ok (ctx_cons k_byKey ctx_nil) (fn := Tryz.f203) (by kernel_rfl) [] (by kernel_rfl) _ _ _ _ fun l x _ hfit hs => ⟨rfl,
  [(3, invX (Nat × Nat) [9, 10, 11, 15, 16, 17, 18, 19, 20, 21, 22, 23, 24, 25, 26, 27, 28, 29, 30, 31, 32, 33, 34] [] (fun g => g.1 ≤ g.2 ∧ g.2 ≤ l.length ∧ (∀ t, t < g.1 → (l.getD t default).key < x) ∧ ∀ t, g.2 ≤ t → t < l.length → x ≤ (l.getD t default).key) (fun g => withS [(9, .int .i64 g.1), (10, .int .i64 g.2)]) (fun g => g.2 - g.1))], ?_⟩
 have hlen : l.length * 40 ≤ 140737488355328 := hfit.1
 clear hfit
 refine V2 ?_; constructor <;> (first | (with_reducible exact TT.i) | (intros; (repeat (apply Wk.mk; intro Kv hN hX hR)); apply Wr.mk))
 all_goals first
  | (refine ⟨(0, l.length), ⟨Nat.zero_le _, Nat.le_refl _, by intros; omega, by intros; omega⟩, ?_⟩
     refine V1 ?_; constructor <;> (first | (with_reducible exact TT.i) | (intros; (repeat (apply Wk.mk; intro Kv hN hX hR)); apply Wr.mk))
     all_goals rfl)
  | (rintro ⟨i, j⟩ ⟨hij, hj, h1, h2⟩
     dsimp only at hij hj h1 h2
     refine V1 ?_; constructor <;> (first | (with_reducible exact TT.i) | (intros; (repeat (apply Wk.mk; intro Kv hN hX hR)); apply Wr.mk))
     all_goals (try dsimp only at *)
     all_goals (try simp only [cmpI_lt, cmpI_eq, etaItem] at *)
     all_goals first
      | (refine Ob.mk ?_; decide)
      | (have hlt := of_decide_eq_true (show decide ((i : Int) < (j : Int)) = true by with_reducible assumption)
         obtain ⟨h, eh, h3, h4⟩ := mid_ok (i := i) (j := j) (n := l.length) (by omega) hj (by omega)
         simp only [eh, Int.toNat_natCast] at *
         first
          | exact Ob.mk ⟨by omega, by omega⟩
          | (have hc := of_decide_eq_true (show decide ((l.getD h default).key < x) = true by with_reducible assumption)
             refine ⟨(h + 1, j), ⟨by omega, hj, fun t ht => ?_, h2⟩, by show j - (h + 1) < j - i; omega, ?_⟩
             · have := risingK_le hs (s := t) (t := h) (by omega) (by omega)
               omega
             · have e1 := wrap_up (h := h) (n := l.length) (by omega) (by omega)
               refine V1 ?_; constructor <;> (first | (with_reducible exact TT.i) | (intros; (repeat (apply Wk.mk; intro Kv hN hX hR)); apply Wr.mk))
               all_goals first
                | exact e1
                | rfl)
          | (have hc := of_decide_eq_false (show decide ((l.getD h default).key < x) = false by with_reducible assumption)
             refine ⟨(i, h), ⟨by omega, by omega, h1, fun t ht ht2 => ?_⟩, by show h - i < j - i; omega, ?_⟩
             · have := risingK_le hs (s := h) (t := t) ht ht2
               omega
             · refine V1 ?_; constructor <;> (first | (with_reducible exact TT.i) | (intros; (repeat (apply Wk.mk; intro Kv hN hX hR)); apply Wr.mk))
               all_goals rfl))
      | (have hge := of_decide_eq_false (show decide ((i : Int) < (j : Int)) = false by with_reducible assumption)
         obtain rfl : i = j := by omega
         have e1 : cntK l x = (i : Int) := congrArg Int.ofNat (search_end (d := default) (κ := fun p : GItem => p.key) (K := x) hj h1 h2)
         have e2 : hasK l x = (decide (i < l.length) && decide ((l.getD i default).key = x)) := search_there (d := default) (κ := fun p : GItem => p.key) hs h1 h2
         (try simp only [Int.toNat_natCast] at *)
         first
          | exact Ob.mk ⟨by omega, of_decide_eq_true aQ⟩
          | exact e1.symm
          | (have a1 := of_decide_eq_true (show decide ((i : Int) < (l.length : Nat)) = true by with_reducible assumption)
             rw [e2, decide_eq_true (show i < l.length by omega), Bool.true_and]
             done)
          | (have a2 := of_decide_eq_true (show decide ((l.getD i default).key = x) = true by with_reducible assumption)
             have a1 := of_decide_eq_true (show decide ((i : Int) < (l.length : Nat)) = true by with_reducible assumption)
             rw [e2, decide_eq_true a2, decide_eq_true (show i < l.length by omega)]
             rfl)
          | (have a2 := of_decide_eq_false (show decide ((l.getD i default).key = x) = false by with_reducible assumption)
             rw [e2, decide_eq_false a2, Bool.and_false])
          | (have a1 := of_decide_eq_false (show decide ((i : Int) < (l.length : Nat)) = false by with_reducible assumption)
             rw [e2, decide_eq_false (show ¬ i < l.length by omega), Bool.false_and])))
theorem cntK_at {l : List GItem} {x : Int} (hs : RisingK l) (h : hasK l x = true) : l.countP (fun i => decide (i.key < x)) < l.length ∧ (l.getD (l.countP fun i => decide (i.key < x)) default).key = x := by
 obtain ⟨y, hy, e⟩ := List.any_eq_true.1 h
 have e := of_decide_eq_true e
 obtain ⟨i, hi, rfl⟩ := List.getElem_of_mem hy
 have g : ∀ t, t < l.length → (l.getD t default).key = (l[t]?.getD default).key := fun t _ => by rw [List.getD_eq_getElem?_getD]
 have ei : (l.getD i default).key = x := by rw [List.getD_eq_getElem?_getD, List.getElem?_eq_getElem hi]; exact e
 have hc : l.countP (fun i => decide (i.key < x)) = i := search_end (d := default) (κ := fun p : GItem => p.key) (K := x) (Nat.le_of_lt hi) (fun t ht => by
  have := hs t i ht hi
  show (l.getD t default).key < x
  omega) (fun t ht h2 => by
  have := risingK_le hs ht h2
  show x ≤ (l.getD t default).key
  omega)
 rw [hc]
 exact ⟨hi, ei⟩
noncomputable def putU (l : List GItem) (x : GItem) : List GItem := if hasK l x.key = true then l.set (l.countP fun i => decide (i.key < x.key)) (bestI (l.getD (l.countP fun i => decide (i.key < x.key)) default) x).1 else l.take (l.countP fun i => decide (i.key < x.key)) ++ [x] ++ l.drop (l.countP fun i => decide (i.key < x.key))
noncomputable def putI (l : List GItem) (x : GItem) : List GItem × Int := Classical.choose (seal_ex (if storeB l = true ∧ itemB x = true then (if hasK l x.key = true then (putU l x, (0 : Int)) else if l.length = 16 then ([], 501) else (putU l x, 0)) else ([], 500)))
theorem putI_def (l : List GItem) (x : GItem) : putI l x = if storeB l = true ∧ itemB x = true then (if hasK l x.key = true then (putU l x, (0 : Int)) else if l.length = 16 then ([], 501) else (putU l x, 0)) else ([], 500) := Classical.choose_spec (seal_ex _)
noncomputable def oPutS (l : List GItem) (x : GItem) : Out := .ok (.tup [.own 0, .int .i64 (putI l x).2]) [.items (putI l x).1]
theorem putI_no {l : List GItem} {x : GItem} (h : storeB l = false ∨ itemB x = false) : putI l x = ([], 500) := by
 rw [putI_def, if_neg]
 rintro ⟨h1, h2⟩
 rcases h with h | h <;> simp_all
theorem putI_has {l : List GItem} {x : GItem} (h1 : storeB l = true) (h2 : itemB x = true) (h : hasK l x.key = true) : putI l x = (l.set (l.countP fun i => decide (i.key < x.key)) (bestI (l.getD (l.countP fun i => decide (i.key < x.key)) default) x).1, 0) := by
 rw [putI_def, if_pos ⟨h1, h2⟩, if_pos h, putU, if_pos h]
theorem putI_full {l : List GItem} {x : GItem} (h1 : storeB l = true) (h2 : itemB x = true) (h : hasK l x.key = false) (h3 : l.length = 16) : putI l x = ([], 501) := by
 rw [putI_def, if_pos ⟨h1, h2⟩, if_neg (by rw [h]; simp), if_pos h3]
theorem putI_yes {l : List GItem} {x : GItem} (h1 : storeB l = true) (h2 : itemB x = true) (h : hasK l x.key = false) (h3 : ¬ l.length = 16) : putI l x = (l.take (l.countP fun i => decide (i.key < x.key)) ++ [x] ++ l.drop (l.countP fun i => decide (i.key < x.key)), 0) := by
 rw [putI_def, if_pos ⟨h1, h2⟩, if_neg (by rw [h]; simp), if_neg h3, putU, if_neg (by rw [h]; simp)]
theorem k_storePut : Known Tryz.prog tau 201 (S2 dItems dItem oPutS) := by
 refine knownX2 hmix tau_ok (fn := Tryz.f201) (by kernel_rfl) [(7, [(0, 0), (1, 0), (2, 0), (3, 0), (4, 12), (5, 16), (6, 0), (7, 96), (8, 128), (9, 256), (10, 256), (11, 1023), (12, 3071)])] (by kernel_rfl) _ _ _ fun l x hfit => ⟨rfl, _, ctx_tr t_InsertItems (ctx_cons k_storeMay (ctx_cons k_ItemMay (ctx_cons k_CloneItems (ctx_cons k_searchK (ctx_cons k_best (ctx_cons k_byKey ctx_nil)))))), [], ?_⟩
 clear hfit
 refine V1 ?_; constructor <;> (first | (with_reducible exact TT.i) | (intros; (repeat (apply Wk.mk; intro Kv hN hX hR)); apply Wr.mk))
 all_goals (try simp only [etaItem] at *)
 all_goals first
  | (rw [putI_no (.inl (nf aQ))] <;> rfl)
  | (rw [putI_no (.inr (nf aQ))] <;> rfl)
  | (have h1 := nt (show (!storeB l) = false by with_reducible assumption)
     have h2 := nt (show (!itemB x) = false by with_reducible assumption)
     have hp := storeB_iff.1 h1
     have hc : l.countP (fun y => decide (y.key < x.key)) ≤ l.length := List.countP_le_length
     first
      | exact Ob.mk hp.2.1
      | (have h3 : hasK l x.key = true := by with_reducible assumption
         have h4 := cntK_at hp.2.1 h3
         first
          | exact Ob.mk ⟨by unfold cntK; omega, by unfold cntK; omega⟩
          | (rw [putI_has h1 h2 h3] <;> rfl))
      | (have h4 := of_decide_eq_true (show decide ((l.length : Int) = 16) = true by with_reducible assumption)
         rw [putI_full h1 h2 aQ (by omega)] <;> rfl)
      | (have h4 := of_decide_eq_false (show decide ((l.length : Int) = 16) = false by with_reducible assumption)
         refine Ob.mk ⟨by unfold cntK; omega, by unfold cntK; omega, ?_⟩
         simp only [Rw.bts, Rw.kd, kdBytes]
         omega)
      | (have h4 := of_decide_eq_false (show decide ((l.length : Int) = 16) = false by with_reducible assumption)
         rw [putI_yes h1 h2 aQ (by omega)] <;> rfl))
noncomputable def getS (l : List GItem) (k : Int) : GItem × Bool := Classical.choose (seal_ex (if storeB l = true ∧ hasK l k = true then (l.getD (l.countP fun i => decide (i.key < k)) default, true) else (iZ, false)))
theorem getS_def (l : List GItem) (k : Int) : getS l k = if storeB l = true ∧ hasK l k = true then (l.getD (l.countP fun i => decide (i.key < k)) default, true) else (iZ, false) := Classical.choose_spec (seal_ex _)
noncomputable def oGetS (l : List GItem) (k : Int) : Out := .ok (.tup [dItem.e (getS l k).1, .bool (getS l k).2]) []
theorem getS_no {l : List GItem} {k : Int} (h : storeB l = false ∨ hasK l k = false) : getS l k = (iZ, false) := by
 rw [getS_def, if_neg]
 rintro ⟨h1, h2⟩
 rcases h with h | h <;> simp_all
theorem getS_yes {l : List GItem} {k : Int} (h1 : storeB l = true) (h2 : hasK l k = true) : getS l k = (l.getD (l.countP fun i => decide (i.key < k)) default, true) := by rw [getS_def, if_pos ⟨h1, h2⟩]
theorem k_storeGet : Known Tryz.prog tau 162 (S2 dItems dInt oGetS) := by
 refine known2 hmix tau_ok (ctx_cons k_storeMay (ctx_cons k_searchK (ctx_cons k_byKey ctx_nil))) (fn := Tryz.f162) (by kernel_rfl) [] (by kernel_rfl) _ _ _ fun l x hfit => ⟨rfl, [], ?_⟩
 clear hfit
 refine V1 ?_; constructor <;> (first | (with_reducible exact TT.i) | (intros; (repeat (apply Wk.mk; intro Kv hN hX hR)); apply Wr.mk))
 all_goals (try simp only [etaItem] at *)
 all_goals first
  | (rw [getS_no (.inl (nf aQ))] <;> rfl)
  | (rw [getS_no (.inr (nf aQ))] <;> rfl)
  | (have h1 := nt (show (!storeB l) = false by with_reducible assumption)
     have hp := storeB_iff.1 h1
     first
      | exact Ob.mk hp.2.1
      | (have h3 := nt (show (!hasK l x) = false by with_reducible assumption)
         have h4 := cntK_at hp.2.1 h3
         first
          | exact Ob.mk ⟨by unfold cntK; omega, by unfold cntK; omega⟩
          | (rw [getS_yes h1 h3] <;> rfl)))
end Go.Proofs.YtjjpakdlkjaigaaGreat

/- Contracts: writing, an item that comes. -/
namespace Go.Proofs.YtjjpakdlkjaigaaGreat
open Go.RowKit
set_option maxRecDepth 20000
theorem getS_count (l : List GItem) (k : Int) : 0 ≤ (getS l k).1.ver.count ∧ (getS l k).1.ver.count ≤ 65535 := by
 rw [getS_def]
 split
 · rename_i h
   have hp := storeB_iff.1 h.1
   have hc := cntK_at hp.2.1 h.2
   have := hp.2.2 _ (getD_mem (d := default) hc.1)
   have := itemB_ver this
   simp only [verB, Bool.and_eq_true, decide_eq_true_eq] at this
   dsimp only
   omega
 · exact ⟨by decide, by decide⟩
noncomputable def itW (x : GNode) (i : GItem) : GItem := ⟨i.key, ⟨(getS x.items i.key).1.ver.count + 1, x.view.id⟩, i.value, i.gone⟩
noncomputable def wroteN (x : GNode) (i : GItem) : GNode × Int := Classical.choose (seal_ex (if (x.up && nodeB x) = true ∧ placeB i.key = true ∧ placeB i.value = true then (if 65535 < (getS x.items i.key).1.ver.count + 1 then (nodeZ, (1701 : Int)) else if (putI x.items (itW x i)).2 = 0 then (⟨x.up, x.view, (putI x.items (itW x i)).1, x.log⟩, 0) else (nodeZ, 1701)) else (nodeZ, 1700)))
theorem wroteN_def (x : GNode) (i : GItem) : wroteN x i = if (x.up && nodeB x) = true ∧ placeB i.key = true ∧ placeB i.value = true then (if 65535 < (getS x.items i.key).1.ver.count + 1 then (nodeZ, (1701 : Int)) else if (putI x.items (itW x i)).2 = 0 then (⟨x.up, x.view, (putI x.items (itW x i)).1, x.log⟩, 0) else (nodeZ, 1701)) else (nodeZ, 1700) := Classical.choose_spec (seal_ex _)
noncomputable def oWrote (x : GNode) (i : GItem) : Out := .ok (.tup [.agg (nOwn4 (wroteN x i).1), .int .i64 (wroteN x i).2]) (nRows (wroteN x i).1)
theorem wroteN_no {x : GNode} {i : GItem} (h : (x.up && nodeB x) = false ∨ placeB i.key = false ∨ placeB i.value = false) : wroteN x i = (nodeZ, 1700) := by
 rw [wroteN_def, if_neg]
 rintro ⟨h1, h2, h3⟩
 rcases h with h | h | h <;> simp_all
theorem wroteN_big {x : GNode} {i : GItem} (h1 : (x.up && nodeB x) = true) (h2 : placeB i.key = true) (h3 : placeB i.value = true) (h : 65535 < (getS x.items i.key).1.ver.count + 1) : wroteN x i = (nodeZ, 1701) := by
 rw [wroteN_def, if_pos ⟨h1, h2, h3⟩, if_pos h]
theorem wroteN_full {x : GNode} {i : GItem} (h1 : (x.up && nodeB x) = true) (h2 : placeB i.key = true) (h3 : placeB i.value = true) (h : ¬ 65535 < (getS x.items i.key).1.ver.count + 1) (h4 : ¬ (putI x.items (itW x i)).2 = 0) : wroteN x i = (nodeZ, 1701) := by
 rw [wroteN_def, if_pos ⟨h1, h2, h3⟩, if_neg h, if_neg h4]
theorem wroteN_yes {x : GNode} {i : GItem} (h1 : (x.up && nodeB x) = true) (h2 : placeB i.key = true) (h3 : placeB i.value = true) (h : ¬ 65535 < (getS x.items i.key).1.ver.count + 1) (h4 : (putI x.items (itW x i)).2 = 0) : wroteN x i = (⟨x.up, x.view, (putI x.items (itW x i)).1, x.log⟩, 0) := by
 rw [wroteN_def, if_pos ⟨h1, h2, h3⟩, if_neg h, if_pos h4]
theorem etaW (x : GNode) (i : GItem) : (⟨i.key, ⟨(getS x.items i.key).1.ver.count + 1, x.view.id⟩, i.value, i.gone⟩ : GItem) = itW x i := rfl
theorem k_write : Known Tryz.prog tau 160 (S2 dNode dItem oWrote) := by
 refine known2 hmix tau_ok (ctx_cons k_nodeUp (ctx_cons k_Byte (ctx_cons k_storeGet (ctx_cons k_nodeCopy (ctx_cons k_storePut ctx_nil))))) (fn := Tryz.f160) (by kernel_rfl) [] (by kernel_rfl) _ _ _ fun x i hfit => ⟨rfl, [], ?_⟩
 clear hfit
 have hg := getS_count x.items i.key
 have w1 : IntKind.i64.wrap ((getS x.items i.key).1.ver.count + 1) = (getS x.items i.key).1.ver.count + 1 := wrapI (by omega) (by omega)
 refine V1 ?_; constructor <;> (first | (with_reducible exact TT.i) | (intros; (repeat (apply Wk.mk; intro Kv hN hX hR)); apply Wr.mk))
 all_goals (try simp only [etaNode, w1, etaW] at *)
 all_goals first
  | (rw [wroteN_no (.inl (nf aQ))] <;> rfl)
  | (rw [wroteN_no (.inr (.inl (nf aQ)))] <;> rfl)
  | (rw [wroteN_no (.inr (.inr (nf aQ)))] <;> rfl)
  | (have h1 := nt (show (!(x.up && nodeB x)) = false by with_reducible assumption)
     have h2 := nt (show (!placeB i.key) = false by with_reducible assumption)
     have h3 := nt (show (!placeB i.value) = false by with_reducible assumption)
     first
      | (have h4 := of_decide_eq_true (show decide (65535 < (getS x.items i.key).1.ver.count + 1) = true by with_reducible assumption)
         rw [wroteN_big h1 h2 h3 h4] <;> rfl)
      | (have h4 := of_decide_eq_false (show decide (65535 < (getS x.items i.key).1.ver.count + 1) = false by with_reducible assumption)
         first
          | (have h5 := of_decide_eq_false (nf (b := decide ((putI x.items (itW x i)).2 = 0)) aQ)
             rw [wroteN_full h1 h2 h3 h4 h5] <;> rfl)
          | (have h5 := of_decide_eq_true (nt (b := decide ((putI x.items (itW x i)).2 = 0)) aQ)
             rw [wroteN_yes h1 h2 h3 h4 h5] <;> rfl)))
theorem k_writePut : Known Tryz.prog tau 102 (S3 dNode dInt dInt fun x k v => oWrote x ⟨k, ⟨0, 0⟩, v, false⟩) := by
 refine known3 hmix tau_ok (ctx_cons k_write ctx_nil) (fn := Tryz.f102) (by kernel_rfl) [] (by kernel_rfl) _ _ _ _ fun x k v hfit => ⟨rfl, [], ?_⟩
 clear hfit
 refine V1 ?_; constructor <;> (first | (with_reducible exact TT.i) | (intros; (repeat (apply Wk.mk; intro Kv hN hX hR)); apply Wr.mk))
 all_goals first
  | rfl
theorem k_writeDrop : Known Tryz.prog tau 103 (S2 dNode dInt fun x k => oWrote x ⟨k, ⟨0, 0⟩, 0, true⟩) := by
 refine known2 hmix tau_ok (ctx_cons k_write ctx_nil) (fn := Tryz.f103) (by kernel_rfl) [] (by kernel_rfl) _ _ _ fun x k hfit => ⟨rfl, [], ?_⟩
 clear hfit
 refine V1 ?_; constructor <;> (first | (with_reducible exact TT.i) | (intros; (repeat (apply Wk.mk; intro Kv hN hX hR)); apply Wr.mk))
 all_goals first
  | rfl
noncomputable def takeN (x : GNode) (i : GItem) : GNode × Int := Classical.choose (seal_ex (if (x.up && nodeB x) = true ∧ itemB i = true then (⟨x.up, x.view, if (putI x.items i).2 = 0 then (putI x.items i).1 else x.items, x.log⟩, (0 : Int)) else (nodeZ, 2000)))
theorem takeN_def (x : GNode) (i : GItem) : takeN x i = if (x.up && nodeB x) = true ∧ itemB i = true then (⟨x.up, x.view, if (putI x.items i).2 = 0 then (putI x.items i).1 else x.items, x.log⟩, (0 : Int)) else (nodeZ, 2000) := Classical.choose_spec (seal_ex _)
noncomputable def oTakeN (x : GNode) (i : GItem) : Out := .ok (.tup [.agg (nOwn4 (takeN x i).1), .int .i64 (takeN x i).2]) (nRows (takeN x i).1)
theorem takeN_no {x : GNode} {i : GItem} (h : (x.up && nodeB x) = false ∨ itemB i = false) : takeN x i = (nodeZ, 2000) := by
 rw [takeN_def, if_neg]
 rintro ⟨h1, h2⟩
 rcases h with h | h <;> simp_all
theorem takeN_put {x : GNode} {i : GItem} (h1 : (x.up && nodeB x) = true) (h2 : itemB i = true) (h : (putI x.items i).2 = 0) : takeN x i = (⟨x.up, x.view, (putI x.items i).1, x.log⟩, 0) := by
 rw [takeN_def, if_pos ⟨h1, h2⟩, if_pos h]
theorem takeN_not {x : GNode} {i : GItem} (h1 : (x.up && nodeB x) = true) (h2 : itemB i = true) (h : ¬ (putI x.items i).2 = 0) : takeN x i = (x, 0) := by
 rw [takeN_def, if_pos ⟨h1, h2⟩, if_neg h]
theorem k_takeItem : Known Tryz.prog tau 193 (S2 dNode dItem oTakeN) := by
 refine known2 hmix tau_ok (ctx_cons k_nodeUp (ctx_cons k_ItemMay (ctx_cons k_nodeCopy (ctx_cons k_storePut ctx_nil)))) (fn := Tryz.f193) (by kernel_rfl) [] (by kernel_rfl) _ _ _ fun x i hfit => ⟨rfl, [], ?_⟩
 clear hfit
 refine V1 ?_; constructor <;> (first | (with_reducible exact TT.i) | (intros; (repeat (apply Wk.mk; intro Kv hN hX hR)); apply Wr.mk))
 all_goals (try simp only [etaNode, etaItem] at *)
 all_goals first
  | (rw [takeN_no (.inl (nf aQ))] <;> rfl)
  | (rw [takeN_no (.inr (nf aQ))] <;> rfl)
  | (have h1 := nt (show (!(x.up && nodeB x)) = false by with_reducible assumption)
     have h2 := nt (show (!itemB i) = false by with_reducible assumption)
     first
      | (have h5 := of_decide_eq_true (show decide ((putI x.items i).2 = 0) = true by with_reducible assumption)
         rw [takeN_put h1 h2 h5] <;> rfl)
      | (have h5 := of_decide_eq_false (show decide ((putI x.items i).2 = 0) = false by with_reducible assumption)
         rw [takeN_not h1 h2 h5] <;> rfl))
end Go.Proofs.YtjjpakdlkjaigaaGreat

/- Contracts: msg. -/
namespace Go.Proofs.YtjjpakdlkjaigaaGreat
open Go.RowKit
set_option maxRecDepth 20000
theorem etaMsg (m : GMsg) : (⟨m.kind, m.src, m.dst, m.ids, m.key, ⟨m.item.key, ⟨m.item.ver.count, m.item.ver.writer⟩, m.item.value, m.item.gone⟩, m.has⟩ : GMsg) = m := rfl
def item0B (i : GItem) : Bool := decide (i.key = 0) && (decide (i.ver.count = 0) && (decide (i.ver.writer = 0) && (decide (i.value = 0) && !i.gone)))
def noneB (m : GMsg) : Bool := decide (m.ids.length = 0) && (decide (m.key = 0) && (item0B m.item && !m.has))
theorem k_none : Known Tryz.prog tau 182 (S1 dMsg fun x => okB (noneB x)) := by
 refine known1 hmix tau_ok ctx_nil (fn := Tryz.f182) (by kernel_rfl) [] (by kernel_rfl) _ _ fun x hfit => ⟨rfl, [], ?_⟩
 refine V1 ?_; constructor <;> (first | (with_reducible exact TT.i) | (intros; (repeat (apply Wk.mk; intro Kv hN hX hR)); apply Wr.mk))
 all_goals simp_all [noneB, item0B, Rw.len]
def bodyB (m : GMsg) : Bool :=
 if m.kind = 0 then noneB { m with ids := [] } && (decide ((m.ids.length : Int) ≤ 16) && m.ids.all placeB)
 else if m.kind = 1 then noneB { m with item := ⟨0, ⟨0, 0⟩, 0, false⟩ } && itemB m.item
 else if m.kind = 2 then noneB { m with key := 0 } && placeB m.key
 else if m.kind = 3 then decide (m.ids.length = 0) && (placeB m.key && ((!m.has && item0B m.item) || (m.has && (itemB m.item && decide (m.item.key = m.key)))))
 else false
def mayB (m : GMsg) : Bool := placeB m.src && (placeB m.dst && (!decide (m.src = m.dst) && bodyB m))
theorem k_MsgMay : Known Tryz.prog tau 134 (S1 dMsg fun x => okB (mayB x)) := by
 refine known1 hmix tau_ok (ctx_cons k_Place (ctx_cons k_Places (ctx_cons k_none (ctx_cons k_ItemMay ctx_nil)))) (fn := Tryz.f134) (by kernel_rfl) [] (by kernel_rfl) _ _ fun x hfit => ⟨rfl, [], ?_⟩
 clear hfit
 obtain ⟨kind, src, dst, ids, key, ⟨ik, ⟨ic, iw⟩, iv, ig⟩, has⟩ := x
 refine V1 ?_; constructor <;> (first | (with_reducible exact TT.i) | (intros; (repeat (apply Wk.mk; intro Kv hN hX hR)); apply Wr.mk))
 all_goals (try simp_all [mayB, bodyB, noneB, item0B, Rw.len])
 all_goals (intros; omega)
theorem k_refMsg : Known Tryz.prog tau 68 (S1 dMsg fun x => okB (mayB x)) := by
 refine known1 hmix tau_ok (ctx_cons k_refPlace (ctx_cons k_refPlaces (ctx_cons k_refItem ctx_nil))) (fn := Tryz.f68) (by kernel_rfl) [] (by kernel_rfl) _ _ fun x hfit => ⟨rfl, [], ?_⟩
 clear hfit
 obtain ⟨kind, src, dst, ids, key, ⟨ik, ⟨ic, iw⟩, iv, ig⟩, has⟩ := x
 refine V1 ?_; constructor <;> (first | (with_reducible exact TT.i) | (intros; (repeat (apply Wk.mk; intro Kv hN hX hR)); apply Wr.mk))
 all_goals (try simp_all [mayB, bodyB, noneB, item0B, Rw.len])
end Go.Proofs.YtjjpakdlkjaigaaGreat

/- Contracts: getting. -/
namespace Go.Proofs.YtjjpakdlkjaigaaGreat
open Go.RowKit
set_option maxRecDepth 20000
def toldT (key : Int) (i : GItem) (has : Bool) : GTold := if (has && !i.gone) = true then ⟨key, true, i.value⟩ else ⟨key, false, 0⟩
def noteL (x : GNode) (key : Int) (i : GItem) (has : Bool) : List GTold := (x.log ++ [toldT key i has]).drop (x.log.length + 1 - 64)
noncomputable def noteN (x : GNode) (key : Int) (i : GItem) (has : Bool) : GNode := ⟨x.up, x.view, x.items, noteL x key i has⟩
def nOwn3 (n : GNode) : List SV := [.bool n.up, .int .i64 n.view.id, .own 0, .own 1, .own 2, .row .new (.tolds n.log)]
def nRows3 (n : GNode) : List Rw := [.peers n.view.peers, .ints n.view.passive, .items n.items]
theorem k_note : Known Tryz.prog tau 163 (S4 dNode dInt dItem dBool fun x k i h => .ob (x.log.length ≤ 64) (.agg (nOwn3 (noteN x k i h))) (nRows3 (noteN x k i h))) := by
 refine known4 hmix tau_ok (ctx_cons k_nodeCopy ctx_nil) (fn := Tryz.f163) (by kernel_rfl) [(4, [(0, 0), (1, 1), (2, 0), (3, 4), (4, 15), (5, 31)])] (by kernel_rfl) _ _ _ _ _ fun x k i h hfit hs => ⟨rfl, [], ?_⟩
 clear hfit
 have e0 : ∀ t : GTold, (if 0 > IntKind.i64.wrap (((x.log ++ [t]).length : Nat) - 64) then (0 : Int) else IntKind.i64.wrap (((x.log ++ [t]).length : Nat) - 64)) = ((x.log.length + 1 - 64 : Nat) : Int) := by
  intro t
  rw [List.length_append, List.length_cons, List.length_nil, wrapI (by omega) (by omega)]
  split <;> omega
 have e1 : ∀ t : GTold, (List.take (((x.log ++ [t]).length : Nat) : Int).toNat (x.log ++ [t])) = x.log ++ [t] := fun t => by rw [Int.toNat_natCast, List.take_of_length_le (Nat.le_refl _)]
 have tl : ∀ t : GTold, (x.log ++ [t]).length = x.log.length + 1 := fun t => by simp
 refine V1 ?_; constructor <;> (first | (with_reducible exact TT.i) | (intros; (repeat (apply Wk.mk; intro Kv hN hX hR)); apply Wr.mk))
 all_goals (try simp only [etaNode, e0, Int.toNat_natCast] at *)
 all_goals first
  | rfl
  | (refine Ob.mk ?_
     simp only [Rw.len, Rw.bts, Rw.kd, kdBytes, List.length_cons, List.length_nil]
     omega)
  | exact Ob.mk ⟨by omega, by rw [tl]; omega, by omega⟩
  | (show Rw.tolds (List.drop _ (List.take _ _)) = Rw.tolds (noteL x k i h)
     have t1 : toldT k i h = ⟨k, true, i.value⟩ := by
      unfold toldT
      rw [if_pos (by simp_all)]
     have e2 := e1 ⟨k, true, i.value⟩
     (try simp only [Int.toNat_natCast] at e2)
     unfold noteL
     rw [e2, t1]
     done)
  | (show Rw.tolds (List.drop _ (List.take _ _)) = Rw.tolds (noteL x k i h)
     have t1 : toldT k i h = ⟨k, false, 0⟩ := by
      unfold toldT
      rw [if_neg (by simp_all)]
     have e2 := e1 ⟨k, false, 0⟩
     (try simp only [Int.toNat_natCast] at e2)
     unfold noteL
     rw [e2, t1]
     done)
def dPNode : Dec GNode := ⟨fun x => match x with
 | .pt .any [.bool up, .int .i64 id, .row .any (.peers p), .row .any (.ints q), .row .any (.items i), .row .any (.tolds l)] => some ⟨up, ⟨id, p, q⟩, i, l⟩
 | _ => none, fun n => .pt .any [.bool n.up, .int .i64 n.view.id, .row .any (.peers n.view.peers), .row .any (.ints n.view.passive), .row .any (.items n.items), .row .any (.tolds n.log)], fun x a h => by
   split at h <;> simp at h; subst h; rfl⟩
def dPMsg : Dec GMsg := ⟨fun x => match x with
 | .pt .any [.int .i64 kind, .int .i64 src, .int .i64 dst, .row .any (.ints ids), .int .i64 key, .int .i64 ik, .int .i64 ic, .int .i64 iw, .int .i64 iv, .bool ig, .bool has] => some ⟨kind, src, dst, ids, key, ⟨ik, ⟨ic, iw⟩, iv, ig⟩, has⟩
 | _ => none, fun m => .pt .any [.int .i64 m.kind, .int .i64 m.src, .int .i64 m.dst, .row .any (.ints m.ids), .int .i64 m.key, .int .i64 m.item.key, .int .i64 m.item.ver.count, .int .i64 m.item.ver.writer, .int .i64 m.item.value, .bool m.item.gone, .bool m.has], fun x a h => by
   split at h <;> simp at h; subst h; rfl⟩
def toB (x : GNode) (m : GMsg) (k : Int) : Bool := (x.up && nodeB x) && (mayB m && (decide (m.kind = k) && decide (m.dst = x.view.id)))
theorem k_askTo : Known Tryz.prog tau 217 (S3 dPNode dPMsg dInt fun x m k => okB (toB x m k)) := by
 refine known3 hmix tau_ok (ctx_cons k_nodeUp (ctx_cons k_MsgMay ctx_nil)) (fn := Tryz.f217) (by kernel_rfl) [(1, ((0, 0) :: (1, 1) :: (2, 2) :: (3, 4) :: (4, 8) :: (5, 16) :: (6, 48) :: (7, 80) :: (8, 144) :: (9, 272) :: (10, 768) :: (11, 1024) :: (12, 3072) :: (13, 5120) :: (14, 9216) :: (15, 1024) :: (16, 50176) :: (17, 66560) :: (18, 132096) :: (19, 262144) :: (20, 786432) :: (21, 1310720) :: (22, 2359296) :: (23, 262144) :: (24, 8650752) :: (25, 17039360) :: (26, 33816576) :: (27, 67371008) :: (28, 138674176) :: (29, 268697600) :: (30, 1073741823) :: []))] (by kernel_rfl) _ _ _ _ fun x m k hfit => ⟨rfl, [], ?_⟩
 clear hfit
 refine V1 ?_; constructor <;> (first | (with_reducible exact TT.i) | (intros; (repeat (apply Wk.mk; intro Kv hN hX hR)); apply Wr.mk))
 all_goals (try simp only [etaNode, etaMsg] at *)
 all_goals first
  | rfl
  | (unfold toB; simp_all; done)
noncomputable def toldN (x : GNode) (m : GMsg) : GNode × Int := Classical.choose (seal_ex (if toB x m 3 = true then (noteN x m.key m.item m.has, (0 : Int)) else (nodeZ, 2100)))
theorem toldN_def (x : GNode) (m : GMsg) : toldN x m = if toB x m 3 = true then (noteN x m.key m.item m.has, (0 : Int)) else (nodeZ, 2100) := Classical.choose_spec (seal_ex _)
noncomputable def oToldN (x : GNode) (m : GMsg) : Out := .ok (.tup [.agg (nOwn3 (toldN x m).1), .int .i64 (toldN x m).2]) (nRows3 (toldN x m).1)
theorem node_log {x : GNode} (h : (x.up && nodeB x) = true) : x.log.length ≤ 64 := by
 simp only [nodeB, Bool.and_eq_true, decide_eq_true_eq] at h
 omega
theorem toB_up {x : GNode} {m : GMsg} {k : Int} (h : toB x m k = true) : (x.up && nodeB x) = true := by
 simp only [toB, Bool.and_eq_true] at h ⊢
 exact h.1
theorem k_told : Known Tryz.prog tau 195 (S2 dNode dMsg oToldN) := by
 refine known2 hmix tau_ok (ctx_cons k_askTo (ctx_cons k_note ctx_nil)) (fn := Tryz.f195) (by kernel_rfl) [] (by kernel_rfl) _ _ _ fun x m hfit => ⟨rfl, [], ?_⟩
 clear hfit
 refine V1 ?_; constructor <;> (first | (with_reducible exact TT.i) | (intros; (repeat (apply Wk.mk; intro Kv hN hX hR)); apply Wr.mk))
 all_goals (try simp only [etaNode, etaMsg, etaItem] at *)
 all_goals first
  | (have h := nf (show (!toB x m 3) = true by with_reducible assumption)
     rw [toldN_def, if_neg (by rw [h]; simp)] <;> rfl)
  | (have h := nt (show (!toB x m 3) = false by with_reducible assumption)
     first
      | exact Ob.mk (node_log (toB_up h))
      | (rw [toldN_def, if_pos h] <;> rfl))
noncomputable def tellM (x : GNode) (m : GMsg) : GMsg := ⟨3, x.view.id, m.src, [], m.key, (getS x.items m.key).1, (getS x.items m.key).2⟩
noncomputable def answerN (x : GNode) (m : GMsg) : List GMsg × Int := Classical.choose (seal_ex (if toB x m 2 = true then ([tellM x m], (0 : Int)) else ([], 2100)))
theorem answerN_def (x : GNode) (m : GMsg) : answerN x m = if toB x m 2 = true then ([tellM x m], (0 : Int)) else ([], 2100) := Classical.choose_spec (seal_ex _)
noncomputable def oAnswer (x : GNode) (m : GMsg) : Out := .ok (.tup [.own 0, .int .i64 (answerN x m).2]) [.msgs (answerN x m).1]
theorem k_answer : Known Tryz.prog tau 194 (S2 dNode dMsg oAnswer) := by
 refine known2 hmix tau_ok (ctx_cons k_askTo (ctx_cons k_storeGet ctx_nil)) (fn := Tryz.f194) (by kernel_rfl) [] (by kernel_rfl) _ _ _ fun x m hfit => ⟨rfl, [], ?_⟩
 clear hfit
 refine V1 ?_; constructor <;> (first | (with_reducible exact TT.i) | (intros; (repeat (apply Wk.mk; intro Kv hN hX hR)); apply Wr.mk))
 all_goals (try simp only [etaNode, etaMsg, etaItem] at *)
 all_goals first
  | (have h := nf (show (!toB x m 2) = true by with_reducible assumption)
     rw [answerN_def, if_neg (by rw [h]; simp)] <;> rfl)
  | (have h := nt (show (!toB x m 2) = false by with_reducible assumption)
     rw [answerN_def, if_pos h] <;> rfl)
noncomputable def askN (x : GNode) (k : Int) : GNode × List GMsg × Int := Classical.choose (seal_ex (if (x.up && nodeB x) = true ∧ placeB k = true then (if (ownV x.view k).1 = x.view.id then (noteN x k (getS x.items k).1 (getS x.items k).2, [], (0 : Int)) else (x, [⟨2, x.view.id, (ownV x.view k).1, [], k, iZ, false⟩], 0)) else (nodeZ, [], 2100)))
theorem askN_def (x : GNode) (k : Int) : askN x k = if (x.up && nodeB x) = true ∧ placeB k = true then (if (ownV x.view k).1 = x.view.id then (noteN x k (getS x.items k).1 (getS x.items k).2, [], (0 : Int)) else (x, [⟨2, x.view.id, (ownV x.view k).1, [], k, iZ, false⟩], 0)) else (nodeZ, [], 2100) := Classical.choose_spec (seal_ex _)
noncomputable def oAskN (x : GNode) (k : Int) : Out := .ok (.tup [.agg (nOwn3 (askN x k).1), .own 3, .int .i64 (askN x k).2.2]) (nRows3 (askN x k).1 ++ [.msgs (askN x k).2.1])
theorem askN_no {x : GNode} {k : Int} (h : (x.up && nodeB x) = false ∨ placeB k = false) : askN x k = (nodeZ, [], 2100) := by
 rw [askN_def, if_neg]
 rintro ⟨h1, h2⟩
 rcases h with h | h <;> simp_all
theorem k_askGet : Known Tryz.prog tau 104 (S2 dNode dInt oAskN) := by
 refine known2 hmix tau_ok (ctx_cons k_nodeUp (ctx_cons k_Place (ctx_cons k_viewOwner (ctx_cons k_storeGet (ctx_cons k_note (ctx_cons k_nodeCopy ctx_nil)))))) (fn := Tryz.f104) (by kernel_rfl) [] (by kernel_rfl) _ _ _ fun x k hfit => ⟨rfl, [], ?_⟩
 clear hfit
 refine V1 ?_; constructor <;> (first | (with_reducible exact TT.i) | (intros; (repeat (apply Wk.mk; intro Kv hN hX hR)); apply Wr.mk))
 all_goals (try simp only [etaNode, etaView, etaItem] at *)
 all_goals first
  | (rw [askN_no (.inl (nf aQ))] <;> rfl)
  | (rw [askN_no (.inr (nf aQ))] <;> rfl)
  | (have h1 := nt (show (!(x.up && nodeB x)) = false by with_reducible assumption)
     have h2 := nt (show (!placeB k) = false by with_reducible assumption)
     first
      | exact Ob.mk (node_log h1)
      | (have h3 := of_decide_eq_true (show decide ((ownV x.view k).1 = x.view.id) = true by with_reducible assumption)
         rw [askN_def, if_pos ⟨h1, h2⟩, if_pos h3] <;> rfl)
      | (have h3 := of_decide_eq_false (show decide ((ownV x.view k).1 = x.view.id) = false by with_reducible assumption)
         rw [askN_def, if_pos ⟨h1, h2⟩, if_neg h3] <;> rfl))
end Go.Proofs.YtjjpakdlkjaigaaGreat

/- Contracts: a message that comes. -/
namespace Go.Proofs.YtjjpakdlkjaigaaGreat
open Go.RowKit
set_option maxRecDepth 20000
noncomputable def handleN (x : GNode) (m : GMsg) : GNode × List GMsg × Int := Classical.choose (seal_ex (if (x.up && nodeB x) = true ∧ mayB m = true ∧ m.dst = x.view.id then (if m.kind = 0 then ((⟨x.up, (helloV x.view m.src m.ids).1, x.items, x.log⟩ : GNode), ([] : List GMsg), (0 : Int)) else if m.kind = 1 then ((takeN x m.item).1, [], 0) else if m.kind = 2 then (x, (answerN x m).1, 0) else ((toldN x m).1, [], 0)) else (nodeZ, [], 2200)))
theorem handleN_def (x : GNode) (m : GMsg) : handleN x m = if (x.up && nodeB x) = true ∧ mayB m = true ∧ m.dst = x.view.id then (if m.kind = 0 then ((⟨x.up, (helloV x.view m.src m.ids).1, x.items, x.log⟩ : GNode), ([] : List GMsg), (0 : Int)) else if m.kind = 1 then ((takeN x m.item).1, [], 0) else if m.kind = 2 then (x, (answerN x m).1, 0) else ((toldN x m).1, [], 0)) else (nodeZ, [], 2200) := Classical.choose_spec (seal_ex _)
def nNew6 (n : GNode) : List SV := [.bool n.up, .int .i64 n.view.id, .row .new (.peers n.view.peers), .row .new (.ints n.view.passive), .row .new (.items n.items), .row .new (.tolds n.log)]
noncomputable def oHandle (x : GNode) (m : GMsg) : Out := .ok (.tup [.agg (nNew6 (handleN x m).1), .own 0, .int .i64 (handleN x m).2.2]) [.msgs (handleN x m).2.1]
theorem handleN_no {x : GNode} {m : GMsg} (h : (x.up && nodeB x) = false ∨ mayB m = false ∨ ¬ m.dst = x.view.id) : handleN x m = (nodeZ, [], 2200) := by
 rw [handleN_def, if_neg]
 rintro ⟨h1, h2, h3⟩
 rcases h with h | h | h
 · rw [h] at h1; simp at h1
 · rw [h] at h2; simp at h2
 · exact h h3
theorem mayB_kind {m : GMsg} (h : mayB m = true) : m.kind = 0 ∨ m.kind = 1 ∨ m.kind = 2 ∨ m.kind = 3 := by
 simp only [mayB, Bool.and_eq_true, bodyB] at h
 have h := h.2.2.2
 by_cases h0 : m.kind = 0
 · exact .inl h0
 · by_cases h1 : m.kind = 1
   · exact .inr (.inl h1)
   · by_cases h2 : m.kind = 2
     · exact .inr (.inr (.inl h2))
     · by_cases h3 : m.kind = 3
       · exact .inr (.inr (.inr h3))
       · rw [if_neg h0, if_neg h1, if_neg h2, if_neg h3] at h
         simp at h
theorem t_hHello : TrKnown Tryz.prog tau 152 (inlT tau (mkCtx [(192, S3 dView dInt dInts oHello)]) [(1, [(0, 0), (1, 0), (2, 2), (3, 4), (4, 8), (5, 16), (6, 0), (7, 64), (8, 0), (9, 256), (10, 672), (11, 1024), (12, 2048), (13, 2048), (14, 8191), (15, 24575), (16, 40959), (17, 73727)])] [] Tryz.f152) := inl_ok hmix tau_ok (ctx_cons k_helloTake ctx_nil) (by kernel_rfl) _ (by kernel_rfl) []
theorem t_hItem : TrKnown Tryz.prog tau 153 (inlT tau (mkCtx [(193, S2 dNode dItem oTakeN)]) [(1, [(0, 0), (1, 0), (2, 2), (3, 4), (4, 8), (5, 0), (6, 32), (7, 80), (8, 128), (9, 256), (10, 256), (11, 1023), (12, 3071), (13, 5119)])] [] Tryz.f153) := inl_ok hmix tau_ok (ctx_cons k_takeItem ctx_nil) (by kernel_rfl) _ (by kernel_rfl) []
theorem t_hAsk : TrKnown Tryz.prog tau 154 (inlT tau (mkCtx [(194, S2 dNode dMsg oAnswer)]) [(1, [(0, 0), (1, 0), (2, 2), (3, 4), (4, 8), (5, 0), (6, 48), (7, 64), (8, 128), (9, 128), (10, 511), (11, 1535), (12, 2559)])] [] Tryz.f154) := inl_ok hmix tau_ok (ctx_cons k_answer ctx_nil) (by kernel_rfl) _ (by kernel_rfl) []
theorem t_hTell : TrKnown Tryz.prog tau 155 (inlT tau (mkCtx [(195, S2 dNode dMsg oToldN)]) [(1, [(0, 0), (1, 0), (2, 2), (3, 4), (4, 8), (5, 0), (6, 48), (7, 64), (8, 128), (9, 128), (10, 511), (11, 1535), (12, 2559)])] [] Tryz.f155) := inl_ok hmix tau_ok (ctx_cons k_told ctx_nil) (by kernel_rfl) _ (by kernel_rfl) []
theorem handle_0 {x : GNode} {m : GMsg} (h1 : (x.up && nodeB x) = true) (h2 : mayB m = true) (h3 : m.dst = x.view.id) (hk : m.kind = 0) : handleN x m = (⟨x.up, (helloV x.view m.src m.ids).1, x.items, x.log⟩, [], 0) := by rw [handleN_def, if_pos ⟨h1, h2, h3⟩, if_pos hk]
theorem handle_1 {x : GNode} {m : GMsg} (h1 : (x.up && nodeB x) = true) (h2 : mayB m = true) (h3 : m.dst = x.view.id) (hk : m.kind = 1) : handleN x m = ((takeN x m.item).1, [], 0) := by rw [handleN_def, if_pos ⟨h1, h2, h3⟩, if_neg (by omega), if_pos hk]
theorem handle_2 {x : GNode} {m : GMsg} (h1 : (x.up && nodeB x) = true) (h2 : mayB m = true) (h3 : m.dst = x.view.id) (hk : m.kind = 2) : handleN x m = (x, (answerN x m).1, 0) := by rw [handleN_def, if_pos ⟨h1, h2, h3⟩, if_neg (by omega), if_neg (by omega), if_pos hk]
theorem handle_3 {x : GNode} {m : GMsg} (h1 : (x.up && nodeB x) = true) (h2 : mayB m = true) (h3 : m.dst = x.view.id) (hk : m.kind = 3) : handleN x m = ((toldN x m).1, [], 0) := by rw [handleN_def, if_pos ⟨h1, h2, h3⟩, if_neg (by omega), if_neg (by omega), if_neg (by omega)]
set_option maxHeartbeats 2000000 in
theorem k_handle : Known Tryz.prog tau 98 (S2 dNode dMsg oHandle) := by
 refine knownX2 hmix tau_ok (fn := Tryz.f98) (by kernel_rfl) [(5, [(0, 0), (1, 1), (2, 2), (3, 4), (4, 0), (5, 24)]), (6, [(0, 0), (1, 1), (2, 2), (3, 4), (4, 0), (5, 16), (6, 32), (7, 64), (8, 15), (9, 511), (10, 1023)])] (by kernel_rfl) _ _ _ fun x m hfit => ?_
 obtain ⟨kind, src, dst, ids, key, it, has⟩ := m
 by_cases hk : kind = 0 ∨ kind = 1 ∨ kind = 2 ∨ kind = 3
 · rcases hk with rfl | rfl | rfl | rfl
   all_goals
    refine ⟨rfl, _, ctx_tr t_hHello (ctx_tr t_hItem (ctx_tr t_hAsk (ctx_tr t_hTell (ctx_cons k_nodeUp (ctx_cons k_MsgMay (ctx_cons k_nodeCopy ctx_nil)))))), [], ?_⟩
    clear hfit
    refine V1 ?_; constructor <;> (first | (with_reducible exact TT.i) | (intros; (repeat (apply Wk.mk; intro Kv hN hX hR)); apply Wr.mk))
   all_goals (try simp only [etaNode, etaMsg] at *)
   all_goals first
    | (rw [handleN_no (.inl (nf aQ))] <;> rfl)
    | (rw [handleN_no (.inr (.inl (nf aQ)))] <;> rfl)
    | (rw [handleN_no (.inr (.inr (of_decide_eq_false (nf (b := decide (dst = x.view.id)) aQ))))] <;> rfl)
    | (exact Ob.mk ⟨by decide, by decide⟩)
    | (have h1 := nt (show (!(x.up && nodeB x)) = false by with_reducible assumption)
       have h3 := of_decide_eq_true (nt (b := decide (dst = x.view.id)) aQ)
       first
        | (rw [handle_0 h1 (nt aQ) h3 rfl] <;> rfl)
        | (rw [handle_1 h1 (nt aQ) h3 rfl] <;> rfl)
        | (rw [handle_2 h1 (nt aQ) h3 rfl] <;> rfl)
        | (rw [handle_3 h1 (nt aQ) h3 rfl] <;> rfl))
 · have hno : mayB ⟨kind, src, dst, ids, key, it, has⟩ = false := by
    cases h : mayB ⟨kind, src, dst, ids, key, it, has⟩ with
    | false => rfl
    | true => exact absurd (mayB_kind h) hk
   have hno2 := handleN_no (x := x) (.inr (.inl hno))
   refine ⟨rfl, _, ctx_tr t_hHello (ctx_tr t_hItem (ctx_tr t_hAsk (ctx_tr t_hTell (ctx_cons k_nodeUp (ctx_cons k_MsgMay (ctx_cons k_nodeCopy ctx_nil)))))), [], ?_⟩
   clear hfit
   refine V1 ?_; constructor <;> (first | (with_reducible exact TT.i) | (intros; (repeat (apply Wk.mk; intro Kv hN hX hR)); apply Wr.mk))
   all_goals (try simp only [etaNode, etaMsg, hno] at *)
   all_goals first
    | (rw [handleN_no (.inl (nf aQ))] <;> rfl)
    | (rw [hno2] <;> rfl)
    | (exfalso; simp_all; done)
end Go.Proofs.YtjjpakdlkjaigaaGreat

/- Contracts: cuts. -/
namespace Go.Proofs.YtjjpakdlkjaigaaGreat
open Go.RowKit
set_option maxRecDepth 20000
def orL : List Int → Int
 | [] => 0
 | x :: l => if x = 0 then orL l else x
theorem orL_take {l : List Int} {i : Nat} (h : ∀ x ∈ l.take i, x = 0) : orL l = orL (l.drop i) := by
 induction i generalizing l with
 | zero => rfl
 | succ i ih =>
   cases l with
   | nil => rfl
   | cons x l =>
     have hx := h x (by simp)
     rw [orL, if_pos hx, List.drop_succ_cons]
     exact ih fun y hy => h y (by simp [hy])
theorem k_Or : Known Tryz.prog tau 181 (S1 dInts fun l => .ok (.int .i64 (orL l)) []) := by
 refine known1 hmix tau_ok ctx_nil (fn := Tryz.f181) (by kernel_rfl) [] (by kernel_rfl) _ _ fun l hfit => ⟨rfl,
  [(3, invX Nat [2, 5, 8, 9, 10, 11, 12, 13, 14, 15, 16] [] (fun i => i ≤ l.length ∧ ∀ x ∈ l.take i, x = 0) (fun i => withS [(8, .int .i64 i)]) (fun i => l.length - i))], ?_⟩
 have hp : l.length * 8 ≤ 140737488355328 := hfit.1
 clear hfit
 refine V2 ?_; constructor <;> (first | (with_reducible exact TT.i) | (intros; (repeat (apply Wk.mk; intro Kv hN hX hR)); apply Wr.mk))
 all_goals first
  | (refine ⟨0, ⟨Nat.zero_le _, by simp⟩, ?_⟩
     refine V1 ?_; constructor <;> (first | (with_reducible exact TT.i) | (intros; (repeat (apply Wk.mk; intro Kv hN hX hR)); apply Wr.mk))
     all_goals rfl)
  | (rintro i ⟨hi, h0⟩
     refine V1 ?_; constructor <;> (first | (with_reducible exact TT.i) | (intros; (repeat (apply Wk.mk; intro Kv hN hX hR)); apply Wr.mk))
     all_goals (try simp only [Int.toNat_natCast] at *)
     all_goals first
      | exact Ob.mk ⟨by omega, of_decide_eq_true aQ⟩
      | (have h := of_decide_eq_false (show decide ((i : Int) < (l.length : Nat)) = false by with_reducible assumption)
         rw [orL_take h0, List.drop_eq_nil_of_le (by omega)]
         rfl)
      | (have h := of_decide_eq_true (show decide ((i : Int) < (l.length : Nat)) = true by with_reducible assumption)
         have hd := drop_one_more (d := (0 : Int)) (l := l) (i := i) (by omega)
         first
          | (have hz := nt (show (!decide (l.getD i 0 = 0)) = false by with_reducible assumption)
             have hz := of_decide_eq_true hz
             refine ⟨i + 1, ⟨by omega, all_take_succ (d := 0) (by omega) h0 hz⟩, by omega, ?_⟩
             refine V1 ?_; constructor <;> (first | (with_reducible exact TT.i) | (intros; (repeat (apply Wk.mk; intro Kv hN hX hR)); apply Wr.mk))
             all_goals first
              | exact wrapI (by omega) (by omega)
              | rfl)
          | (have hz := of_decide_eq_false (nf (show (!decide (l.getD i 0 = 0)) = true by with_reducible assumption))
             rw [orL_take h0, hd, orL, if_neg hz]
             done)))
def cutCmp (p q : GCut) : Int := orL [cmpI p.a q.a, cmpI p.b q.b]
theorem k_cutOrder : Known Tryz.prog tau 132 (S2 dCut dCut fun p q => .ok (.int .i64 (cutCmp p q)) []) := by
 refine known2 hmix tau_ok (ctx_cons k_cmpCompare (ctx_cons k_Or ctx_nil)) (fn := Tryz.f132) (by kernel_rfl) [(1, [(0, 0), (1, 1), (2, 0), (3, 4), (4, 10), (5, 0), (6, 32), (7, 0), (8, 128), (9, 336), (10, 528), (11, 1536), (12, 4095)])] (by kernel_rfl) _ _ _ fun p q hfit => ⟨rfl, [], ?_⟩
 clear hfit
 refine V3 ?_; constructor <;> (first | (with_reducible exact TT.i) | (intros; (repeat (apply Wk.mk; intro Kv hN hX hR)); apply Wr.mk))
 all_goals first
  | (refine Ob.mk ?_; decide)
  | rfl
end Go.Proofs.YtjjpakdlkjaigaaGreat

/- Contracts: worlds: their nodes, their cuts. -/
namespace Go.Proofs.YtjjpakdlkjaigaaGreat
open Go.RowKit
set_option maxRecDepth 20000
def dPWorld : Dec GWorld := ⟨fun x => match x with
 | .pt .any [.row .any (.nodes n), .row .any (.cuts c), .row .any (.msgs p)] => some ⟨n, c, p⟩
 | _ => none, fun w => .pt .any [.row .any (.nodes w.nodes), .row .any (.cuts w.cuts), .row .any (.msgs w.packets)], fun x a h => by
   split at h <;> simp at h; subst h; rfl⟩
def dFnWorld (f : FuncId) : Dec GWorld := ⟨fun x => match x with
 | .clo g [] [.pt .any [.row .any (.nodes n), .row .any (.cuts c), .row .any (.msgs p)]] => match Nat.beq g f with
   | true => some ⟨n, c, p⟩
   | false => none
 | _ => none, fun w => .clo f [] [.pt .any [.row .any (.nodes w.nodes), .row .any (.cuts w.cuts), .row .any (.msgs w.packets)]], fun x a h => by
   split at h
   · split at h
     · rename_i hg; simp at h; subst h; rw [Nat.eq_of_beq_eq_true hg]
     · simp at h
   · simp at h⟩
theorem etaNd (x : GNode) : (⟨x.up, ⟨x.view.id, x.view.peers, x.view.passive⟩, x.items, x.log⟩ : GNode) = x := rfl
theorem k_wFind1 : Known Tryz.prog tau 139 (S2 dNode dInt fun n x => .ok (.int .i64 (cmpI n.view.id x)) []) := by
 refine known2 hmix tau_ok (ctx_cons k_cmpCompare ctx_nil) (fn := Tryz.f139) (by kernel_rfl) [] (by kernel_rfl) _ _ _ fun n x hfit => ⟨rfl, [], ?_⟩
 clear hfit
 refine V1 ?_; constructor <;> (first | (with_reducible exact TT.i) | (intros; (repeat (apply Wk.mk; intro Kv hN hX hR)); apply Wr.mk))
 all_goals first
  | rfl
def RisingN (l : List GNode) : Prop := ∀ s t, s < t → t < l.length → (l.getD s default).view.id < (l.getD t default).view.id
theorem risingN_le {l : List GNode} (hs : RisingN l) {s t : Nat} (h : s ≤ t) (ht : t < l.length) : (l.getD s default).view.id ≤ (l.getD t default).view.id := by
 rcases Nat.lt_or_eq_of_le h with h | rfl
 · exact Int.le_of_lt (hs s t h ht)
 · exact Int.le_refl _
def cntNd (l : List GNode) (x : Int) : Int := ((l.countP fun n => decide (n.view.id < x) : Nat) : Int)
def isNd (l : List GNode) (x : Int) : Bool := l.any fun n => decide (n.view.id = x)
theorem k_searchN : Known Tryz.prog tau 138 (S3 dNodes dInt (dFn 139) fun l x _ => .ob (RisingN l) (.tup [.int .i64 (cntNd l x), .bool (isNd l x)]) []) := by
 refine known3 hmix tau_ok (ctx_cons k_wFind1 ctx_nil) (fn := Tryz.f138) (by kernel_rfl) [] (by kernel_rfl) _ _ _ _ fun l x _ hfit hs => ⟨rfl,
  [(3, invX (Nat × Nat) [9, 10, 11, 15, 16, 17, 18, 19, 20, 21, 22, 23, 24, 25, 26, 27, 28, 29, 30, 31, 32, 33, 34] [] (fun g => g.1 ≤ g.2 ∧ g.2 ≤ l.length ∧ (∀ t, t < g.1 → (l.getD t default).view.id < x) ∧ ∀ t, g.2 ≤ t → t < l.length → x ≤ (l.getD t default).view.id) (fun g => withS [(9, .int .i64 g.1), (10, .int .i64 g.2)]) (fun g => g.2 - g.1))], ?_⟩
 have hlen : l.length * 112 ≤ 140737488355328 := hfit.1.1
 clear hfit
 refine V2 ?_; constructor <;> (first | (with_reducible exact TT.i) | (intros; (repeat (apply Wk.mk; intro Kv hN hX hR)); apply Wr.mk))
 all_goals first
  | (refine ⟨(0, l.length), ⟨Nat.zero_le _, Nat.le_refl _, by intros; omega, by intros; omega⟩, ?_⟩
     refine V1 ?_; constructor <;> (first | (with_reducible exact TT.i) | (intros; (repeat (apply Wk.mk; intro Kv hN hX hR)); apply Wr.mk))
     all_goals rfl)
  | (rintro ⟨i, j⟩ ⟨hij, hj, h1, h2⟩
     dsimp only at hij hj h1 h2
     refine V1 ?_; constructor <;> (first | (with_reducible exact TT.i) | (intros; (repeat (apply Wk.mk; intro Kv hN hX hR)); apply Wr.mk))
     all_goals (try dsimp only at *)
     all_goals (try simp only [cmpI_lt, cmpI_eq, etaNd] at *)
     all_goals first
      | (refine Ob.mk ?_; decide)
      | (have hlt := of_decide_eq_true (show decide ((i : Int) < (j : Int)) = true by with_reducible assumption)
         obtain ⟨h, eh, h3, h4⟩ := mid_ok (i := i) (j := j) (n := l.length) (by omega) hj (by omega)
         simp only [eh, Int.toNat_natCast] at *
         first
          | exact Ob.mk ⟨by omega, by omega⟩
          | (have hc := of_decide_eq_true (show decide ((l.getD h default).view.id < x) = true by with_reducible assumption)
             refine ⟨(h + 1, j), ⟨by omega, hj, fun t ht => ?_, h2⟩, by show j - (h + 1) < j - i; omega, ?_⟩
             · have := risingN_le hs (s := t) (t := h) (by omega) (by omega)
               omega
             · have e1 := wrap_up (h := h) (n := l.length) (by omega) (by omega)
               refine V1 ?_; constructor <;> (first | (with_reducible exact TT.i) | (intros; (repeat (apply Wk.mk; intro Kv hN hX hR)); apply Wr.mk))
               all_goals first
                | exact e1
                | rfl)
          | (have hc := of_decide_eq_false (show decide ((l.getD h default).view.id < x) = false by with_reducible assumption)
             refine ⟨(i, h), ⟨by omega, by omega, h1, fun t ht ht2 => ?_⟩, by show h - i < j - i; omega, ?_⟩
             · have := risingN_le hs (s := h) (t := t) ht ht2
               omega
             · refine V1 ?_; constructor <;> (first | (with_reducible exact TT.i) | (intros; (repeat (apply Wk.mk; intro Kv hN hX hR)); apply Wr.mk))
               all_goals rfl))
      | (have hge := of_decide_eq_false (show decide ((i : Int) < (j : Int)) = false by with_reducible assumption)
         obtain rfl : i = j := by omega
         have e1 : cntNd l x = (i : Int) := congrArg Int.ofNat (search_end (d := default) (κ := fun p : GNode => p.view.id) (K := x) hj h1 h2)
         have e2 : isNd l x = (decide (i < l.length) && decide ((l.getD i default).view.id = x)) := search_there (d := default) (κ := fun p : GNode => p.view.id) hs h1 h2
         (try simp only [Int.toNat_natCast] at *)
         first
          | exact Ob.mk ⟨by omega, of_decide_eq_true aQ⟩
          | exact e1.symm
          | (have a1 := of_decide_eq_true (show decide ((i : Int) < (l.length : Nat)) = true by with_reducible assumption)
             rw [e2, decide_eq_true (show i < l.length by omega), Bool.true_and]
             done)
          | (have a2 := of_decide_eq_true (show decide ((l.getD i default).view.id = x) = true by with_reducible assumption)
             have a1 := of_decide_eq_true (show decide ((i : Int) < (l.length : Nat)) = true by with_reducible assumption)
             rw [e2, decide_eq_true a2, decide_eq_true (show i < l.length by omega)]
             rfl)
          | (have a2 := of_decide_eq_false (show decide ((l.getD i default).view.id = x) = false by with_reducible assumption)
             rw [e2, decide_eq_false a2, Bool.and_false])
          | (have a1 := of_decide_eq_false (show decide ((i : Int) < (l.length : Nat)) = false by with_reducible assumption)
             rw [e2, decide_eq_false (show ¬ i < l.length by omega), Bool.false_and])))
theorem k_wFind : Known Tryz.prog tau 85 (S2 dPWorld dInt fun w x => .ob (RisingN w.nodes) (.tup [.int .i64 (cntNd w.nodes x), .bool (isNd w.nodes x)]) []) := by
 refine known2 hmix tau_ok (ctx_cons k_searchN ctx_nil) (fn := Tryz.f85) (by kernel_rfl) [] (by kernel_rfl) _ _ _ fun w x hfit hs => ⟨rfl, [], ?_⟩
 clear hfit
 refine V1 ?_; constructor <;> (first | (with_reducible exact TT.i) | (intros; (repeat (apply Wk.mk; intro Kv hN hX hR)); apply Wr.mk))
 all_goals first
  | exact Ob.mk hs
  | rfl
def nodesB (l : List GNode) : Bool := decide (1 ≤ l.length) && (decide (l.length ≤ 8) && (decide (l.Pairwise fun p q => p.view.id < q.view.id) && l.all nodeB))
theorem etaNg {l : List GNode} {i : Nat} (h : i < l.length) : l.getD i default = l[i] := by simp [List.getD_eq_getElem?_getD, h]
theorem risingN_iff {l : List GNode} : RisingN l ↔ l.Pairwise fun p q => p.view.id < q.view.id := by
 rw [List.pairwise_iff_getElem]
 constructor
 · intro h i j hi hj hij
   have := h i j hij hj
   rwa [etaNg hi, etaNg hj] at this
 · intro h i j hij hj
   rw [etaNg (show i < l.length by omega), etaNg hj]
   exact h i j (by omega) hj hij
theorem nodesB_iff {l : List GNode} : nodesB l = true ↔ 1 ≤ l.length ∧ l.length ≤ 8 ∧ RisingN l ∧ ∀ p ∈ l, nodeB p = true := by
 simp only [nodesB, Bool.and_eq_true, decide_eq_true_eq, risingN_iff, List.all_eq_true]
theorem nodesB_no {l : List GNode} (h : ¬ (1 ≤ l.length ∧ l.length ≤ 8 ∧ RisingN l ∧ ∀ p ∈ l, nodeB p = true)) : nodesB l = false := by
 rw [← nodesB_iff] at h
 simpa using h
theorem risingN_adj {l : List GNode} (h : ∀ t, t + 1 < l.length → (l.getD t default).view.id < (l.getD (t + 1) default).view.id) : RisingN l := by
 intro s t
 induction t with
 | zero => intro h1; omega
 | succ t ih =>
   intro h1 h2
   have := h t h2
   rcases Nat.lt_or_eq_of_le (Nat.le_of_lt_succ h1) with h3 | rfl
   · have := ih h3 (by omega)
     omega
   · exact this
set_option maxHeartbeats 4000000 in
theorem k_nodes : Known Tryz.prog tau 79 (S1 dNodes fun l => okB (nodesB l)) := by
 refine known1 hmix tau_ok (ctx_cons k_nodeMay ctx_nil) (fn := Tryz.f79) (by kernel_rfl) [(4, [(0, 0), (1, 1), (2, 2), (3, 6), (4, 8), (5, 24), (6, 40), (7, 64), (8, 64), (9, 320), (10, 704), (11, 1088), (12, 2112), (13, 4160), (14, 64), (15, 16448), (16, 32832), (17, 73792), (18, 131144), (19, 262152)])] (by kernel_rfl) _ _ fun xs hfit => ⟨rfl,
  [(2, invN (2 :: 3 :: 4 :: 7 :: 8 :: 9 :: 10 :: 11 :: 12 :: 13 :: 14 :: 15 :: 16 :: 17 :: 18 :: 19 :: 20 :: 21 :: 22 :: 23 :: 24 :: 25 :: 26 :: 27 :: 28 :: 29 :: 30 :: 31 :: 32 :: []) (fun i => i ≤ xs.length ∧ (∀ x ∈ xs.take i, nodeB x = true) ∧ ∀ t, t + 1 < i → (xs.getD t default).view.id < (xs.getD (t + 1) default).view.id) (fun i => withS [(7, .int .i64 i)]) (fun i => xs.length - i))], ?_⟩
 have hlen : xs.length * 112 ≤ 140737488355328 := hfit.1.1
 clear hfit
 refine V2 ?_; constructor <;> (first | (with_reducible exact TT.i) | (intros; (repeat (apply Wk.mk; intro Kv hN hX hR)); apply Wr.mk))
 all_goals first
  | (refine ⟨0, ⟨by omega, by simp, by intros; omega⟩, ?_⟩
     refine V1 ?_; constructor <;> (first | (with_reducible exact TT.i) | (intros; (repeat (apply Wk.mk; intro Kv hN hX hR)); apply Wr.mk))
     all_goals rfl)
  | (with_reducible intro i hi
     refine V1 ?_; constructor <;> (first | (with_reducible exact TT.i) | (intros; (repeat (apply Wk.mk; intro Kv hN hX hR)); apply Wr.mk))
     all_goals (try simp only [Int.toNat_natCast, etaNd] at *)
     all_goals first
      | exact Ob.mk ⟨by omega, of_decide_eq_true aQ⟩
      | (have h := of_decide_eq_true (show decide ((i : Int) < (xs.length : Nat)) = true by with_reducible assumption)
         first
          | (have h0 := of_decide_eq_true (show decide (0 < (i : Int)) = true by with_reducible assumption)
             have hb := back1 (i := i) (by omega) (by omega)
             exact Ob.mk (by rw [hb.2]; omega))
          | (have hm := nf (show (!nodeB (xs.getD i default)) = true by with_reducible assumption)
             refine (nodesB_no ?_).symm
             rintro ⟨_, _, _, h3⟩
             have := h3 _ (getD_mem (l := xs) (i := i) (d := default) (by omega))
             rw [this] at hm
             simp at hm)
          | (have h0 := of_decide_eq_true (show decide (0 < (i : Int)) = true by with_reducible assumption)
             have hb := back1 (i := i) (by omega) (by omega)
             have hm := of_decide_eq_true (show decide ((xs.getD i default).view.id ≤ (xs.getD (IntKind.i64.wrap ((i : Int) - 1)).toNat default).view.id) = true by with_reducible assumption)
             rw [hb.1] at hm
             refine (nodesB_no ?_).symm
             rintro ⟨_, _, h2, _⟩
             have := h2 (i - 1) i (by omega) (by omega)
             omega)
          | (have hp := nt (show (!nodeB (xs.getD i default)) = false by with_reducible assumption)
             refine ⟨i + 1, ⟨by omega, all_take_succ (d := default) (by omega) hi.2.1 hp, fun t ht => ?_⟩, by show xs.length - (i + 1) < xs.length - i; omega, ?_⟩
             · rcases Nat.lt_or_eq_of_le (Nat.le_of_lt_succ ht) with h3 | h3
               · exact hi.2.2 t h3
               · first
                  | (have h0 := of_decide_eq_false (show decide (0 < (i : Int)) = false by with_reducible assumption)
                     omega)
                  | (have hb := back1 (i := i) (by omega) (by omega)
                     have hm := of_decide_eq_false (show decide ((xs.getD i default).view.id ≤ (xs.getD (IntKind.i64.wrap ((i : Int) - 1)).toNat default).view.id) = false by with_reducible assumption)
                     rw [hb.1] at hm
                     rw [show t = i - 1 by omega, show i - 1 + 1 = i by omega]
                     omega)
             · refine V1 ?_; constructor <;> (first | (with_reducible exact TT.i) | (intros; (repeat (apply Wk.mk; intro Kv hN hX hR)); apply Wr.mk))
               all_goals first
                | exact wrapI (by omega) (by omega)
                | rfl))
      | (have h := of_decide_eq_false (show decide ((i : Int) < (xs.length : Nat)) = false by with_reducible assumption)
         obtain rfl : i = xs.length := by omega
         have h2 := hi.2.1
         rw [List.take_of_length_le (Nat.le_refl _)] at h2
         have h3 := risingN_adj hi.2.2
         first
          | (have h1 := of_decide_eq_false (show decide ((1 : Int) ≤ (xs.length : Nat)) = false by with_reducible assumption)
             exact (nodesB_no fun h => by have := h.1; omega).symm)
          | (have h1 := of_decide_eq_true (show decide ((1 : Int) ≤ (xs.length : Nat)) = true by with_reducible assumption)
             by_cases h4 : xs.length ≤ 8
             · rw [nodesB_iff.2 ⟨by omega, h4, h3, h2⟩]
               exact decide_eq_true (by omega)
             · rw [nodesB_no (fun h => h4 h.2.1)]
               exact decide_eq_false (by omega))))
def cutLt (p q : GCut) : Prop := p.a < q.a ∨ (p.a = q.a ∧ p.b < q.b)
instance (p q : GCut) : Decidable (cutLt p q) := by unfold cutLt; exact inferInstance
def cutB (c : GCut) : Bool := placeB c.a && (placeB c.b && decide (c.a < c.b))
def cutsB (l : List GCut) : Bool := decide (l.length ≤ 32) && (decide (l.Pairwise cutLt) && l.all cutB)
theorem cmpI_one (a b : Int) : (a < b ∧ cmpI a b = -1) ∨ (a = b ∧ cmpI a b = 0) ∨ (b < a ∧ cmpI a b = 1) := by
 unfold cmpI
 split
 · exact .inl ⟨by assumption, rfl⟩
 · split
   · exact .inr (.inr ⟨by omega, rfl⟩)
   · exact .inr (.inl ⟨by omega, rfl⟩)
theorem cutCmp_lt {p q : GCut} : cutCmp p q < 0 ↔ cutLt p q := by
 unfold cutCmp cutLt orL orL orL
 rcases cmpI_one p.a q.a with ⟨h, e⟩ | ⟨h, e⟩ | ⟨h, e⟩ <;> rcases cmpI_one p.b q.b with ⟨h', e'⟩ | ⟨h', e'⟩ | ⟨h', e'⟩ <;> rw [e, e'] <;> simp <;> omega
def RisingCt (l : List GCut) : Prop := ∀ s t, s < t → t < l.length → cutLt (l.getD s default) (l.getD t default)
theorem etaCg {l : List GCut} {i : Nat} (h : i < l.length) : l.getD i default = l[i] := by simp [List.getD_eq_getElem?_getD, h]
theorem etaCut (c : GCut) : (⟨c.a, c.b⟩ : GCut) = c := rfl
theorem risingCt_iff {l : List GCut} : RisingCt l ↔ l.Pairwise cutLt := by
 rw [List.pairwise_iff_getElem]
 constructor
 · intro h i j hi hj hij
   have := h i j hij hj
   rwa [etaCg hi, etaCg hj] at this
 · intro h i j hij hj
   rw [etaCg (show i < l.length by omega), etaCg hj]
   exact h i j (by omega) hj hij
theorem cutsB_iff {l : List GCut} : cutsB l = true ↔ l.length ≤ 32 ∧ RisingCt l ∧ ∀ p ∈ l, cutB p = true := by
 simp only [cutsB, Bool.and_eq_true, decide_eq_true_eq, risingCt_iff, List.all_eq_true]
theorem cutsB_no {l : List GCut} (h : ¬ (l.length ≤ 32 ∧ RisingCt l ∧ ∀ p ∈ l, cutB p = true)) : cutsB l = false := by
 rw [← cutsB_iff] at h
 simpa using h
theorem cutLt_trans {p q r : GCut} (h : cutLt p q) (h2 : cutLt q r) : cutLt p r := by
 unfold cutLt at *
 omega
theorem risingCt_adj {l : List GCut} (h : ∀ t, t + 1 < l.length → cutLt (l.getD t default) (l.getD (t + 1) default)) : RisingCt l := by
 intro s t
 induction t with
 | zero => intro h1; omega
 | succ t ih =>
   intro h1 h2
   have := h t h2
   rcases Nat.lt_or_eq_of_le (Nat.le_of_lt_succ h1) with h3 | rfl
   · exact cutLt_trans (ih h3 (by omega)) this
   · exact this
set_option maxHeartbeats 8000000 in
theorem k_cutsMay : Known Tryz.prog tau 80 (S1 dCuts fun l => okB (cutsB l)) := by
 refine known1 hmix tau_ok (ctx_cons k_Place (ctx_cons k_cutOrder ctx_nil)) (fn := Tryz.f80) (by kernel_rfl) [(4, ((0, 0) :: (1, 1) :: (2, 2) :: (3, 4) :: (4, 12) :: (5, 16) :: (6, 48) :: (7, 80) :: (8, 144) :: (9, 272) :: (10, 640) :: (11, 1024) :: (12, 3072) :: (13, 1024) :: (14, 9216) :: (15, 21504) :: (16, 33792) :: (17, 66560) :: (18, 131072) :: (19, 393216) :: (20, 655360) :: (21, 1048576) :: (22, 1048576) :: (23, 5242880) :: (24, 11534336) :: (25, 17825792) :: (26, 1048576) :: (27, 101711872) :: (28, 135266304) :: (29, 269615104) :: (30, 537001984) :: []))] (by kernel_rfl) _ _ fun xs hfit => ⟨rfl,
  [(2, invN (2 :: 3 :: 4 :: 7 :: 8 :: 9 :: 10 :: 11 :: 12 :: 13 :: 14 :: 15 :: 16 :: 17 :: 18 :: 19 :: 20 :: 21 :: 22 :: 23 :: 24 :: 25 :: 26 :: 27 :: 28 :: 29 :: 30 :: 31 :: 32 :: 33 :: 34 :: 35 :: 36 :: 37 :: 38 :: 39 :: 40 :: 41 :: 42 :: 43 :: []) (fun i => i ≤ xs.length ∧ (∀ x ∈ xs.take i, cutB x = true) ∧ ∀ t, t + 1 < i → cutLt (xs.getD t default) (xs.getD (t + 1) default)) (fun i => withS [(7, .int .i64 i)]) (fun i => xs.length - i))], ?_⟩
 have hlen : xs.length * 16 ≤ 140737488355328 := hfit.1
 clear hfit
 refine V2 ?_; constructor <;> (first | (with_reducible exact TT.i) | (intros; (repeat (apply Wk.mk; intro Kv hN hX hR)); apply Wr.mk))
 all_goals first
  | (refine ⟨0, ⟨by omega, by simp, by intros; omega⟩, ?_⟩
     refine V1 ?_; constructor <;> (first | (with_reducible exact TT.i) | (intros; (repeat (apply Wk.mk; intro Kv hN hX hR)); apply Wr.mk))
     all_goals rfl)
  | (with_reducible intro i hi
     refine V1 ?_; constructor <;> (first | (with_reducible exact TT.i) | (intros; (repeat (apply Wk.mk; intro Kv hN hX hR)); apply Wr.mk))
     all_goals (try simp only [Int.toNat_natCast, etaCut] at *)
     all_goals first
      | exact Ob.mk ⟨by omega, of_decide_eq_true aQ⟩
      | (have h := of_decide_eq_true (show decide ((i : Int) < (xs.length : Nat)) = true by with_reducible assumption)
         have hmem := getD_mem (l := xs) (i := i) (d := default) (by omega)
         first
          | (have h0 := of_decide_eq_true (show decide (0 < (i : Int)) = true by with_reducible assumption)
             have hb := back1 (i := i) (by omega) (by omega)
             exact Ob.mk (by rw [hb.2]; omega))
          | (have hm := nf (show (!placeB (xs.getD i default).a) = true by with_reducible assumption)
             refine (cutsB_no ?_).symm
             rintro ⟨_, _, h3⟩
             have := h3 _ hmem
             unfold cutB at this
             rw [hm] at this
             simp at this)
          | (have hm := nf (show (!placeB (xs.getD i default).b) = true by with_reducible assumption)
             refine (cutsB_no ?_).symm
             rintro ⟨_, _, h3⟩
             have := h3 _ hmem
             unfold cutB at this
             rw [hm] at this
             simp at this)
          | (have hm := of_decide_eq_true (show decide ((xs.getD i default).b ≤ (xs.getD i default).a) = true by with_reducible assumption)
             refine (cutsB_no ?_).symm
             rintro ⟨_, _, h3⟩
             have := h3 _ hmem
             unfold cutB at this
             rw [decide_eq_false (show ¬ (xs.getD i default).a < (xs.getD i default).b by omega)] at this
             simp at this)
          | (have h0 := of_decide_eq_true (show decide (0 < (i : Int)) = true by with_reducible assumption)
             have hb := back1 (i := i) (by omega) (by omega)
             have hm := of_decide_eq_true (show decide (0 ≤ cutCmp (xs.getD (IntKind.i64.wrap ((i : Int) - 1)).toNat default) (xs.getD i default)) = true by with_reducible assumption)
             rw [hb.1] at hm
             refine (cutsB_no ?_).symm
             rintro ⟨_, h2, _⟩
             have := cutCmp_lt.2 (h2 (i - 1) i (by omega) (by omega))
             omega)
          | (have hp : cutB (xs.getD i default) = true := by
              unfold cutB
              rw [nt (show (!placeB (xs.getD i default).a) = false by with_reducible assumption), nt (show (!placeB (xs.getD i default).b) = false by with_reducible assumption)]
              have hm := of_decide_eq_false (show decide ((xs.getD i default).b ≤ (xs.getD i default).a) = false by with_reducible assumption)
              rw [decide_eq_true (show (xs.getD i default).a < (xs.getD i default).b by omega)]
              rfl
             refine ⟨i + 1, ⟨by omega, all_take_succ (d := default) (by omega) hi.2.1 hp, fun t ht => ?_⟩, by show xs.length - (i + 1) < xs.length - i; omega, ?_⟩
             · rcases Nat.lt_or_eq_of_le (Nat.le_of_lt_succ ht) with h3 | h3
               · exact hi.2.2 t h3
               · first
                  | (have h0 := of_decide_eq_false (show decide (0 < (i : Int)) = false by with_reducible assumption)
                     omega)
                  | (have hb := back1 (i := i) (by omega) (by omega)
                     have hm := of_decide_eq_false (show decide (0 ≤ cutCmp (xs.getD (IntKind.i64.wrap ((i : Int) - 1)).toNat default) (xs.getD i default)) = false by with_reducible assumption)
                     rw [hb.1] at hm
                     rw [show t = i - 1 by omega, show i - 1 + 1 = i by omega]
                     exact cutCmp_lt.1 (by omega))
             · refine V1 ?_; constructor <;> (first | (with_reducible exact TT.i) | (intros; (repeat (apply Wk.mk; intro Kv hN hX hR)); apply Wr.mk))
               all_goals first
                | exact wrapI (by omega) (by omega)
                | rfl))
      | (have h := of_decide_eq_false (show decide ((i : Int) < (xs.length : Nat)) = false by with_reducible assumption)
         obtain rfl : i = xs.length := by omega
         have h2 := hi.2.1
         rw [List.take_of_length_le (Nat.le_refl _)] at h2
         have h3 := risingCt_adj hi.2.2
         by_cases h4 : xs.length ≤ 32
         · rw [cutsB_iff.2 ⟨h4, h3, h2⟩]
           exact decide_eq_true (by omega)
         · rw [cutsB_no (fun h => h4 h.1)]
           exact decide_eq_false (by omega)))
end Go.Proofs.YtjjpakdlkjaigaaGreat

/- Contracts: the laws' own small functions, of messages. -/
namespace Go.Proofs.YtjjpakdlkjaigaaGreat
open Go.RowKit
set_option maxRecDepth 20000
theorem k_SameMsg : Known Tryz.prog tau 28 (S2 dMsg dMsg fun a b => okB (decide (a = b))) := by
 refine known2 hmix tau_ok (ctx_cons k_SameInts ctx_nil) (fn := Tryz.f28) (by kernel_rfl) [] (by kernel_rfl) _ _ _ fun x y hfit => ⟨rfl, [], ?_⟩
 clear hfit
 obtain ⟨kind, src, dst, ids, key, ⟨ik, ⟨ic, iw⟩, iv, ig⟩, has⟩ := x
 obtain ⟨kind', src', dst', ids', key', ⟨ik', ⟨ic', iw'⟩, iv', ig'⟩, has'⟩ := y
 refine V1 ?_; constructor <;> (first | (with_reducible exact TT.i) | (intros; (repeat (apply Wk.mk; intro Kv hN hX hR)); apply Wr.mk))
 all_goals (try simp_all)
 all_goals (cases has <;> cases has' <;> rfl)
end Go.Proofs.YtjjpakdlkjaigaaGreat

/- Chapter 12: the laws' functions. -/
namespace Go.Proofs.YtjjpakdlkjaigaaGreat
open Go.RowKit
end Go.Proofs.YtjjpakdlkjaigaaGreat

/- Chapter 12: the laws' functions, on. -/
namespace Go.Proofs.YtjjpakdlkjaigaaGreat
open Go.RowKit
theorem placeB_255 (x : Int) : placeB (bits .and .i64 x 255) = true := by
 rw [and255]
 simp [placeB]
 omega
end Go.Proofs.YtjjpakdlkjaigaaGreat

/- slices.Clone at one type: its walk. -/
namespace Go.Proofs.YtjjpakdlkjaigaaGreat
open Go.RowKit
set_option maxHeartbeats 1000000 in
theorem w_CloneMsgs : CloneW Tryz.prog 141 66 11 104 := by
 obtain ⟨hk10, het, ti, hti, hsz, hby, _⟩ := tau_ok.rk 66 7 (by kernel_rfl)
 obtain ⟨x0, z, g1, g2, g3, g4, g5, g6⟩ := (tau_ok.ti _ ti hti).info
 have g2 : x0.size = 11 := g2.trans hsz
 have g3 : x0.bytes = 104 := g3.trans hby
 have g5 : z.cells.size = 11 := g5.trans hsz
 clear hk10 het g6
 have t22 : Tryz.prog.underlying 24 = some (.slice 66) := Tryz.underlying24
 have q22 : ∀ (w : World) (a : Option Addr) (n c n' c' : Nat), (binOp .eql 24 (.slice a n c) (.slice none n' c')).run Tryz.prog w = .ok (.bool a.isNone) w := fun w a n c n' c' => Lib.run_eql_slice_nil w _ _ a n c n' c' t22
 refine ⟨fnOk_enters (fn := Tryz.f141) (D := []) (by kernel_rfl) (by kernel_rfl), fun n c w => ?_, fun ad n c news w hl hn hbig hc h1 => ?_⟩
 · go_enter Tryz.func141, Tryz.ntmps141
   go_wp2
   go_ret
   exact ⟨rfl, rfl⟩
 · have A : Aside (∀ j u, news[j]? = some u → w.cell? (ad.add j) = some u) := hc
   clear hc
   go_enter Tryz.func141, Tryz.ntmps141
   go_wp2_with (at_builtin; refine wpList_append_own _ rfl _ _ 24 rfl w.heap.size 66 x0 z 11 104 t22 g1 g4 g2 g3 g5 (by decide) _ _ _ rfl (World.ownsRow_made w #[] 0 (Nat.le_refl _) (Nat.zero_le _) (by simp)) ad n c news rfl ?qc1 ?qc2 ?qc3 ?qc4 ?qc5 ?qc6 ?_)
   case qc1 => exact hl
   case qc2 =>
    intro j u hj
    exact Lib.cell?_alloc_some _ (A.out j u hj)
   case qc3 => exact h1
   case qc4 => rw [Nat.zero_add]; exact hn
   case qc5 => rw [Nat.zero_add]; exact hbig
   case qc6 => simp
   intro v' w1 hown hgrow hnil
   go_wp2
   go_ret
   refine ⟨v', rfl, by simpa using hown, ?_⟩
   exact ((Below.refl _ w).alloc (Nat.le_refl _) _).grown hgrow (by simp) (by intro k hk; simp [Value.ownBlock] at hk; omega)
theorem t_CloneMsgs (q : Nat) : TrKnown Tryz.prog tau 141 (cloneT 7 q) := clone_tr q w_CloneMsgs
end Go.Proofs.YtjjpakdlkjaigaaGreat

/- slices.Delete at one type: its walk. -/
namespace Go.Proofs.YtjjpakdlkjaigaaGreat
open Go.RowKit Go.Sort
set_option maxHeartbeats 4000000 in
set_option maxRecDepth 1000000 in
theorem w_DeleteMsgs : DelW Tryz.prog 190 66 11 := by
 refine ⟨fnOk_enters (fn := Tryz.f190) (D := [(5, [(0, 0), (1, 0), (2, 3), (3, 0), (4, 0), (5, 24), (6, 36), (7, 127)])]) (by kernel_rfl) (by kernel_rfl), fun w => ?_, fun g cap n i j cur w hheap hcs hnc hcm hij hjn hone => ?_⟩
 · go_enter Tryz.func190, Tryz.ntmps190
   go_wp2
   go_ret
   exact ⟨rfl, rfl⟩
 · have hnb : n * 11 ≤ cur.size := by rw [hcs]; exact Nat.mul_le_mul_right _ hnc
   by_cases heq : i = j
   · subst heq
     have h0 : Calls Tryz.prog 190 #[.slice (some ⟨g, 0, none⟩) n cap, .int .i64 i, .int .i64 i] w fun x w' => x = .returned (.slice (some ⟨g, 0, none⟩) n cap) ∧ w' = w := by
      have hcm' : cap ≤ 9223372036854775807 := hcm
      clear hheap hone
      go_enter Tryz.func190, Tryz.ntmps190
      go_wp2
      all_goals (go_ret; exact ⟨rfl, rfl⟩)
     refine h0.mono ?_
     rintro e w' ⟨rfl, rfl⟩
     refine ⟨by rw [Nat.sub_self, Nat.sub_zero], ⟨rfl, rfl, rfl, Nat.le_refl _, fun _ _ _ => rfl⟩, cur, hheap, rfl, ?_⟩
     rw [Nat.sub_self, Nat.sub_zero, List.take_append_drop]
   · have hlt : i < j := by omega
     obtain ⟨x0, z, g1, g2, g3, g4, g5, g6, g7⟩ := zero_of w tau_ok (e := 66) (kd := 7) (by kernel_rfl)
     have g2 : x0.size = 11 := g2
     have g5 : z.cells.size = 11 := g5
     have t22 : Tryz.prog.underlying 24 = some (.slice 66) := Tryz.underlying24
     have hH := holds_of_heap hheap
     obtain ⟨news, hnews⟩ : ∃ news, news = (cur.toList.take (n * 11)).drop (j * 11) := ⟨_, rfl⟩
     have hlen : news.length = (n - j) * 11 := by rw [hnews]; simp; omega
     have hget : ∀ t, t < (n - j) * 11 → news[t]? = some (cur[j * 11 + t]!) := by
      intro t ht
      rw [hnews, List.getElem?_drop, List.getElem?_take_of_lt (by omega), Array.getElem?_toList, getElem!_pos cur (j * 11 + t) (by omega), Array.getElem?_eq_getElem (by omega)]
     obtain ⟨A, hA, hsrc⟩ : ∃ A : Addr, (if cap = j then some (⟨g, 0, none⟩ : Addr) else some ⟨g, j * 11, none⟩) = some A ∧ Hid (∀ t u, news[t]? = some u → w.drew.cell? (A.add t) = some u) := by
      by_cases h : cap = j
      · refine ⟨⟨g, 0, none⟩, by simp [h], fun t u hu => ?_⟩
        have h0 : news.length = 0 := by rw [hlen]; omega
        rw [List.length_eq_zero_iff.1 h0] at hu
        simp at hu
      · refine ⟨⟨g, j * 11, none⟩, by simp [h], fun t u hu => ?_⟩
        have ht : t < (n - j) * 11 := by
         have := (List.getElem?_eq_some_iff.1 hu).1
         rwa [hlen] at this
        rw [hget t ht] at hu
        rw [Addr.add_lit]
        have := (hH (j * 11 + t) (by omega)).1
        rw [Nat.zero_add] at this
        exact this.trans hu
     have s1 : Hid (news.length = (n - j) * 11) := hlen
     have s2 : Hid (∀ u ∈ news, u.oneCell' = true) := by
      intro u hu
      rw [hnews] at hu
      exact hone u (List.mem_of_mem_drop hu)
     have s3 : Hid (∀ t, t < news.length → (w.drew.cell? ⟨g, 0 + i * 11 + t, none⟩).isSome = true ∧ w.drew.frozen? ⟨g, 0 + i * 11 + t, none⟩ = false) := by
      intro t ht
      rw [hlen] at ht
      have h3 := hH (i * 11 + t) (by omega)
      rw [Nat.add_assoc]
      exact ⟨by show (w.cell? _).isSome = true; rw [h3.1]; rfl, h3.2⟩
     obtain ⟨W1, hW1⟩ : ∃ W1, W1 = w.drew.setCells g (0 + i * 11) news := ⟨_, rfl⟩
     have hdr : w.drew.heap[g]? = some (.cells cur 66 (0, 0)) := hheap
     have hin : i * 11 + news.length ≤ cur.size := by rw [hlen]; omega
     have hW1' : W1 = putRow id w.drew g 0 (layC cur (i * 11) news) := by
      rw [hW1, Nat.zero_add, ← setCells_layC w.drew g news (i * 11) cur hin, putRow_self id w.drew g 0 cur (holds_of_heap hdr)]
     obtain ⟨c1, hc1⟩ : ∃ c1, c1 = layC cur (i * 11) news := ⟨_, rfl⟩
     have hc1s : c1.size = cur.size := by rw [hc1]; exact layC_size hin
     rw [← hc1] at hW1'
     have hheap1 : W1.heap[g]? = some (.cells c1 66 (0, 0)) := by rw [hW1']; exact putRow_heap hdr hc1s
     have hH1 := holds_of_heap hheap1
     have hin2 : (i + (n - j)) * 11 + (n - (i + (n - j))) * 11 ≤ c1.size := by rw [hc1s]; omega
     have hcl : ∀ ty, (Builtin.clear_ #[24] ty #[.slice (some ⟨g, (i + (n - j)) * 11, none⟩) (n - (i + (n - j))) (cap - (i + (n - j)))]).run Tryz.prog W1 = .ok (.tuple #[]) (W1.setCells g ((i + (n - j)) * 11) (Builtin.zeroCells z.cells (n - (i + (n - j)))).toList) :=
      fun ty => run_clear_k W1 _ _ ty z t22 g7 g6 g _ _ _ (by omega) (fun t ht => by
       rw [g5] at ht
       have := (hH1 ((i + (n - j)) * 11 + t) (by omega)).1
       rw [Nat.zero_add] at this
       rw [this]; rfl) (fun t ht => by
       rw [g5] at ht
       have := (hH1 ((i + (n - j)) * 11 + t) (by omega)).2
       rwa [Nat.zero_add] at this)
     have hz := zeroCells_len z.cells (n - (i + (n - j)))
     rw [g5] at hz
     obtain ⟨zl, hzl⟩ : ∃ zl, zl = (Builtin.zeroCells z.cells (n - (i + (n - j)))).toList := ⟨_, rfl⟩
     rw [← hzl] at hz
     simp only [← hzl] at hcl
     have X : Hid (W1 = putRow id w.drew g 0 c1) := hW1'
     have HZ : Hid (zl.length = (n - (i + (n - j))) * 11) := hz
     have hW : Hid (W1 = w.drew.setCells g (0 + i * 11) news) := hW1
     have Y : Hid (c1 = layC cur (i * 11) news) := hc1
     have Z : Hid (news = (cur.toList.take (n * 11)).drop (j * 11)) := hnews
     have HD : Hid (w.drew.heap[g]? = some (.cells cur 66 (0, 0))) := hdr
     have hic : i ≤ cap := by omega
     have hjc : j ≤ cap := by omega
     have hcm' : cap ≤ 9223372036854775807 := hcm
     clear hW1 hW1' hH1 hH hget hnews hc1 hheap hheap1 hdr hone hz hzl g7 g6 g4
     have mixed := hmix
     go_enter Tryz.func190, Tryz.ntmps190
     go_wp2_with fail
     go_region_law_o (refine step_append_room rfl (.tmp 22) (.tmp 25) 24 rfl 66 x0 11 t22 g1 g2 g 0 i cap (by simp [Act.eval, Act.put]) A (n - j) (cap - j) news (by simp [Act.eval, Act.put]) s1.out hsrc.out s2.out (by omega) s3.out ?_; rw [← hW.out])
     go_wp2
     go_ret
     have hz := HZ.out
     refine ⟨by rw [show n - (j - i) = i + (n - j) by omega]; rfl, ?_, layC c1 ((i + (n - j)) * 11) zl, ?_, ?_, ?_⟩
     · rw [X.out, setCells_layC _ _ _ _ _ (by rw [hz]; exact hin2)]
       have hgr := putRow_grown w.drew g (layC c1 ((i + (n - j)) * 11) zl)
       exact ⟨hgr.os, hgr.tape, hgr.output, hgr.size, hgr.block⟩
     · rw [X.out, setCells_layC _ _ _ _ _ (by rw [hz]; exact hin2)]
       exact putRow_heap HD.out (by rw [layC_size (by rw [hz]; exact hin2), hc1s])
     · rw [layC_size (by rw [hz]; exact hin2), hc1s]
     · have e1 : (n - (j - i)) * 11 = (i + (n - j)) * 11 := by omega
       have e2 : (cur.toList.take (i * 11)).length = i * 11 := by simp; omega
       rw [e1]
       unfold layC
       rw [List.append_assoc, List.take_append_of_le_length (by simp [hc1s]; omega), List.take_take, Nat.min_self, Y.out]
       unfold layC
       rw [List.take_append_of_le_length (by rw [List.length_append, e2, s1.out]; omega), List.take_of_length_le (by rw [List.length_append, e2, s1.out]; omega), List.take_take, Nat.min_eq_left (by omega), Z.out]
theorem t_DeleteMsgs : TrKnown Tryz.prog tau 190 (deleteT 7) := delete_tr w_DeleteMsgs
end Go.Proofs.YtjjpakdlkjaigaaGreat

/- Contracts: queues: may they be. -/
namespace Go.Proofs.YtjjpakdlkjaigaaGreat
open Go.RowKit
set_option maxRecDepth 20000
def queueB (l : List GMsg) : Bool := decide ((l.length : Int) ≤ 512) && l.all mayB
theorem queueB_no {l : List GMsg} (h : l.all mayB = false) : queueB l = false := by unfold queueB; rw [h, Bool.and_false]
theorem k_qMay1 : Known Tryz.prog tau 133 (S1 dMsg fun m => okB (!mayB m)) := by
 refine known1 hmix tau_ok (ctx_cons k_MsgMay ctx_nil) (fn := Tryz.f133) (by kernel_rfl) [] (by kernel_rfl) _ _ fun m hfit => ⟨rfl, [], ?_⟩
 refine V1 ?_; constructor <;> (first | (with_reducible exact TT.i) | (intros; (repeat (apply Wk.mk; intro Kv hN hX hR)); apply Wr.mk))
theorem k_qIndex : Known Tryz.prog tau 184 (S2 dMsgs (dFn 133) fun l _ => .ok (.int .i64 (idxI (fun m => !mayB m) l)) []) := by
 refine known2 hmix tau_ok (ctx_cons k_qMay1 ctx_nil) (fn := Tryz.f184) (by kernel_rfl) [] (by kernel_rfl) _ _ _ fun xs _ hfit => ⟨rfl,
  [(2, invN [4, 5, 8, 9, 10, 11, 12, 13, 14, 15, 16, 17, 18] (fun i => i ≤ xs.length ∧ ∀ x ∈ xs.take i, (!mayB x) = false) (fun i => withS [(8, .int .i64 i)]) (fun i => xs.length - i))], ?_⟩
 have hlen : xs.length * 104 ≤ 140737488355328 := hfit.1.1
 clear hfit
 refine V2 ?_; constructor <;> (first | (with_reducible exact TT.i) | (intros; (repeat (apply Wk.mk; intro Kv hN hX hR)); apply Wr.mk))
 all_goals first
  | (refine ⟨0, ⟨by omega, by simp⟩, ?_⟩
     refine V1 ?_; constructor <;> (first | (with_reducible exact TT.i) | (intros; (repeat (apply Wk.mk; intro Kv hN hX hR)); apply Wr.mk))
     all_goals rfl)
  | (with_reducible intro i hi
     refine V1 ?_; constructor <;> (first | (with_reducible exact TT.i) | (intros; (repeat (apply Wk.mk; intro Kv hN hX hR)); apply Wr.mk))
     all_goals (try simp only [Int.toNat_natCast, etaMsg] at *)
     all_goals first
      | exact Ob.mk ⟨by omega, of_decide_eq_true aQ⟩
      | (have h := of_decide_eq_true (show decide ((i : Int) < (xs.length : Nat)) = true by with_reducible assumption)
         exact (idxI_at (d := default) (by omega) hi.2 aQ).symm)
      | (have h := of_decide_eq_true (show decide ((i : Int) < (xs.length : Nat)) = true by with_reducible assumption)
         refine ⟨i + 1, ⟨by omega, all_take_succ (d := default) (by omega) hi.2 aQ⟩, by show xs.length - (i + 1) < xs.length - i; omega, ?_⟩
         refine V1 ?_; constructor <;> (first | (with_reducible exact TT.i) | (intros; (repeat (apply Wk.mk; intro Kv hN hX hR)); apply Wr.mk))
         all_goals first
          | exact wrapI (by omega) (by omega)
          | rfl)
      | (have h := of_decide_eq_false (show decide ((i : Int) < (xs.length : Nat)) = false by with_reducible assumption)
         have h2 := hi.2
         rw [List.take_of_length_le (by omega)] at h2
         exact (idxI_none h2).symm)
      | skip)
  | skip
theorem k_qContains : Known Tryz.prog tau 135 (S2 dMsgs (dFn 133) fun l _ => okB (l.any fun m => !mayB m)) := by
 refine known2 hmix tau_ok (ctx_cons k_qIndex ctx_nil) (fn := Tryz.f135) (by kernel_rfl) [] (by kernel_rfl) _ _ _ fun xs _ hfit => ⟨rfl, [], ?_⟩
 refine V1 ?_; constructor <;> (first | (with_reducible exact TT.i) | (intros; (repeat (apply Wk.mk; intro Kv hN hX hR)); apply Wr.mk))
 exact idxI_ge _ _
theorem k_qMay : Known Tryz.prog tau 81 (S1 dMsgs fun l => okB (queueB l)) := by
 refine known1 hmix tau_ok (ctx_cons k_qContains ctx_nil) (fn := Tryz.f81) (by kernel_rfl) [] (by kernel_rfl) _ _ fun xs hfit => ⟨rfl, [], ?_⟩
 clear hfit
 refine V1 ?_; constructor <;> (first | (with_reducible exact TT.i) | (intros; (repeat (apply Wk.mk; intro Kv hN hX hR)); apply Wr.mk))
 all_goals (cases hA : xs.all mayB <;> simp_all [queueB, any_not] <;> omega)
theorem k_refQueueMay : Known Tryz.prog tau 117 (S1 dMsgs fun l => okB (queueB l)) := by
 refine known1 hmix tau_ok (ctx_cons k_refMsg ctx_nil) (fn := Tryz.f117) (by kernel_rfl) [] (by kernel_rfl) _ _ fun xs hfit => ⟨rfl,
  [(2, invN [2, 3, 4, 5, 6, 7, 8, 9, 10, 11, 12, 13, 14, 15] (fun i => i ≤ xs.length ∧ ∀ x ∈ xs.take i, mayB x = true) (fun i => withS [(3, .int .i64 i)]) (fun i => xs.length - i))], ?_⟩
 have hlen : xs.length * 104 ≤ 140737488355328 := hfit.1.1
 clear hfit
 refine V2 ?_; constructor <;> (first | (with_reducible exact TT.i) | (intros; (repeat (apply Wk.mk; intro Kv hN hX hR)); apply Wr.mk))
 all_goals first
  | (refine ⟨0, ⟨by omega, by simp⟩, ?_⟩
     refine V1 ?_; constructor <;> (first | (with_reducible exact TT.i) | (intros; (repeat (apply Wk.mk; intro Kv hN hX hR)); apply Wr.mk))
     all_goals rfl)
  | (with_reducible intro i hi
     refine V1 ?_; constructor <;> (first | (with_reducible exact TT.i) | (intros; (repeat (apply Wk.mk; intro Kv hN hX hR)); apply Wr.mk))
     all_goals (try simp only [Int.toNat_natCast, etaMsg] at *)
     all_goals first
      | exact Ob.mk ⟨by omega, of_decide_eq_true aQ⟩
      | (have h := of_decide_eq_true (show decide ((i : Int) < (xs.length : Nat)) = true by with_reducible assumption)
         have hm : (!mayB (xs.getD i default)) = true := by with_reducible assumption
         have : xs.all mayB = false := List.all_eq_false.2 ⟨xs.getD i default, getD_mem (d := default) (by omega), by rw [(show mayB (xs.getD i default) = false by simpa using hm)]; simp⟩
         exact (queueB_no this).symm)
      | (have h := of_decide_eq_true (show decide ((i : Int) < (xs.length : Nat)) = true by with_reducible assumption)
         have hm : (!mayB (xs.getD i default)) = false := by with_reducible assumption
         refine ⟨i + 1, ⟨by omega, all_take_succ (d := default) (by omega) hi.2 (by simpa using hm)⟩, by show xs.length - (i + 1) < xs.length - i; omega, ?_⟩
         refine V1 ?_; constructor <;> (first | (with_reducible exact TT.i) | (intros; (repeat (apply Wk.mk; intro Kv hN hX hR)); apply Wr.mk))
         all_goals first
          | exact wrapI (by omega) (by omega)
          | rfl)
      | (have h := of_decide_eq_false (show decide ((i : Int) < (xs.length : Nat)) = false by with_reducible assumption)
         have h2 := hi.2
         rw [List.take_of_length_le (by omega)] at h2
         have : xs.all mayB = true := List.all_eq_true.2 h2
         simp [queueB, this])
      | skip)
  | skip
end Go.Proofs.YtjjpakdlkjaigaaGreat

/- Contracts: queues: copies. -/
namespace Go.Proofs.YtjjpakdlkjaigaaGreat
open Go.RowKit
set_option maxRecDepth 20000
theorem set_self {l : List GMsg} {i : Nat} (hi : i < l.length) : l.set i (l.getD i default) = l := by
 apply List.ext_getElem (by simp)
 intro j h1 h2
 rw [List.getElem_set]
 split
 · rename_i h; subst h; simp [List.getD_eq_getElem?_getD, hi]
 · rfl
theorem loStep_self (i : Nat) : loStep i (i : Int) = i + 1 := by simp [loStep]
theorem k_qCopy : Known Tryz.prog tau 88 (S1 dMsgs fun l => .ok (.own 0) [.msgs l]) := by
 refine knownX1 hmix tau_ok (fn := Tryz.f88) (by kernel_rfl) [] (by kernel_rfl) _ _ fun xs hfit => ⟨rfl, _, ctx_tr (t_CloneMsgs 9000000) (ctx_cons k_CloneInts ctx_nil),
  [(3, invX Nat [4, 9, 10, 11, 12, 13, 14, 15, 16, 17, 18, 19, 20, 21, 22] [9000000] (fun i => i ≤ xs.length) (fun i st => withS [(9, .int .i64 i)] (withR [(9000000, .part i (.msgs xs))] st)) (fun i => xs.length - i))], ?_⟩
 have hlen : xs.length * 104 ≤ 140737488355328 := hfit.1.1
 clear hfit
 refine V2 ?_; constructor <;> (first | (with_reducible exact TT.i) | (intros; (repeat (apply Wk.mk; intro Kv hN hX hR)); apply Wr.mk))
 all_goals first
  | (refine ⟨0, Nat.zero_le _, ?_⟩
     refine V1 ?_; constructor <;> (first | (with_reducible exact TT.i) | (intros; (repeat (apply Wk.mk; intro Kv hN hX hR)); apply Wr.mk))
     all_goals rfl)
  | (with_reducible intro i hi
     refine V1 ?_; constructor <;> (first | (with_reducible exact TT.i) | (intros; (repeat (apply Wk.mk; intro Kv hN hX hR)); apply Wr.mk))
     all_goals (try simp only [Int.toNat_natCast, etaMsg] at *)
     all_goals first
      | exact Ob.mk ⟨by omega, of_decide_eq_true aQ⟩
      | (have h := of_decide_eq_true (show decide ((i : Int) < (xs.length : Nat)) = true by with_reducible assumption)
         have h2 : i < xs.length := by omega
         refine ⟨i + 1, h2, by show xs.length - (i + 1) < xs.length - i; omega, ?_⟩
         have e1 := set_self h2
         have e2 := loStep_self i
         refine V1 ?_; constructor <;> (first | (with_reducible exact TT.i) | (intros; (repeat (apply Wk.mk; intro Kv hN hX hR)); apply Wr.mk))
         all_goals first
          | exact wrapI (by omega) (by omega)
          | (rw [e2, e1])
          | rfl)
      | (have h := of_decide_eq_false (show decide ((i : Int) < (xs.length : Nat)) = false by with_reducible assumption)
         show xs.length ≤ i
         omega)
      | rfl
      | skip)
  | skip
end Go.Proofs.YtjjpakdlkjaigaaGreat
