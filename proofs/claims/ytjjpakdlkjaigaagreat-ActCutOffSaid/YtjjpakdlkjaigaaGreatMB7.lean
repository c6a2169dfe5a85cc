/- A part of the proof of a law: F16d, InsPeers, ClPeers, F7, F16e, F16f, F16g, F16h, F16i, F16j, VLe. -/
import Derived.Test.YtjjpakdlkjaigaaGreatMB6
import Derived.Shelf.RegionOpenPlain
import Derived.WalkKit
import Derived.Deep.LoopGhost
import Derived.Deep.RegionLaw
import Derived.Lib.Walk
import Derived.Lib.SliceRun
import Derived.Lib.AppendZeros
import Derived.Lib.AppendZerosOnto
import Derived.Maps.AppendAt
import Derived.Laws.AppendOwn
import Derived.Conc.AppendEvents2
set_option linter.all false
set_option linter.unusedVariables false
set_option linter.unusedSimpArgs false
set_option linter.unusedSectionVars false
/- Contracts: who is heard: the program's. -/
namespace Go.Proofs.YtjjpakdlkjaigaaGreat
open Go.RowKit
set_option maxRecDepth 20000
def dOrd : Dec Int := ⟨fun x => match x with
 | .agg [.int .i64 b] => some b
 | _ => none, fun b => .agg [.int .i64 b], fun x a h => by
   split at h <;> simp at h; subst h; rfl⟩
def dBound (f : FuncId) : Dec Int := ⟨fun x => match x with
 | .clo g [.agg [.int .i64 b]] [] => match Nat.beq g f with
   | true => some b
   | false => none
 | _ => none, fun b => .clo f [.agg [.int .i64 b]] [], fun x a h => by
   split at h
   · split at h
     · rename_i hg; simp at h; subst h; rw [Nat.eq_of_beq_eq_true hg]
     · simp at h
   · simp at h⟩
def dPView : Dec GView := ⟨fun x => match x with
 | .pt .any [.int .i64 id, .row .any (.peers p), .row .any (.ints q)] => some ⟨id, p, q⟩
 | _ => none, fun v => .pt .any [.int .i64 v.id, .row .any (.peers v.peers), .row .any (.ints v.passive)], fun x a h => by
   split at h <;> simp at h; subst h; rfl⟩
def dFnView (f : FuncId) : Dec GView := ⟨fun x => match x with
 | .clo g [] [.pt .any [.int .i64 id, .row .any (.peers p), .row .any (.ints q)]] => match Nat.beq g f with
   | true => some ⟨id, p, q⟩
   | false => none
 | _ => none, fun v => .clo f [] [.pt .any [.int .i64 v.id, .row .any (.peers v.peers), .row .any (.ints v.passive)]], fun x a h => by
   split at h
   · split at h
     · rename_i hg; simp at h; subst h; rw [Nat.eq_of_beq_eq_true hg]
     · simp at h
   · simp at h⟩
theorem k_find : Known Tryz.prog tau 240 (S3 dOrd dPeer dInt fun b p x => .ok (.int .i64 (cmpI (farI b p.id) (farI b x))) []) := by
 refine known3 hmix tau_ok (ctx_cons k_Far (ctx_cons k_cmpCompare ctx_nil)) (fn := Tryz.f240) (by kernel_rfl) [(1, [(0, 0), (1, 1), (2, 0), (3, 4), (4, 10), (5, 0), (6, 32), (7, 0), (8, 208), (9, 272), (10, 1023)])] (by kernel_rfl) _ _ _ _ fun b p x hfit => ⟨rfl, [], ?_⟩
 refine V3 ?_; constructor <;> (first | (with_reducible exact TT.i) | (intros; (repeat (apply Wk.mk; intro Kv hN hX hR)); apply Wr.mk))
 all_goals first
  | rfl
def RisingP (b : Int) (l : List GPeer) : Prop := ∀ s t, s < t → t < l.length → farI b (l.getD s default).id < farI b (l.getD t default).id
theorem risingP_lt {b : Int} {l : List GPeer} (hs : RisingP b l) {s t : Nat} (h : s ≤ t) (ht : t < l.length) : farI b (l.getD s default).id ≤ farI b (l.getD t default).id := by
 rcases Nat.lt_or_eq_of_le h with h | rfl
 · exact Int.le_of_lt (hs s t h ht)
 · exact Int.le_refl _
def cntP (b : Int) (l : List GPeer) (x : Int) : Int := ((l.countP fun p => decide (farI b p.id < farI b x) : Nat) : Int)
def hasP (b : Int) (l : List GPeer) (x : Int) : Bool := l.any fun p => decide (farI b p.id = farI b x)
theorem cmpI_lt (a b : Int) : decide (cmpI a b < 0) = decide (a < b) := by
 unfold cmpI
 split
 · simp [*]
 · split <;> simp <;> omega
theorem cmpI_eq (a b : Int) : decide (cmpI a b = 0) = decide (a = b) := by
 unfold cmpI
 split
 · simp; omega
 · split <;> simp <;> omega
theorem k_searchP : Known Tryz.prog tau 241 (S3 dPeers dInt (dBound 240) fun l x b => .ob (RisingP b l) (.tup [.int .i64 (cntP b l x), .bool (hasP b l x)]) []) := by
 refine known3 hmix tau_ok (ctx_cons k_find ctx_nil) (fn := Tryz.f241) (by kernel_rfl) [] (by kernel_rfl) _ _ _ _ fun l x b hfit hs => ⟨rfl,
  [(3, invX (Nat × Nat) [9, 10, 11, 15, 16, 17, 18, 19, 20, 21, 22, 23, 24, 25, 26, 27, 28, 29, 30, 31, 32, 33, 34] [] (fun g => g.1 ≤ g.2 ∧ g.2 ≤ l.length ∧ (∀ t, t < g.1 → farI b (l.getD t default).id < farI b x) ∧ ∀ t, g.2 ≤ t → t < l.length → farI b x ≤ farI b (l.getD t default).id) (fun g => withS [(9, .int .i64 g.1), (10, .int .i64 g.2)]) (fun g => g.2 - g.1))], ?_⟩
 have hlen : l.length * 16 ≤ 140737488355328 := hfit.1
 clear hfit
 refine V2 ?_; constructor <;> (first | (with_reducible exact TT.i) | (intros; (repeat (apply Wk.mk; intro Kv hN hX hR)); apply Wr.mk))
 all_goals first
  | (refine ⟨(0, l.length), ⟨Nat.zero_le _, Nat.le_refl _, by intros; omega, by intros; omega⟩, ?_⟩
     refine V1 ?_; constructor <;> (first | (with_reducible exact TT.i) | (intros; (repeat (apply Wk.mk; intro Kv hN hX hR)); apply Wr.mk))
     all_goals rfl)
  | (rintro ⟨i, j⟩ ⟨hij, hj, h1, h2⟩
     dsimp only at hij hj h1 h2
     refine V1 ?_; constructor <;> (first | (with_reducible exact TT.i) | (intros; (repeat (apply Wk.mk; intro Kv hN hX hR)); apply Wr.mk))
     all_goals (try dsimp only at *)
     all_goals (try simp only [cmpI_lt, cmpI_eq] at *)
     all_goals first
      | (refine Ob.mk ?_; decide)
      | (have hlt := of_decide_eq_true (show decide ((i : Int) < (j : Int)) = true by with_reducible assumption)
         obtain ⟨h, eh, h3, h4⟩ := mid_ok (i := i) (j := j) (n := l.length) (by omega) hj (by omega)
         simp only [eh, Int.toNat_natCast] at *
         first
          | exact Ob.mk ⟨by omega, by omega⟩
          | (have hc := of_decide_eq_true (show decide (farI b (l.getD h default).id < farI b x) = true by with_reducible assumption)
             refine ⟨(h + 1, j), ⟨by omega, hj, fun t ht => ?_, h2⟩, by show j - (h + 1) < j - i; omega, ?_⟩
             · have := risingP_lt hs (s := t) (t := h) (by omega) (by omega)
               omega
             · have e1 := wrap_up (h := h) (n := l.length) (by omega) (by omega)
               refine V1 ?_; constructor <;> (first | (with_reducible exact TT.i) | (intros; (repeat (apply Wk.mk; intro Kv hN hX hR)); apply Wr.mk))
               all_goals first
                | exact e1
                | rfl)
          | (have hc := of_decide_eq_false (show decide (farI b (l.getD h default).id < farI b x) = false by with_reducible assumption)
             refine ⟨(i, h), ⟨by omega, by omega, h1, fun t ht ht2 => ?_⟩, by show h - i < j - i; omega, ?_⟩
             · have := risingP_lt hs (s := h) (t := t) ht ht2
               omega
             · refine V1 ?_; constructor <;> (first | (with_reducible exact TT.i) | (intros; (repeat (apply Wk.mk; intro Kv hN hX hR)); apply Wr.mk))
               all_goals rfl))
      | (have hge := of_decide_eq_false (show decide ((i : Int) < (j : Int)) = false by with_reducible assumption)
         obtain rfl : i = j := by omega
         have e1 : cntP b l x = (i : Int) := congrArg Int.ofNat (search_end (d := default) (κ := fun p : GPeer => farI b p.id) (K := farI b x) hj h1 h2)
         have e2 : hasP b l x = (decide (i < l.length) && decide (farI b (l.getD i default).id = farI b x)) := search_there (d := default) (κ := fun p : GPeer => farI b p.id) hs h1 h2
         (try simp only [Int.toNat_natCast] at *)
         first
          | exact Ob.mk ⟨by omega, of_decide_eq_true aQ⟩
          | exact e1.symm
          | (have a1 := of_decide_eq_true (show decide ((i : Int) < (l.length : Nat)) = true by with_reducible assumption)
             rw [e2, decide_eq_true (show i < l.length by omega), Bool.true_and]
             done)
          | (have a2 := of_decide_eq_true (show decide (farI b (l.getD i default).id = farI b x) = true by with_reducible assumption)
             have a1 := of_decide_eq_true (show decide ((i : Int) < (l.length : Nat)) = true by with_reducible assumption)
             rw [e2, decide_eq_true a2, decide_eq_true (show i < l.length by omega)]
             rfl)
          | (have a2 := of_decide_eq_false (show decide (farI b (l.getD i default).id = farI b x) = false by with_reducible assumption)
             rw [e2, decide_eq_false a2, Bool.and_false])
          | (have a1 := of_decide_eq_false (show decide ((i : Int) < (l.length : Nat)) = false by with_reducible assumption)
             rw [e2, decide_eq_false (show ¬ i < l.length by omega), Bool.false_and])))
theorem k_Find : Known Tryz.prog tau 229 (S3 dInt dPeers dInt fun b l x => .ob (RisingP b l) (.tup [.int .i64 (cntP b l x), .bool (hasP b l x)]) []) := by
 refine known3 hmix tau_ok (ctx_cons k_find (ctx_cons k_searchP ctx_nil)) (fn := Tryz.f229) (by kernel_rfl) [] (by kernel_rfl) _ _ _ _ fun b l x hfit hs => ⟨rfl, [], ?_⟩
 clear hfit
 refine V1 ?_; constructor <;> (first | (with_reducible exact TT.i) | (intros; (repeat (apply Wk.mk; intro Kv hN hX hR)); apply Wr.mk))
 all_goals first
  | exact Ob.mk hs
  | rfl
theorem k_viewPeer : Known Tryz.prog tau 209 (S2 dPView dInt fun v x => .ob (RisingP v.id v.peers) (.bool (hasP v.id v.peers x)) []) := by
 refine known2 hmix tau_ok (ctx_cons k_Find ctx_nil) (fn := Tryz.f209) (by kernel_rfl) [(1, [(0, 0), (1, 1), (2, 2), (3, 4), (4, 0), (5, 16), (6, 32), (7, 64), (8, 0), (9, 392), (10, 512), (11, 1024), (12, 1024), (13, 4095), (14, 16383)])] (by kernel_rfl) _ _ _ fun v x hfit hs => ⟨rfl, [], ?_⟩
 clear hfit
 refine V3 ?_; constructor <;> (first | (with_reducible exact TT.i) | (intros; (repeat (apply Wk.mk; intro Kv hN hX hR)); apply Wr.mk))
 all_goals first
  | exact Ob.mk hs
  | rfl
def oddV (v : GView) (x : Int) : Bool := decide (x = v.id) || hasP v.id v.peers x
theorem k_vMay1 : Known Tryz.prog tau 208 (S2 dInt dPView fun x v => .ob (RisingP v.id v.peers) (.bool (oddV v x)) []) := by
 refine known2 hmix tau_ok (ctx_cons k_viewPeer ctx_nil) (fn := Tryz.f208) (by kernel_rfl) [] (by kernel_rfl) _ _ _ fun x v hfit hs => ⟨rfl, [], ?_⟩
 clear hfit
 refine V1 ?_; constructor <;> (first | (with_reducible exact TT.i) | (intros; (repeat (apply Wk.mk; intro Kv hN hX hR)); apply Wr.mk))
 all_goals first
  | exact Ob.mk hs
  | (simp_all [oddV]; done)
theorem k_vIndex : Known Tryz.prog tau 136 (S2 dInts (dFnView 208) fun l v => .ob (RisingP v.id v.peers) (.int .i64 (idxI (oddV v) l)) []) := by
 refine known2 hmix tau_ok (ctx_cons k_vMay1 ctx_nil) (fn := Tryz.f136) (by kernel_rfl) [] (by kernel_rfl) _ _ _ fun xs v hfit hs => ⟨rfl,
  [(2, invN [4, 5, 8, 9, 10, 11, 12, 13, 14, 15, 16, 17, 18] (fun i => i ≤ xs.length ∧ ∀ x ∈ xs.take i, oddV v x = false) (fun i => withS [(8, .int .i64 i)]) (fun i => xs.length - i))], ?_⟩
 have hlen : xs.length * 8 ≤ 140737488355328 := hfit.1
 clear hfit
 refine V2 ?_; constructor <;> (first | (with_reducible exact TT.i) | (intros; (repeat (apply Wk.mk; intro Kv hN hX hR)); apply Wr.mk))
 all_goals first
  | (refine ⟨0, ⟨by omega, by simp⟩, ?_⟩
     refine V1 ?_; constructor <;> (first | (with_reducible exact TT.i) | (intros; (repeat (apply Wk.mk; intro Kv hN hX hR)); apply Wr.mk))
     all_goals rfl)
  | (with_reducible intro i hi
     refine V1 ?_; constructor <;> (first | (with_reducible exact TT.i) | (intros; (repeat (apply Wk.mk; intro Kv hN hX hR)); apply Wr.mk))
     all_goals (try simp only [Int.toNat_natCast] at *)
     all_goals first
      | exact Ob.mk ⟨by omega, of_decide_eq_true aQ⟩
      | exact Ob.mk hs
      | (have h := of_decide_eq_true (show decide ((i : Int) < (xs.length : Nat)) = true by with_reducible assumption)
         exact (idxI_at (d := 0) (by omega) hi.2 aQ).symm)
      | (have h := of_decide_eq_true (show decide ((i : Int) < (xs.length : Nat)) = true by with_reducible assumption)
         refine ⟨i + 1, ⟨by omega, all_take_succ (d := 0) (by omega) hi.2 aQ⟩, by show xs.length - (i + 1) < xs.length - i; omega, ?_⟩
         refine V1 ?_; constructor <;> (first | (with_reducible exact TT.i) | (intros; (repeat (apply Wk.mk; intro Kv hN hX hR)); apply Wr.mk))
         all_goals first
          | exact wrapI (by omega) (by omega)
          | rfl)
      | (have h := of_decide_eq_false (show decide ((i : Int) < (xs.length : Nat)) = false by with_reducible assumption)
         have h2 := hi.2
         rw [List.take_of_length_le (by omega)] at h2
         exact (idxI_none h2).symm))
theorem k_vContains : Known Tryz.prog tau 82 (S2 dInts (dFnView 208) fun l v => .ob (RisingP v.id v.peers) (.bool (l.any (oddV v))) []) := by
 refine known2 hmix tau_ok (ctx_cons k_vIndex ctx_nil) (fn := Tryz.f82) (by kernel_rfl) [] (by kernel_rfl) _ _ _ fun xs v hfit hs => ⟨rfl, [], ?_⟩
 clear hfit
 refine V1 ?_; constructor <;> (first | (with_reducible exact TT.i) | (intros; (repeat (apply Wk.mk; intro Kv hN hX hR)); apply Wr.mk))
 all_goals first
  | exact Ob.mk hs
  | exact idxI_ge _ _
def peerB (b : Int) (p : GPeer) : Bool := placeB p.id && (decide (0 ≤ p.missed) && (decide (p.missed < 3) && decide (0 < farI b p.id)))
def peersB (b : Int) (l : List GPeer) : Bool := placeB b && (decide (l.length ≤ 16) && (decide (l.Pairwise fun p q => farI b p.id < farI b q.id) && l.all (peerB b)))
theorem etaP {l : List GPeer} {i : Nat} (h : i < l.length) : l.getD i default = l[i] := by simp [List.getD_eq_getElem?_getD, h]
theorem risingP_iff {b : Int} {l : List GPeer} : RisingP b l ↔ l.Pairwise fun p q => farI b p.id < farI b q.id := by
 rw [List.pairwise_iff_getElem]
 constructor
 · intro h i j hi hj hij
   have := h i j hij hj
   rwa [etaP hi, etaP hj] at this
 · intro h i j hij hj
   rw [etaP (show i < l.length by omega), etaP hj]
   exact h i j (by omega) hj hij
theorem peersB_iff {b : Int} {l : List GPeer} : peersB b l = true ↔ placeB b = true ∧ l.length ≤ 16 ∧ RisingP b l ∧ ∀ p ∈ l, peerB b p = true := by
 simp only [peersB, Bool.and_eq_true, decide_eq_true_eq, risingP_iff, List.all_eq_true]
theorem peersB_no {b : Int} {l : List GPeer} (h : ¬ (placeB b = true ∧ l.length ≤ 16 ∧ RisingP b l ∧ ∀ p ∈ l, peerB b p = true)) : peersB b l = false := by
 rw [← peersB_iff] at h
 simpa using h
theorem risingP_adj {b : Int} {l : List GPeer} (h : ∀ t, t + 1 < l.length → farI b (l.getD t default).id < farI b (l.getD (t + 1) default).id) : RisingP b l := by
 intro s t
 induction t with
 | zero => intro h1; omega
 | succ t ih =>
   intro h1 h2
   have := h t h2
   rcases Nat.lt_or_eq_of_le (Nat.le_of_lt_succ h1) with h3 | rfl
   · have := ih h3 (by omega)
     omega
   · exact this
def lastF (b : Int) (l : List GPeer) : Nat → Int
 | 0 => 0
 | i + 1 => farI b (l.getD i default).id
theorem lastF_ge {b : Int} {l : List GPeer} {i : Nat} (hi : i ≤ l.length) (h : ∀ x ∈ l.take i, peerB b x = true) : 0 ≤ lastF b l i := by
 rcases i with _ | i
 · exact Int.le_refl _
 · have hm : l.getD i default ∈ l.take (i + 1) := by
    rw [etaP (by omega), List.mem_take_iff_getElem]
    exact ⟨i, by omega, rfl⟩
   have := h _ hm
   simp only [peerB, Bool.and_eq_true, decide_eq_true_eq] at this
   show 0 ≤ farI b (l.getD i default).id
   omega
set_option maxHeartbeats 2000000 in
theorem k_peersMay : Known Tryz.prog tau 207 (S2 dInt dPeers fun b l => okB (peersB b l)) := by
 refine known2 hmix tau_ok (ctx_cons k_Place (ctx_cons k_Far ctx_nil)) (fn := Tryz.f207) (by kernel_rfl) [] (by kernel_rfl) _ _ _ fun b xs hfit => ⟨rfl,
  [(5, invN (4 :: 5 :: 7 :: 18 :: 19 :: 20 :: 21 :: 22 :: 23 :: 24 :: 25 :: 26 :: 27 :: 28 :: 29 :: 30 :: 31 :: 32 :: 33 :: 34 :: 35 :: 36 :: 37 :: 38 :: 39 :: 40 :: 41 :: 42 :: 43 :: 44 :: 45 :: 46 :: 47 :: 48 :: []) (fun i => i ≤ xs.length ∧ (∀ x ∈ xs.take i, peerB b x = true) ∧ ∀ t, t + 1 < i → farI b (xs.getD t default).id < farI b (xs.getD (t + 1) default).id) (fun i => withS [(18, .int .i64 i), (5, .int .i64 (lastF b xs i))]) (fun i => xs.length - i))], ?_⟩
 have hlen : xs.length * 16 ≤ 140737488355328 := hfit.2.1
 clear hfit
 refine V2 ?_; constructor <;> (first | (with_reducible exact TT.i) | (intros; (repeat (apply Wk.mk; intro Kv hN hX hR)); apply Wr.mk))
 all_goals first
  | (have h0 := nf (show (!placeB b) = true by with_reducible assumption)
     exact (peersB_no fun h => by rw [h.1] at h0; simp at h0).symm)
  | (have h0 := of_decide_eq_true (show decide ((16 : Int) < (xs.length : Nat)) = true by with_reducible assumption)
     exact (peersB_no fun h => by have := h.2.1; omega).symm)
  | (refine ⟨0, ⟨by omega, by simp, by intros; omega⟩, ?_⟩
     refine V1 ?_; constructor <;> (first | (with_reducible exact TT.i) | (intros; (repeat (apply Wk.mk; intro Kv hN hX hR)); apply Wr.mk))
     all_goals rfl)
  | (with_reducible intro i hi
     refine V1 ?_; constructor <;> (first | (with_reducible exact TT.i) | (intros; (repeat (apply Wk.mk; intro Kv hN hX hR)); apply Wr.mk))
     all_goals first
      | exact Ob.mk ⟨by omega, of_decide_eq_true aQ⟩
      | (have h := of_decide_eq_true (show decide ((i : Int) < (xs.length : Nat)) = true by with_reducible assumption)
         first
          | (refine (peersB_no ?_).symm
             rintro ⟨_, _, h3, h4⟩
             have h5 := h4 _ (getD_mem (l := xs) (i := i) (d := default) (by omega))
             simp only [peerB, Bool.and_eq_true] at h5
             simp only [decide_eq_true_eq, decide_eq_false_iff_not, Bool.not_eq_true', Bool.not_eq_false', Int.toNat_natCast] at *
             first
              | (simp_all; done)
              | omega
              | (rcases i with _ | i
                 · simp only [lastF] at *
                   omega
                 · have := h3 i (i + 1) (by omega) (by omega)
                   simp only [lastF] at *
                   omega))
          | (have hp : peerB b (xs.getD i default) = true := by
              have hge := lastF_ge hi.1 hi.2.1
              simp only [peerB, Bool.and_eq_true]
              simp only [decide_eq_true_eq, decide_eq_false_iff_not, Bool.not_eq_true', Bool.not_eq_false', Int.toNat_natCast] at *
              refine ⟨by assumption, by omega, by omega, by omega⟩
             have hl : lastF b xs i < farI b (xs.getD i default).id := by
              simp only [decide_eq_true_eq, decide_eq_false_iff_not, Bool.not_eq_true', Bool.not_eq_false', Int.toNat_natCast] at *
              omega
             refine ⟨i + 1, ⟨by omega, all_take_succ (d := default) (by omega) hi.2.1 hp, fun t ht => ?_⟩, by show xs.length - (i + 1) < xs.length - i; omega, ?_⟩
             · rcases Nat.lt_or_eq_of_le (Nat.le_of_lt_succ ht) with h3 | h3
               · exact hi.2.2 t h3
               · subst h3
                 exact hl
             · refine V1 ?_; constructor <;> (first | (with_reducible exact TT.i) | (intros; (repeat (apply Wk.mk; intro Kv hN hX hR)); apply Wr.mk))
               all_goals first
                | exact wrapI (by omega) (by omega)
                | rfl))
      | (have h := of_decide_eq_false (show decide ((i : Int) < (xs.length : Nat)) = false by with_reducible assumption)
         obtain rfl : i = xs.length := by omega
         have h2 := hi.2.1
         rw [List.take_of_length_le (Nat.le_refl _)] at h2
         have h16 := of_decide_eq_false (show decide ((16 : Int) < (xs.length : Nat)) = false by with_reducible assumption)
         exact (peersB_iff.2 ⟨nt aQ, by omega, risingP_adj hi.2.2, h2⟩).symm))
end Go.Proofs.YtjjpakdlkjaigaaGreat

/- slices.Insert at one type, one element: its walk. -/
namespace Go.Proofs.YtjjpakdlkjaigaaGreat
open Go.RowKit Go.Sort
set_option maxHeartbeats 4000000 in
set_option maxRecDepth 1000000 in
theorem i_endPeers (base n : Nat) (v v2 : Value) (us vs : List Value) (w : World) (hr : w.ownsRow base 95 2 v n us) (hr2 : w.ownsRow base 95 2 v2 1 vs) (hbig : (n + 1) * 16 ≤ 140737488355328) (hv : ∀ u ∈ vs, u.oneCell' = true) (hbase : base ≤ w.heap.size) :
  Calls Tryz.prog 244 #[v, .int .i64 n, v2] w fun x w' => ∃ v', x = .returned v' ∧ w'.ownsRow base 95 2 v' (n + 1) (us ++ vs) ∧ w.grownBy w' v.ownBlock ∧ (v'.ownBlock = v.ownBlock ∨ ∃ g, v'.ownBlock = some g ∧ w.heap.size ≤ g) := by
 obtain ⟨hk10, het, ti, hti, hsz, hby, _⟩ := tau_ok.rk 95 3 (by kernel_rfl)
 obtain ⟨x0, z, g1, g2, g3, g4, g5, g6⟩ := (tau_ok.ti _ ti hti).info
 have g2 : x0.size = 2 := g2.trans hsz
 have g3 : x0.bytes = 16 := g3.trans hby
 have g5 : z.cells.size = 2 := g5.trans hsz
 clear hk10 het g6
 have t22 : Tryz.prog.underlying 46 = some (.slice 95) := Tryz.underlying46
 have mixed := hmix
 have h63 : n + 1 ≤ maxLen := by unfold maxLen; omega
 rcases hr2.2 with ⟨_, h0⟩ | ⟨g', cap', cur', rfl, hb', hh', hn', hm', hs', ht'⟩
 · omega
 have hnews : ∀ j u, vs[j]? = some u → w.cell? ((⟨g', 0, none⟩ : Addr).add j) = some u := hr2.cells (g := g') rfl
 have hl : vs.length = 1 * 2 := hr2.1
 have HN : Hid (∀ j u, vs[j]? = some u → w.cell? ((⟨g', 0, none⟩ : Addr).add j) = some u) := hnews
 have HV : Hid (∀ u ∈ vs, u.oneCell' = true) := hv
 have HR : Hid (w.ownsRow base 95 2 v n us) := hr
 have hcm : n ≤ 9223372036854775807 := by omega
 rcases hr.2 with ⟨rfl, h0⟩ | ⟨g, cap, cur, rfl, hb, hh, hnc, hm, hs, ht⟩
 · subst h0
   clear hr2 hnews hv hh' ht' hs' hr
   go_enter Tryz.func244, Tryz.ntmps244
   go_wp2_with (at_builtin; refine wpList_append_own_at _ rfl _ _ 46 rfl base 95 x0 z 2 16 t22 g1 g4 g2 g3 g5 (by decide) _ _ _ rfl HR.out ⟨g', 0, none⟩ 1 cap' vs rfl ?qc1 ?qc2 ?qc3 ?qc4 ?qc5 ?qc6 ?_)
   case qc1 => exact hl
   case qc2 => exact HN.out
   case qc3 => exact HV.out
   case qc4 => exact h63
   case qc5 => exact hbig
   case qc6 => exact hbase
   intro v' w1 hown hgrow hnil hat
   go_wp2
   go_ret
   exact ⟨v', rfl, hown, hgrow, hat.imp id fun h => ⟨_, h, Nat.le_refl _⟩⟩
 · have hcm2 : cap ≤ 9223372036854775807 := hm
   clear hr2 hnews hv hh' ht' hs' hh hs ht hr
   go_enter Tryz.func244, Tryz.ntmps244
   go_wp2_with (at_builtin; refine wpList_append_own_at _ rfl _ _ 46 rfl base 95 x0 z 2 16 t22 g1 g4 g2 g3 g5 (by decide) _ _ _ rfl HR.out ⟨g', 0, none⟩ 1 cap' vs rfl ?qc1 ?qc2 ?qc3 ?qc4 ?qc5 ?qc6 ?_)
   case qc1 => exact hl
   case qc2 => exact HN.out
   case qc3 => exact HV.out
   case qc4 => exact h63
   case qc5 => exact hbig
   case qc6 => exact hbase
   all_goals
    intro v' w1 hown hgrow hnil hat
    go_wp2
    go_ret
    exact ⟨v', rfl, hown, hgrow, hat.imp id fun h => ⟨_, h, Nat.le_refl _⟩⟩
set_option maxHeartbeats 4000000 in
set_option maxRecDepth 1000000 in
theorem i_shiftPeers (g cap n i g' cap' : Nat) (cur cur' : Array Value) (w : World) (hh : w.heap[g]? = some (.cells cur 95 (0, 0))) (hs : cur.size = cap * 2) (hroom : n + 1 ≤ cap) (hcm : cap ≤ maxLen) (hin : i < n)
  (hh' : w.heap[g']? = some (.cells cur' 95 (0, 0))) (hs' : cur'.size = cap' * 2) (hn' : 1 ≤ cap') (hne : g' ≠ g) (h1 : ∀ u ∈ cur.toList.take (n * 2), u.oneCell' = true) (h1' : ∀ u ∈ cur'.toList.take 2, u.oneCell' = true) :
  Calls Tryz.prog 244 #[.slice (some ⟨g, 0, none⟩) n cap, .int .i64 i, .slice (some ⟨g', 0, none⟩) 1 cap'] w fun x w' => x = .returned (.slice (some ⟨g, 0, none⟩) (n + 1) cap) ∧
   w' = putRow id w.drew g 0 (layC (layC cur ((i + 1) * 2) ((cur.toList.take (n * 2)).drop (i * 2))) (i * 2) (cur'.toList.take 2)) := by
 obtain ⟨x0, z, g1, g2, g3, g4, g5, g6, g7⟩ := zero_of w tau_ok (e := 95) (kd := 3) (by kernel_rfl)
 have g2 : x0.size = 2 := g2
 have t22 : Tryz.prog.underlying 46 = some (.slice 95) := Tryz.underlying46
 have mixed := hmix
 have hcap : (n + 1) * 2 ≤ cur.size := by rw [hs]; exact Nat.mul_le_mul_right _ hroom
 have hcap' : 2 ≤ cur'.size := by rw [hs']; omega
 obtain ⟨news, hnews⟩ : ∃ news, news = (cur.toList.take (n * 2)).drop (i * 2) := ⟨_, rfl⟩
 obtain ⟨vs, hvs⟩ : ∃ vs, vs = cur'.toList.take 2 := ⟨_, rfl⟩
 rw [← hnews, ← hvs]
 have hdl : news.length = (n - i) * 2 := by rw [hnews]; simp; omega
 have hvl : vs.length = 1 * 2 := by rw [hvs]; simp; omega
 have hH := holds_of_heap hh
 have hH' := holds_of_heap hh'
 have hz2 : ¬ ((i : Int) = (n : Int)) := by omega
 have hov : ∀ lb cb, (callFunc 249 #[.slice (some ⟨g', 0, none⟩) 1 cap', .slice (some ⟨g, (i + 1) * 2, none⟩) lb cb]).run Tryz.prog w = .ok (.value (.bool false)) w := fun lb cb => by
  rw [run_callFunc_extern Tryz.func249 (by kernel_rfl) (by kernel_rfl) (by kernel_rfl) (e := Extern.SlicesOverlaps.overlaps #[46, 46] #[4]) (by kernel_rfl),
   Lib.run_overlaps_apart w 46 4 95 t22 2 (fun w => by simp [Go.sizeOf, typeInfo, g1, g2]) ⟨g', 0, none⟩ ⟨g, (i + 1) * 2, none⟩ 1 cap' lb cb hne 95 95 cur'.size cur.size (by simp [World.shape?, hh']) (by simp [World.shape?, hh]) (by omega) (by simp [World.frozen?, hh']) (by simp [World.frozen?, hh'])]
  rfl
 have hcp1 : ∀ ty lb dc lc sc, lb = n - i → n - i ≤ lc → (Builtin.copy_ #[46, 46] ty #[.slice (some ⟨g, (i + 1) * 2, none⟩) lb dc, .slice (some ⟨g, i * 2, none⟩) lc sc]).run Tryz.prog w.drew = .ok (goInt ((n - i : Nat) : Int)) (w.drew.setCells g ((i + 1) * 2) news) := fun ty lb dc lc sc hlb hlc =>
  run_copy_k w.drew _ _ ty 95 g ((i + 1) * 2) lb dc ⟨g, i * 2, none⟩ lc sc news t22 g1 g2 (by simp only [Nat.min_def]; split <;> omega) hdl
   (fun j v hj => by
     have hlt : j < (n - i) * 2 := by have := (List.getElem?_eq_some_iff.1 hj).1; rwa [hdl] at this
     rw [hnews, List.getElem?_drop, List.getElem?_take_of_lt (by omega), Array.getElem?_toList, Array.getElem?_eq_getElem (by omega)] at hj
     rw [Addr.add_lit]
     have := (hH (i * 2 + j) (by omega)).1
     rw [Nat.zero_add, getElem!_pos cur _ (by omega)] at this
     injection hj with hj
     rw [← hj]
     exact this)
   (fun j hj => by
     rw [hdl] at hj
     have := (hH ((i + 1) * 2 + j) (by omega)).1
     rw [Nat.zero_add] at this
     show (w.cell? _).isSome = true
     rw [this]; rfl)
   (fun j hj => by
     rw [hdl] at hj
     have := (hH ((i + 1) * 2 + j) (by omega)).2
     rwa [Nat.zero_add] at this)
   (fun v hv => h1 v (by rw [hnews] at hv; exact List.mem_of_mem_drop hv))
 obtain ⟨W1, hW1⟩ : ∃ W1, W1 = w.drew.setCells g ((i + 1) * 2) news := ⟨_, rfl⟩
 have hsp1 : ∀ k, k < (n + 1) * 2 → (W1.cell? ⟨g, k, none⟩).isSome = true := fun k hk => by
  rw [hW1]
  refine isSome_setC g _ _ _ (fun j hj => ?_) _ ?_
  · rw [hdl] at hj
    have := (hH ((i + 1) * 2 + j) (by omega)).1
    rw [Nat.zero_add] at this
    show (w.cell? _).isSome = true
    rw [this]; rfl
  · have := (hH k (by omega)).1
    rw [Nat.zero_add] at this
    show (w.cell? _).isSome = true
    rw [this]; rfl
 have hcp2 : ∀ (W : World), (∀ x, W.cell? x = W1.cell? x) → (∀ x, W.frozen? x = W1.frozen? x) → ∀ ty dc, (Builtin.copy_ #[46, 46] ty #[.slice (some ⟨g, i * 2, none⟩) (n + 1 - i) dc, .slice (some ⟨g', 0, none⟩) 1 cap']).run Tryz.prog W = .ok (goInt 1) (W.setCells g (i * 2) vs) := fun W hWc hWf ty dc =>
  run_copy_k W _ _ ty 95 g (i * 2) (n + 1 - i) dc ⟨g', 0, none⟩ 1 cap' vs t22 g1 g2 (by simp only [Nat.min_def]; split <;> omega) hvl
   (fun j v hj => by
     have hlt : j < 2 := by have := (List.getElem?_eq_some_iff.1 hj).1; rw [hvl] at this; omega
     rw [hvs, List.getElem?_take_of_lt (by omega), Array.getElem?_toList, Array.getElem?_eq_getElem (by omega)] at hj
     rw [Addr.add_lit, hWc, hW1, World.cell?_setCells_out g _ _ _ _ (fun h _ => absurd h hne)]
     have := (hH' j (by omega)).1
     rw [getElem!_pos cur' _ (by omega)] at this
     injection hj with hj
     rw [← hj]
     exact this)
   (fun j hj => by rw [hvl] at hj; rw [hWc]; exact hsp1 _ (by omega))
   (fun j hj => by
     rw [hvl] at hj
     rw [hWf, hW1, World.frozen?_setCells]
     have := (hH (i * 2 + j) (by omega)).2
     rwa [Nat.zero_add] at this)
   (fun v hv => h1' v (by rw [hvs] at hv; exact hv))
 have hfin : W1.setCells g (i * 2) vs = putRow id w.drew g 0 (layC (layC cur ((i + 1) * 2) news) (i * 2) vs) := by
  have hdr : w.drew.heap[g]? = some (.cells cur 95 (0, 0)) := hh
  rw [hW1]
  conv => lhs; rw [← putRow_self id w.drew g 0 cur (holds_of_heap hdr)]
  rw [setCells_layC w.drew g news _ cur (by rw [hdl]; omega), setCells_layC w.drew g vs _ _ (by rw [layC_size (by rw [hdl]; omega), hvl]; omega)]
 have hw1 : IntKind.i64.wrap ((i : Int) + 1) = (i : Int) + 1 := by rw [IntKind.wrap_i64]; unfold maxLen at hcm; omega
 have htn : ((i : Int) + 1).toNat = i + 1 := by omega
 have hb1 : (0 : Int) ≤ (i : Int) + 1 := by omega
 have hin2 : i ≤ n := by omega
 have hb2 : ¬ (cap = i + 1) := by omega
 have hb3 : (i : Int) ≤ (n : Int) + 1 := by omega
 have hb4 : ¬ (cap = i) := by omega
 have hcm2 : cap ≤ 9223372036854775807 := hcm
 rw [← hW1] at hcp1
 have HF : Hid (W1.setCells g (i * 2) vs = putRow id w.drew g 0 (layC (layC cur ((i + 1) * 2) news) (i * 2) vs)) := hfin
 rw [← hfin]
 clear hfin hW1 hsp1 hH hH' hh hh' hnews hvs h1 h1' g6 g7 g4 hdl hvl hs hs' hcap hcap'
 go_enter Tryz.func244, Tryz.ntmps244
 go_wp2_with (simp only [hov])
 go_region_law_o (refine step_copy_k rfl (.tmp 73) (.tmp 76) 46 46 rfl (.slice (some ⟨g, (i + 1) * 2, none⟩) (n - i) (cap - (i + 1))) (.slice (some ⟨g, i * 2, none⟩) (n + 1 - i) (cap - i)) (by simp [Act.eval, Act.put]) (by simp [Act.eval, Act.put]) (hcp1 _ _ _ _ _ (by omega) (by omega)) ?_)
 go_wp2_with (at_builtin; go_loud (refine wpList_copy_k _ rfl _ _ 46 46 rfl _ _ rfl rfl (hcp2 _ (fun _ => rfl) (fun _ => rfl) _ _) ?_))
 go_ret
 exact ⟨rfl, rfl⟩
set_option maxHeartbeats 4000000 in
set_option maxRecDepth 1000000 in
theorem i_growPeers (g cap n i g' cap' : Nat) (cur cur' : Array Value) (w : World) (hh : w.heap[g]? = some (.cells cur 95 (0, 0))) (hs : cur.size = cap * 2) (hnc : n ≤ cap) (hroom : cap < n + 1) (hcm : cap ≤ maxLen) (hin : i < n) (hbig : (n + 1) * 16 ≤ 140737488355328)
  (hh' : w.heap[g']? = some (.cells cur' 95 (0, 0))) (hs' : cur'.size = cap' * 2) (hn' : 1 ≤ cap') (h1 : ∀ u ∈ cur.toList.take (n * 2), u.oneCell' = true) (h1' : ∀ u ∈ cur'.toList.take 2, u.oneCell' = true) :
  Calls Tryz.prog 244 #[.slice (some ⟨g, 0, none⟩) n cap, .int .i64 i, .slice (some ⟨g', 0, none⟩) 1 cap'] w fun x w' => ∃ G ROW, x = .returned (.slice (some ⟨w.heap.size, 0, none⟩) (n + 1) G) ∧ n + 1 ≤ G ∧ G ≤ maxLen ∧ ROW.size = G * 2 ∧ ROW.toList.take (i * 2) = (cur.toList.take (n * 2)).take (i * 2) ∧
   w' = putRow id (w.drew.alloc (.cells ROW 95)).drew w.heap.size 0 (layC (layC ROW (i * 2) (cur'.toList.take 2)) ((i + 1) * 2) ((cur.toList.take (n * 2)).drop (i * 2))) := by
 obtain ⟨x0, z, g1, g2, g3, g4, g5, g6, g7⟩ := zero_of w tau_ok (e := 95) (kd := 3) (by kernel_rfl)
 have g2 : x0.size = 2 := g2
 have g3 : x0.bytes = 16 := g3
 have g5 : z.cells.size = 2 := g5
 have t22 : Tryz.prog.underlying 46 = some (.slice 95) := Tryz.underlying46
 have tI : Tryz.prog.underlying 3 = some (.int .i64) := Tryz.underlying3
 have mixed := hmix
 have hcap : n * 2 ≤ cur.size := by rw [hs]; exact Nat.mul_le_mul_right _ hnc
 have hcap' : 2 ≤ cur'.size := by rw [hs']; omega
 obtain ⟨cs, hcs⟩ : ∃ cs, cs = cur.toList.take (n * 2) := ⟨_, rfl⟩
 obtain ⟨vs, hvs⟩ : ∃ vs, vs = cur'.toList.take 2 := ⟨_, rfl⟩
 rw [← hcs, ← hvs]
 rw [← hcs] at h1
 rw [← hvs] at h1'
 have hcl : cs.length = n * 2 := by rw [hcs]; simp; omega
 have hvl : vs.length = 1 * 2 := by rw [hvs]; simp; omega
 have hH := holds_of_heap hh
 have hH' := holds_of_heap hh'
 have hcc : ∀ j v, cs[j]? = some v → w.cell? ⟨g, j, none⟩ = some v := fun j v hj => by
  have hlt : j < n * 2 := by have := (List.getElem?_eq_some_iff.1 hj).1; rwa [hcl] at this
  rw [hcs, List.getElem?_take_of_lt (by omega), Array.getElem?_toList, Array.getElem?_eq_getElem (by omega)] at hj
  have := (hH j (by omega)).1
  rw [Nat.zero_add, getElem!_pos cur _ (by omega)] at this
  injection hj with hj
  rw [← hj]
  exact this
 have hvc : ∀ j v, vs[j]? = some v → w.cell? ⟨g', j, none⟩ = some v := fun j v hj => by
  have hlt : j < 2 := by have := (List.getElem?_eq_some_iff.1 hj).1; rw [hvl] at this; omega
  rw [hvs, List.getElem?_take_of_lt (by omega), Array.getElem?_toList, Array.getElem?_eq_getElem (by omega)] at hj
  have := (hH' j (by omega)).1
  rw [Nat.zero_add, getElem!_pos cur' _ (by omega)] at this
  injection hj with hj
  rw [← hj]
  exact this
 have hgw : g < w.heap.size := (Array.getElem?_eq_some_iff.1 hh).1
 have hvw : g' < w.heap.size := (Array.getElem?_eq_some_iff.1 hh').1
 have hkk : (n : Int) + 1 - (i : Int) = ((n + 1 - i : Nat) : Int) := by omega
 have hik : i + (n + 1 - i) = n + 1 := by omega
 have hold : (Builtin.firstCells x0.size i (.slice (some ⟨g, 0, none⟩) i cap)).run Tryz.prog w.drew = .ok (cs.take (i * 2)).toArray w.drew := by
  rw [g2]
  exact run_firstCells_some w.drew 2 i ⟨g, 0, none⟩ i cap (cs.take (i * 2)) (by rw [List.length_take]; omega) (fun j v hj => by
   rw [Addr.add_lit, Nat.zero_add]
   rw [List.getElem?_take] at hj
   split at hj
   · exact hcc j v hj
   · cases hj)
 have hrz : ∀ ty, (Builtin.append_ #[46, 3] ty #[.slice (some ⟨g, 0, none⟩) i cap, .int .i64 ((n : Int) + 1 - (i : Int))]).run Tryz.prog w =
   .ok (.slice (some ⟨w.heap.size, 0, none⟩) (n + 1) (grownCap w (n + 1) cap 95)) (w.drew.alloc (.cells ((cs.take (i * 2)).toArray ++ Builtin.zeroCells z.cells (n + 1 - i) ++ Builtin.zeroCells z.cells (grownCap w (n + 1) cap 95 - (n + 1))) 95)) := fun ty => by
  have h := Lib.run_append_grow_zeros w 46 3 ty 95 x0 z .i64 .i64 t22 tI g1 g4 (some ⟨g, 0, none⟩) i cap (cs.take (i * 2)) hold (n + 1 - i) (by omega) (by omega) (by omega) (by omega) (by rw [g3]; omega) (by rw [g3, hik]; exact growslice_fits hroom hbig)
  rw [hik] at h
  rw [hkk]
  exact h
 obtain ⟨G, hG⟩ : ∃ G, G = grownCap w (n + 1) cap 95 := ⟨_, rfl⟩
 obtain ⟨ROW, hROW⟩ : ∃ ROW : Array Value, ROW = (cs.take (i * 2)).toArray ++ Builtin.zeroCells z.cells (n + 1 - i) ++ Builtin.zeroCells z.cells (G - (n + 1)) := ⟨_, rfl⟩
 rw [← hG] at hrz
 rw [← hROW] at hrz
 have hGn : n + 1 ≤ G := by rw [hG]; exact grownCap_ge w _ _ _
 have hGm : G ≤ maxLen := by rw [hG]; exact grownCap_le_maxLen w (n + 1) cap 95 (by unfold maxLen; omega)
 have hG63 : G ≤ 9223372036854775807 := hGm
 have hRs : ROW.size = G * 2 := by
  rw [hROW]
  simp [Builtin.zeroCells, g5, hcl]
  omega
 have hRl : (n + 1) * 2 ≤ ROW.size := by rw [hRs]; exact Nat.mul_le_mul_right _ hGn
 have hRt : ROW.toList.take (i * 2) = cs.take (i * 2) := by
  rw [hROW]
  simp only [Array.toList_append, List.append_assoc]
  rw [List.take_append_of_le_length (by simp [hcl]; omega)]
  first | done | (show List.take _ (List.take _ cs) = _; rw [List.take_take, Nat.min_self])
 obtain ⟨W1, hW1⟩ : ∃ W1, W1 = w.drew.alloc (.cells ROW 95) := ⟨_, rfl⟩
 rw [← hW1] at hrz
 have hN : ∀ j, j < (n + 1) * 2 → (W1.cell? ⟨w.heap.size, j, none⟩).isSome = true := fun j hj => by
  rw [hW1, World.cell?_alloc_at (w := w.drew) ROW _ w.heap.size j rfl, Array.getElem?_eq_getElem (by omega)]; rfl
 have hNf : ∀ j, W1.frozen? ⟨w.heap.size, j, none⟩ = false := fun j => by rw [hW1]; exact World.frozen?_alloc_at (w := w.drew) ROW _ w.heap.size j rfl
 have hOb : ∀ j v, w.cell? ⟨g, j, none⟩ = some v → W1.cell? ⟨g, j, none⟩ = some v := fun j v h => by rw [hW1, World.cell?_alloc_past (w := w.drew) _ g j hgw]; exact h
 have hOv : ∀ j v, w.cell? ⟨g', j, none⟩ = some v → W1.cell? ⟨g', j, none⟩ = some v := fun j v h => by rw [hW1, World.cell?_alloc_past (w := w.drew) _ g' j hvw]; exact h
 have hcpA : ∀ (W : World), (∀ x, W.cell? x = W1.cell? x) → (∀ x, W.frozen? x = W1.frozen? x) → ∀ ty dc, (Builtin.copy_ #[46, 46] ty #[.slice (some ⟨w.heap.size, i * 2, none⟩) (n + 1 - i) dc, .slice (some ⟨g', 0, none⟩) 1 cap']).run Tryz.prog W = .ok (goInt ((1 : Nat) : Int)) (W.setCells w.heap.size (i * 2) vs) := fun W hWc hWf ty dc =>
  run_copy_k W _ _ ty 95 w.heap.size (i * 2) (n + 1 - i) dc ⟨g', 0, none⟩ 1 cap' vs t22 g1 g2 (by simp only [Nat.min_def]; split <;> omega) hvl
   (fun j v hj => by rw [Addr.add_lit, Nat.zero_add, hWc]; exact hOv _ v (hvc j v hj))
   (fun j hj => by rw [hvl] at hj; rw [hWc]; exact hN _ (by omega)) (fun j hj => by rw [hWf]; exact hNf _) h1'
 have hgN : g ≠ w.heap.size := by omega
 have hdl : (cs.drop (i * 2)).length = (n - i) * 2 := by rw [List.length_drop, hcl]; omega
 have hcpB : ∀ (W : World), (∀ x, W.cell? x = (W1.setCells w.heap.size (i * 2) vs).cell? x) → (∀ x, W.frozen? x = (W1.setCells w.heap.size (i * 2) vs).frozen? x) → ∀ ty dc sc, (Builtin.copy_ #[46, 46] ty #[.slice (some ⟨w.heap.size, (i + 1) * 2, none⟩) (n - i) dc, .slice (some ⟨g, i * 2, none⟩) (n - i) sc]).run Tryz.prog W = .ok (goInt ((n - i : Nat) : Int)) (W.setCells w.heap.size ((i + 1) * 2) (cs.drop (i * 2))) := fun W hWc hWf ty dc sc =>
  run_copy_k W _ _ ty 95 w.heap.size ((i + 1) * 2) (n - i) dc ⟨g, i * 2, none⟩ (n - i) sc (cs.drop (i * 2)) t22 g1 g2 (by simp only [Nat.min_def]; split <;> omega) hdl
   (fun j v hj => by
     rw [Addr.add_lit, hWc, World.cell?_setCells_out _ _ _ _ _ (fun h _ => absurd h hgN)]
     exact hOb _ v (hcc _ v (by rwa [List.getElem?_drop] at hj)))
   (fun j hj => by rw [hdl] at hj; rw [hWc]; exact isSome_setC _ _ _ _ (fun t ht => by rw [hvl] at ht; exact hN _ (by omega)) _ (hN _ (by omega)))
   (fun j hj => by rw [hWf, World.frozen?_setCells]; exact hNf _) (fun v hv => h1 v (List.mem_of_mem_drop hv))
 have hfin : ((w.drew.alloc (.cells ROW 95)).drew.setCells w.heap.size (i * 2) vs).setCells w.heap.size ((i + 1) * 2) (cs.drop (i * 2)) = putRow id (w.drew.alloc (.cells ROW 95)).drew w.heap.size 0 (layC (layC ROW (i * 2) vs) ((i + 1) * 2) (cs.drop (i * 2))) := by
  have hdr : (w.drew.alloc (.cells ROW 95)).drew.heap[w.heap.size]? = some (.cells ROW 95 (0, 0)) := by
   show (w.drew.heap.push _)[w.heap.size]? = _
   exact Array.getElem?_push_size
  conv => lhs; rw [← putRow_self id (w.drew.alloc (.cells ROW 95)).drew w.heap.size 0 ROW (holds_of_heap hdr)]
  rw [setCells_layC _ _ vs _ ROW (by rw [hvl]; omega), setCells_layC _ _ (cs.drop (i * 2)) _ _ (by rw [layC_size (by rw [hvl]; omega), hdl]; omega)]
 subst hW1
 have hE1 : ∀ x, ((w.alloc (.cells ROW 95)).drew).cell? x = (w.drew.alloc (.cells ROW 95)).cell? x := fun x => rfl
 have hE2 : ∀ x, ((w.alloc (.cells ROW 95)).drew).frozen? x = (w.drew.alloc (.cells ROW 95)).frozen? x := fun x => rfl
 have hF1 : ∀ x, (((w.alloc (.cells ROW 95)).drew.setCells w.heap.size (i * 2) vs).drew).cell? x = ((w.drew.alloc (.cells ROW 95)).setCells w.heap.size (i * 2) vs).cell? x := fun x => rfl
 have hF2 : ∀ x, (((w.alloc (.cells ROW 95)).drew.setCells w.heap.size (i * 2) vs).drew).frozen? x = ((w.drew.alloc (.cells ROW 95)).setCells w.heap.size (i * 2) vs).frozen? x := fun x => rfl
 have hz2 : ¬ ((i : Int) = (n : Int)) := by omega
 have hz3 : (cap : Int) < (n : Int) + 1 := by omega
 have hw1 : IntKind.i64.wrap ((i : Int) + 1) = (i : Int) + 1 := by rw [IntKind.wrap_i64]; unfold maxLen at hcm; omega
 have htn : ((i : Int) + 1).toNat = i + 1 := by omega
 have hb1 : (0 : Int) ≤ (i : Int) + 1 := by omega
 have hin2 : i ≤ n := by omega
 have hGi : ¬ (G = i) := by omega
 have hGim : ¬ (G = i + 1) := by omega
 have hci : ¬ (cap = i) := by omega
 have hb3 : (i : Int) ≤ (n : Int) + 1 := by omega
 have hcm2 : cap ≤ 9223372036854775807 := hcm
 have HF : Hid (((w.drew.alloc (.cells ROW 95)).drew.setCells w.heap.size (i * 2) vs).setCells w.heap.size ((i + 1) * 2) (cs.drop (i * 2)) = putRow id (w.drew.alloc (.cells ROW 95)).drew w.heap.size 0 (layC (layC ROW (i * 2) vs) ((i + 1) * 2) (cs.drop (i * 2)))) := hfin
 have HRt : Hid (ROW.toList.take (i * 2) = cs.take (i * 2)) := hRt
 have HRs : Hid (ROW.size = G * 2) := hRs
 clear hfin hRt hRs hkk hik hold hROW hG hRl hH hH' hh hh' hcs hvs h1 h1' g6 g7 g4 hdl hvl hs hs' hcap hcap' hcc hvc hN hNf hOb hOv hcl
 go_enter Tryz.func244, Tryz.ntmps244
 go_wp2_with (first
  | (at_builtin; refine Lib.wpList_append_run _ rfl _ _ _ _ rfl _ _ rfl rfl _ _ (hrz _) ?_)
  | (at_builtin; refine wpList_copy_k _ rfl _ _ 46 46 rfl _ _ rfl rfl (hcpA _ hE1 hE2 _ _) ?_)
  | (at_builtin; refine wpList_copy_k _ rfl _ _ 46 46 rfl _ _ rfl rfl (hcpB _ (fun _ => rfl) (fun _ => rfl) _ _ _) ?_))
 go_region_law_o (refine step_copy_k rfl _ _ 46 46 rfl (.slice (some ⟨w.heap.size, (i + 1) * 2, none⟩) (n - i) (G - (i + 1))) (.slice (some ⟨g, i * 2, none⟩) (n - i) (cap - i)) (by simp [Act.eval, Act.put]) (by simp [Act.eval, Act.put]) (hcpB _ hF1 hF2 _ (G - (i + 1)) (cap - i)) ?_)
 go_wp2
 go_ret
 refine ⟨G, ROW, rfl, hGn, hGm, HRs.out, HRt.out, ?_⟩
 rw [← setCells_drew]
 exact HF.out
theorem w_InsertPeers : InsW Tryz.prog 244 95 2 16 := by
 refine InsW.of (fnOk_enters (fn := Tryz.f244) (D := [(11, [(0, 0), (1, 0), (2, 0), (3, 6), (4, 9), (5, 0), (6, 0), (7, 96), (8, 144)]), (15, [(0, 0), (1, 0), (2, 0), (3, 6), (4, 9), (5, 0), (6, 0), (7, 96), (8, 144)])]) (by kernel_rfl) (by kernel_rfl)) (fun base n v v2 us vs w a1 a2 a3 a4 a5 => i_endPeers base n v v2 us vs w a1 a2 a3 a4 a5) (fun g cap n i g' cap' cur cur' w a1 a2 a3 a4 a5 a6 a7 a8 a9 b1 b2 => ?_) (fun g cap n i g' cap' cur cur' w a1 a2 a3 a4 a5 a6 a7 a8 a9 b1 b2 b3 => ?_)
 · have h := i_shiftPeers g cap n i g' cap' cur cur' w a1 a2 a3 a4 a5 a6 a7 a8 a9 b1 b2
   (try simp only [Nat.mul_one] at h ⊢)
   exact h
 · have h := i_growPeers g cap n i g' cap' cur cur' w a1 a2 a3 a4 a5 a6 a7 a8 a9 b1 b2 b3
   (try simp only [Nat.mul_one] at h ⊢)
   exact h
theorem t_InsertPeers : TrKnown Tryz.prog tau 244 (insertT 3) := insert_tr w_InsertPeers
end Go.Proofs.YtjjpakdlkjaigaaGreat

/- slices.Clone at one type: its walk. -/
namespace Go.Proofs.YtjjpakdlkjaigaaGreat
open Go.RowKit
set_option maxHeartbeats 1000000 in
theorem w_ClonePeers : CloneW Tryz.prog 186 95 2 16 := by
 obtain ⟨hk10, het, ti, hti, hsz, hby, _⟩ := tau_ok.rk 95 3 (by kernel_rfl)
 obtain ⟨x0, z, g1, g2, g3, g4, g5, g6⟩ := (tau_ok.ti _ ti hti).info
 have g2 : x0.size = 2 := g2.trans hsz
 have g3 : x0.bytes = 16 := g3.trans hby
 have g5 : z.cells.size = 2 := g5.trans hsz
 clear hk10 het g6
 have t22 : Tryz.prog.underlying 46 = some (.slice 95) := Tryz.underlying46
 have q22 : ∀ (w : World) (a : Option Addr) (n c n' c' : Nat), (binOp .eql 46 (.slice a n c) (.slice none n' c')).run Tryz.prog w = .ok (.bool a.isNone) w := fun w a n c n' c' => Lib.run_eql_slice_nil w _ _ a n c n' c' t22
 refine ⟨fnOk_enters (fn := Tryz.f186) (D := []) (by kernel_rfl) (by kernel_rfl), fun n c w => ?_, fun ad n c news w hl hn hbig hc h1 => ?_⟩
 · go_enter Tryz.func186, Tryz.ntmps186
   go_wp2
   go_ret
   exact ⟨rfl, rfl⟩
 · have A : Aside (∀ j u, news[j]? = some u → w.cell? (ad.add j) = some u) := hc
   clear hc
   go_enter Tryz.func186, Tryz.ntmps186
   go_wp2_with (at_builtin; refine wpList_append_own _ rfl _ _ 46 rfl w.heap.size 95 x0 z 2 16 t22 g1 g4 g2 g3 g5 (by decide) _ _ _ rfl (World.ownsRow_made w #[] 0 (Nat.le_refl _) (Nat.zero_le _) (by simp)) ad n c news rfl ?qc1 ?qc2 ?qc3 ?qc4 ?qc5 ?qc6 ?_)
   case qc1 => exact hl
   case qc2 =>
    intro j u hj
    exact Lib.cell?_alloc_some _ (A.out j u hj)
   case qc3 => exact h1
   case qc4 => rw [Nat.zero_add]; exact hn
   case qc5 => rw [Nat.zero_add]; exact hbig
   case qc6 => simp
   intro v' w1 hown hgrow hnil
   go_wp2
   go_ret
   refine ⟨v', rfl, by simpa using hown, ?_⟩
   exact ((Below.refl _ w).alloc (Nat.le_refl _) _).grown hgrow (by simp) (by intro k hk; simp [Value.ownBlock] at hk; omega)
theorem k_ClonePeers : Known Tryz.prog tau 186 (S1 dPeers fun l => .ok (.own 0) [.peers l]) := clone_known dPeers .peers (fun _ => rfl) (fun _ => rfl) (kd := 3) (fun _ => rfl) w_ClonePeers
end Go.Proofs.YtjjpakdlkjaigaaGreat

/- Contracts: one that is heard now. -/
namespace Go.Proofs.YtjjpakdlkjaigaaGreat
open Go.RowKit
set_option maxRecDepth 20000
theorem risingP_has {b : Int} {l : List GPeer} {x : Int} (hs : RisingP b l) (h : hasP b l x = true) : l.countP (fun p => decide (farI b p.id < farI b x)) < l.length ∧ farI b (l.getD (l.countP fun p => decide (farI b p.id < farI b x)) default).id = farI b x := by
 obtain ⟨y, hy, e⟩ := List.any_eq_true.1 h
 have e := of_decide_eq_true e
 obtain ⟨i, hi, rfl⟩ := List.getElem_of_mem hy
 have ei : farI b (l.getD i default).id = farI b x := by rw [List.getD_eq_getElem?_getD, List.getElem?_eq_getElem hi]; exact e
 have hc : l.countP (fun p => decide (farI b p.id < farI b x)) = i := search_end (d := default) (κ := fun p : GPeer => farI b p.id) (K := farI b x) (Nat.le_of_lt hi) (fun t ht => by
  have := hs t i ht hi
  show farI b (l.getD t default).id < farI b x
  omega) (fun t ht h2 => by
  have := risingP_lt hs ht h2
  show farI b x ≤ farI b (l.getD t default).id
  omega)
 rw [hc]
 exact ⟨hi, ei⟩
noncomputable def heardU (b : Int) (l : List GPeer) (x : Int) : List GPeer := if hasP b l x = true then l.set (l.countP fun p => decide (farI b p.id < farI b x)) ⟨(l.getD (l.countP fun p => decide (farI b p.id < farI b x)) default).id, 0⟩ else l.take (l.countP fun p => decide (farI b p.id < farI b x)) ++ [⟨x, 0⟩] ++ l.drop (l.countP fun p => decide (farI b p.id < farI b x))
noncomputable def heardP (b : Int) (l : List GPeer) (x : Int) : List GPeer × Int := Classical.choose (seal_ex (if peersB b l = true ∧ placeB x = true ∧ x ≠ b then (if hasP b l x = true then (heardU b l x, (0 : Int)) else if l.length = 16 then ([], 701) else (heardU b l x, 0)) else ([], 700)))
theorem heardP_def (b : Int) (l : List GPeer) (x : Int) : heardP b l x = if peersB b l = true ∧ placeB x = true ∧ x ≠ b then (if hasP b l x = true then (heardU b l x, (0 : Int)) else if l.length = 16 then ([], 701) else (heardU b l x, 0)) else ([], 700) := Classical.choose_spec (seal_ex _)
noncomputable def oHeard (b : Int) (l : List GPeer) (x : Int) : Out := .ok (.tup [.own 0, .int .i64 (heardP b l x).2]) [.peers (heardP b l x).1]
theorem heardP_no {b : Int} {l : List GPeer} {x : Int} (h : peersB b l = false ∨ placeB x = false ∨ x = b) : heardP b l x = ([], 700) := by
 rw [heardP_def, if_neg]
 rintro ⟨h1, h2, h3⟩
 rcases h with h | h | h <;> simp_all
theorem heardP_has {b : Int} {l : List GPeer} {x : Int} (h1 : peersB b l = true) (h2 : placeB x = true) (h3 : x ≠ b) (h : hasP b l x = true) : heardP b l x = (l.set (l.countP fun p => decide (farI b p.id < farI b x)) ⟨(l.getD (l.countP fun p => decide (farI b p.id < farI b x)) default).id, 0⟩, 0) := by
 rw [heardP_def, if_pos ⟨h1, h2, h3⟩, if_pos h, heardU, if_pos h]
theorem heardP_full {b : Int} {l : List GPeer} {x : Int} (h1 : peersB b l = true) (h2 : placeB x = true) (h3 : x ≠ b) (h : hasP b l x = false) (h4 : l.length = 16) : heardP b l x = ([], 701) := by
 rw [heardP_def, if_pos ⟨h1, h2, h3⟩, if_neg (by rw [h]; simp), if_pos h4]
theorem heardP_yes {b : Int} {l : List GPeer} {x : Int} (h1 : peersB b l = true) (h2 : placeB x = true) (h3 : x ≠ b) (h : hasP b l x = false) (h4 : ¬ l.length = 16) : heardP b l x = (l.take (l.countP fun p => decide (farI b p.id < farI b x)) ++ [⟨x, 0⟩] ++ l.drop (l.countP fun p => decide (farI b p.id < farI b x)), 0) := by
 rw [heardP_def, if_pos ⟨h1, h2, h3⟩, if_neg (by rw [h]; simp), if_neg h4, heardU, if_neg (by rw [h]; simp)]
theorem k_Heard : Known Tryz.prog tau 232 (S3 dInt dPeers dInt oHeard) := by
 refine knownX3 hmix tau_ok (fn := Tryz.f232) (by kernel_rfl) [] (by kernel_rfl) _ _ _ _ fun b l x hfit => ⟨rfl, _, ctx_tr t_InsertPeers (ctx_cons k_peersMay (ctx_cons k_Place (ctx_cons k_ClonePeers (ctx_cons k_Find ctx_nil)))), [], ?_⟩
 clear hfit
 refine V1 ?_; constructor <;> (first | (with_reducible exact TT.i) | (intros; (repeat (apply Wk.mk; intro Kv hN hX hR)); apply Wr.mk))
 all_goals first
  | (rw [heardP_no (.inl (nf aQ))] <;> rfl)
  | (rw [heardP_no (.inr (.inl (nf aQ)))] <;> rfl)
  | (rw [heardP_no (.inr (.inr (of_decide_eq_true aQ)))] <;> rfl)
  | (have h1 := nt (show (!peersB b l) = false by with_reducible assumption)
     have h2 := nt (show (!placeB x) = false by with_reducible assumption)
     have h3 := of_decide_eq_false (show decide (x = b) = false by with_reducible assumption)
     have hp := peersB_iff.1 h1
     have hc : l.countP (fun p => decide (farI b p.id < farI b x)) ≤ l.length := List.countP_le_length
     first
      | exact Ob.mk hp.2.2.1
      | (have h4 : hasP b l x = true := by with_reducible assumption
         have h5 := risingP_has hp.2.2.1 h4
         first
          | exact Ob.mk ⟨by unfold cntP; omega, by unfold cntP; omega⟩
          | (rw [heardP_has h1 h2 h3 h4] <;> rfl))
      | (have h4 := of_decide_eq_true (show decide ((l.length : Int) = 16) = true by with_reducible assumption)
         rw [heardP_full h1 h2 h3 aQ (by omega)] <;> rfl)
      | (have h4 := of_decide_eq_false (show decide ((l.length : Int) = 16) = false by with_reducible assumption)
         refine Ob.mk ⟨by unfold cntP; omega, by unfold cntP; omega, ?_⟩
         simp only [Rw.bts, Rw.kd, kdBytes]
         omega)
      | (have h4 := of_decide_eq_false (show decide ((l.length : Int) = 16) = false by with_reducible assumption)
         rw [heardP_yes h1 h2 h3 aQ (by omega)] <;> rfl))
end Go.Proofs.YtjjpakdlkjaigaaGreat

/- Contracts: who is heard: the document's. -/
namespace Go.Proofs.YtjjpakdlkjaigaaGreat
open Go.RowKit
set_option maxRecDepth 20000
def refPB (b : Int) (p : GPeer) : Bool := placeB p.id && (!decide (p.id = b) && (decide (0 ≤ p.missed) && decide (p.missed < 3)))
theorem far_pos {b x : Int} (h1 : placeB b = true) (h2 : placeB x = true) : (0 < farI b x ↔ x ≠ b) ∧ 0 ≤ farI b x := by
 simp only [placeB, Bool.and_eq_true, decide_eq_true_eq] at h1 h2
 rw [farI_eq h1.1 h1.2 h2.1 h2.2]
 omega
theorem far_inj {b x y : Int} (h1 : placeB b = true) (h2 : placeB x = true) (h3 : placeB y = true) : farI b x = farI b y ↔ x = y := by
 simp only [placeB, Bool.and_eq_true, decide_eq_true_eq] at h1 h2 h3
 rw [farI_eq h1.1 h1.2 h2.1 h2.2, farI_eq h1.1 h1.2 h3.1 h3.2]
 omega
theorem refPB_iff {b : Int} {p : GPeer} (h : placeB b = true) : refPB b p = peerB b p := by
 unfold refPB peerB
 cases hp : placeB p.id with
 | false => simp
 | true =>
   have h1 := (far_pos h hp).1
   by_cases e : p.id = b
   · have : ¬ 0 < farI b p.id := fun h2 => h1.1 h2 e
     simp [e, this]
     intro _ _
     rw [e] at this
     omega
   · have : 0 < farI b p.id := h1.2 e
     simp [e, this]
set_option maxHeartbeats 4000000 in
theorem k_refPeers : Known Tryz.prog tau 170 (S2 dInt dPeers fun b l => okB (peersB b l)) := by
 refine known2 hmix tau_ok (ctx_cons k_refPlace (ctx_cons k_reffar ctx_nil)) (fn := Tryz.f170) (by kernel_rfl) [(4, ((0, 0) :: (1, 0) :: (2, 3) :: (3, 4) :: (4, 8) :: (5, 16) :: (6, 32) :: (7, 96) :: (8, 128) :: (9, 128) :: (10, 896) :: (11, 1152) :: (12, 2176) :: (13, 128) :: (14, 12416) :: (15, 16512) :: (16, 32896) :: (17, 65536) :: (18, 65536) :: (19, 458752) :: (20, 589824) :: (21, 1114112) :: (22, 2162688) :: (23, 4259840) :: (24, 8454144) :: (25, 16777216) :: (26, 16777216) :: (27, 117440512) :: (28, 150994944) :: (29, 285212672) :: (30, 553648128) :: (31, 1090519040) :: (32, 2164260864) :: (33, 4294967296) :: (34, 12884901888) :: (35, 21474836480) :: (36, 34359738368) :: (37, 34359738368) :: (38, 34359738368) :: (39, 309237645312) :: (40, 721554505728) :: (41, 1133871366144) :: (42, 2233382993920) :: (43, 4501125726208) :: (44, 34359738368) :: (45, 34359738368) :: (46, 34359738368) :: (47, 105587476004864) :: (48, 140771848093696) :: (49, 281509336449024) :: (50, 589372592226304) :: (51, 1134730359603200) :: (52, 2251838468390912) :: (53, 4503603922337792) :: []))] (by kernel_rfl) _ _ _ fun b xs hfit => ⟨rfl,
  [(2, invN (4 :: 5 :: 6 :: 7 :: 8 :: 9 :: 10 :: 11 :: 12 :: 13 :: 14 :: 15 :: 16 :: 17 :: 18 :: 19 :: 20 :: 21 :: 22 :: 23 :: 24 :: 25 :: 26 :: 27 :: 28 :: 29 :: 30 :: 31 :: 32 :: 33 :: 34 :: 35 :: 36 :: 37 :: 38 :: 39 :: 40 :: 41 :: 42 :: 43 :: 44 :: 45 :: 46 :: 47 :: 48 :: 49 :: 50 :: 51 :: 52 :: 53 :: 54 :: 55 :: 56 :: 57 :: 58 :: 59 :: 60 :: 61 :: 62 :: 63 :: 64 :: 65 :: []) (fun i => i ≤ xs.length ∧ (∀ x ∈ xs.take i, refPB b x = true) ∧ ∀ t, t + 1 < i → farI b (xs.getD t default).id < farI b (xs.getD (t + 1) default).id) (fun i => withS [(5, .int .i64 i)]) (fun i => xs.length - i))], ?_⟩
 have hlen : xs.length * 16 ≤ 140737488355328 := hfit.2.1
 clear hfit
 refine V2 ?_; constructor <;> (first | (with_reducible exact TT.i) | (intros; (repeat (apply Wk.mk; intro Kv hN hX hR)); apply Wr.mk))
 all_goals first
  | (refine ⟨0, ⟨by omega, by simp, by intros; omega⟩, ?_⟩
     refine V1 ?_; constructor <;> (first | (with_reducible exact TT.i) | (intros; (repeat (apply Wk.mk; intro Kv hN hX hR)); apply Wr.mk))
     all_goals rfl)
  | (with_reducible intro i hi
     refine V1 ?_; constructor <;> (first | (with_reducible exact TT.i) | (intros; (repeat (apply Wk.mk; intro Kv hN hX hR)); apply Wr.mk))
     all_goals first
         | (have h := of_decide_eq_true (show decide ((i : Int) < (xs.length : Nat)) = true by with_reducible assumption)
            first
             | exact Ob.mk ⟨by omega, h⟩
             | (have h0 := of_decide_eq_true (show decide (0 < (i : Int)) = true by with_reducible assumption)
                have hb := back1 (i := i) (by omega) (by omega)
                exact Ob.mk (by rw [hb.2]; omega))
             | (refine (peersB_no ?_).symm
                rintro ⟨h0, _, h3, h4⟩
                have h5 := h4 _ (getD_mem (l := xs) (i := i) (d := default) (by omega))
                rw [← refPB_iff h0] at h5
                simp only [refPB, Bool.and_eq_true] at h5
                simp only [decide_eq_true_eq, decide_eq_false_iff_not, Bool.not_eq_true', Bool.not_eq_false', Int.toNat_natCast] at *
                first
                 | omega
                 | (simp_all; done)
                 | (have hb := back1 (i := i) (by omega) (by omega)
                    have h6 : farI b (xs.getD i default).id ≤ farI b (xs.getD (IntKind.i64.wrap ((i : Int) - 1)).toNat default).id := by assumption
                    rw [hb.1] at h6
                    have := h3 (i - 1) i (by omega) (by omega)
                    omega))
             | (have hp : refPB b (xs.getD i default) = true := by
                 simp only [refPB, Bool.and_eq_true]
                 simp only [decide_eq_true_eq, decide_eq_false_iff_not, Bool.not_eq_true', Bool.not_eq_false', Int.toNat_natCast] at *
                 refine ⟨by assumption, by assumption, by omega, by omega⟩
                have hl : 0 < i → farI b (xs.getD (i - 1) default).id < farI b (xs.getD i default).id := by
                 intro h0
                 first
                  | (have hb := back1 (i := i) (by omega) (by omega)
                     have h6 := of_decide_eq_false (show decide (farI b (xs.getD (i : Int).toNat default).id ≤ farI b (xs.getD (IntKind.i64.wrap ((i : Int) - 1)).toNat default).id) = false by with_reducible assumption)
                     rw [hb.1, Int.toNat_natCast] at h6
                     omega)
                  | (have h6 := of_decide_eq_false (show decide (0 < (i : Int)) = false by with_reducible assumption)
                     omega)
                refine ⟨i + 1, ⟨by omega, all_take_succ (d := default) (by omega) hi.2.1 hp, fun t ht => ?_⟩, by show xs.length - (i + 1) < xs.length - i; omega, ?_⟩
                · rcases Nat.lt_or_eq_of_le (Nat.le_of_lt_succ ht) with h3 | h3
                  · exact hi.2.2 t h3
                  · subst h3
                    exact hl (by omega)
                · refine V1 ?_; constructor <;> (first | (with_reducible exact TT.i) | (intros; (repeat (apply Wk.mk; intro Kv hN hX hR)); apply Wr.mk))
                  all_goals first
                   | exact wrapI (by omega) (by omega)
                   | rfl))
         | (have h0 : placeB b = false := by with_reducible assumption
            exact (peersB_no fun h => by rw [h.1] at h0; simp at h0).symm)
         | (have h := of_decide_eq_false (show decide ((i : Int) < (xs.length : Nat)) = false by with_reducible assumption)
            have h0 : placeB b = true := by with_reducible assumption
            obtain rfl : i = xs.length := by omega
            have h2 := hi.2.1
            rw [List.take_of_length_le (Nat.le_refl _)] at h2
            by_cases h4 : xs.length ≤ 16
            · rw [peersB_iff.2 ⟨h0, h4, risingP_adj hi.2.2, fun p hp => by rw [← refPB_iff h0]; exact h2 p hp⟩]
              exact decide_eq_true (by omega)
            · rw [peersB_no (fun h => h4 h.2.1)]
              exact decide_eq_false (by omega)))
end Go.Proofs.YtjjpakdlkjaigaaGreat

/- Contracts: views, stores, nodes: may they be. -/
namespace Go.Proofs.YtjjpakdlkjaigaaGreat
open Go.RowKit
set_option maxRecDepth 20000
def viewB (v : GView) : Bool := peersB v.id v.peers && (passB v.passive && (decide (v.peers.length + v.passive.length ≤ 16) && !v.passive.any (oddV v)))
theorem viewB_iff {v : GView} : viewB v = true ↔ peersB v.id v.peers = true ∧ passB v.passive = true ∧ v.peers.length + v.passive.length ≤ 16 ∧ v.passive.any (oddV v) = false := by
 simp only [viewB, Bool.and_eq_true, decide_eq_true_eq, Bool.not_eq_true']
theorem viewB_no {v : GView} (h : ¬ (peersB v.id v.peers = true ∧ passB v.passive = true ∧ v.peers.length + v.passive.length ≤ 16 ∧ v.passive.any (oddV v) = false)) : viewB v = false := by
 rw [← viewB_iff] at h
 simpa using h
theorem etaView (v : GView) : (⟨v.id, v.peers, v.passive⟩ : GView) = v := rfl
set_option maxHeartbeats 1000000 in
theorem k_viewMay : Known Tryz.prog tau 177 (S1 dView fun v => okB (viewB v)) := by
 refine known1 hmix tau_ok (ctx_cons k_peersMay (ctx_cons k_passMay (ctx_cons k_vContains ctx_nil))) (fn := Tryz.f177) (by kernel_rfl) [] (by kernel_rfl) _ _ fun v hfit => ⟨rfl, [], ?_⟩
 clear hfit
 refine V1 ?_; constructor <;> (first | (with_reducible exact TT.i) | (intros; (repeat (apply Wk.mk; intro Kv hN hX hR)); apply Wr.mk))
 all_goals first
  | (have h1 := nf (show (!peersB v.id v.peers) = true by with_reducible assumption)
     exact (viewB_no fun h => by rw [h.1] at h1; simp at h1).symm)
  | (have h1 := nf (show (!passB v.passive) = true by with_reducible assumption)
     exact (viewB_no fun h => by rw [h.2.1] at h1; simp at h1).symm)
  | (have h1 := nt (show (!peersB v.id v.peers) = false by with_reducible assumption)
     have h2 := nt (show (!passB v.passive) = false by with_reducible assumption)
     have g1 := peersB_iff.1 h1
     have g2 := passB_iff.1 h2
     have e1 : IntKind.i64.wrap ((v.peers.length : Int) + (v.passive.length : Int)) = v.peers.length + v.passive.length := wrapI (by omega) (by omega)
     first
      | exact Ob.mk g1.2.2.1
      | (have h3 := of_decide_eq_true (show decide (16 < IntKind.i64.wrap ((v.peers.length : Int) + (v.passive.length : Int))) = true by with_reducible assumption)
         rw [e1] at h3
         exact (viewB_no fun h => by have := h.2.2.1; omega).symm)
      | (have h3 := of_decide_eq_false (show decide (16 < IntKind.i64.wrap ((v.peers.length : Int) + (v.passive.length : Int))) = false by with_reducible assumption)
         rw [e1] at h3
         unfold viewB
         rw [h1, h2, decide_eq_true (show v.peers.length + v.passive.length ≤ 16 by omega)]
         rfl))
def toldB (t : GTold) : Bool := placeB t.key && (placeB t.value && (t.has || decide (t.value = 0)))
theorem k_odd : Known Tryz.prog tau 180 (S1 dTold fun t => okB (!toldB t)) := by
 refine known1 hmix tau_ok (ctx_cons k_Byte ctx_nil) (fn := Tryz.f180) (by kernel_rfl) [] (by kernel_rfl) _ _ fun t hfit => ⟨rfl, [], ?_⟩
 clear hfit
 refine V1 ?_; constructor <;> (first | (with_reducible exact TT.i) | (intros; (repeat (apply Wk.mk; intro Kv hN hX hR)); apply Wr.mk))
 all_goals first
  | (simp_all [toldB]; done)
theorem k_tIndex : Known Tryz.prog tau 210 (S2 dTolds (dFn 180) fun l _ => .ok (.int .i64 (idxI (fun m => !toldB m) l)) []) := by
 refine known2 hmix tau_ok (ctx_cons k_odd ctx_nil) (fn := Tryz.f210) (by kernel_rfl) [] (by kernel_rfl) _ _ _ fun xs _ hfit => ⟨rfl,
  [(2, invN [4, 5, 8, 9, 10, 11, 12, 13, 14, 15, 16, 17, 18] (fun i => i ≤ xs.length ∧ ∀ x ∈ xs.take i, (!toldB x) = false) (fun i => withS [(8, .int .i64 i)]) (fun i => xs.length - i))], ?_⟩
 have hlen : xs.length * 24 ≤ 140737488355328 := hfit.1
 clear hfit
 refine V2 ?_; constructor <;> (first | (with_reducible exact TT.i) | (intros; (repeat (apply Wk.mk; intro Kv hN hX hR)); apply Wr.mk))
 all_goals first
  | (refine ⟨0, ⟨by omega, by simp⟩, ?_⟩
     refine V1 ?_; constructor <;> (first | (with_reducible exact TT.i) | (intros; (repeat (apply Wk.mk; intro Kv hN hX hR)); apply Wr.mk))
     all_goals rfl)
  | (with_reducible intro i hi
     refine V1 ?_; constructor <;> (first | (with_reducible exact TT.i) | (intros; (repeat (apply Wk.mk; intro Kv hN hX hR)); apply Wr.mk))
     all_goals (try simp only [Int.toNat_natCast] at *)
     all_goals first
      | exact Ob.mk ⟨by omega, of_decide_eq_true aQ⟩
      | (have h := of_decide_eq_true (show decide ((i : Int) < (xs.length : Nat)) = true by with_reducible assumption)
         have hm : (!toldB (xs.getD i default)) = true := by assumption
         exact (idxI_at (d := default) (by omega) hi.2 hm).symm)
      | (have h := of_decide_eq_true (show decide ((i : Int) < (xs.length : Nat)) = true by with_reducible assumption)
         have hm : (!toldB (xs.getD i default)) = false := by assumption
         refine ⟨i + 1, ⟨by omega, all_take_succ (d := default) (by omega) hi.2 hm⟩, by show xs.length - (i + 1) < xs.length - i; omega, ?_⟩
         refine V1 ?_; constructor <;> (first | (with_reducible exact TT.i) | (intros; (repeat (apply Wk.mk; intro Kv hN hX hR)); apply Wr.mk))
         all_goals first
          | exact wrapI (by omega) (by omega)
          | rfl)
      | (have h := of_decide_eq_false (show decide ((i : Int) < (xs.length : Nat)) = false by with_reducible assumption)
         have h2 := hi.2
         rw [List.take_of_length_le (by omega)] at h2
         exact (idxI_none h2).symm))
theorem k_tContains : Known Tryz.prog tau 179 (S2 dTolds (dFn 180) fun l _ => okB (l.any fun m => !toldB m)) := by
 refine known2 hmix tau_ok (ctx_cons k_tIndex ctx_nil) (fn := Tryz.f179) (by kernel_rfl) [] (by kernel_rfl) _ _ _ fun xs _ hfit => ⟨rfl, [], ?_⟩
 refine V1 ?_; constructor <;> (first | (with_reducible exact TT.i) | (intros; (repeat (apply Wk.mk; intro Kv hN hX hR)); apply Wr.mk))
 exact idxI_ge _ _
def storeB (l : List GItem) : Bool := decide (l.length ≤ 16) && (decide (l.Pairwise fun a b => a.key < b.key) && l.all itemB)
def RisingK (l : List GItem) : Prop := ∀ s t, s < t → t < l.length → (l.getD s default).key < (l.getD t default).key
theorem etaIt {l : List GItem} {i : Nat} (h : i < l.length) : l.getD i default = l[i] := by simp [List.getD_eq_getElem?_getD, h]
theorem risingK_iff {l : List GItem} : RisingK l ↔ l.Pairwise fun a b => a.key < b.key := by
 rw [List.pairwise_iff_getElem]
 constructor
 · intro h i j hi hj hij
   have := h i j hij hj
   rwa [etaIt hi, etaIt hj] at this
 · intro h i j hij hj
   rw [etaIt (show i < l.length by omega), etaIt hj]
   exact h i j (by omega) hj hij
theorem risingK_adj {l : List GItem} (h : ∀ t, t + 1 < l.length → (l.getD t default).key < (l.getD (t + 1) default).key) : RisingK l := by
 intro s t
 induction t with
 | zero => intro h1; omega
 | succ t ih =>
   intro h1 h2
   have := h t h2
   rcases Nat.lt_or_eq_of_le (Nat.le_of_lt_succ h1) with h3 | rfl
   · have := ih h3 (by omega)
     omega
   · exact this
theorem storeB_iff {l : List GItem} : storeB l = true ↔ l.length ≤ 16 ∧ RisingK l ∧ ∀ x ∈ l, itemB x = true := by
 simp only [storeB, Bool.and_eq_true, decide_eq_true_eq, risingK_iff, List.all_eq_true]
theorem storeB_no {l : List GItem} (h : ¬ (l.length ≤ 16 ∧ RisingK l ∧ ∀ x ∈ l, itemB x = true)) : storeB l = false := by
 rw [← storeB_iff] at h
 simpa using h
theorem etaItem (i : GItem) : (⟨i.key, ⟨i.ver.count, i.ver.writer⟩, i.value, i.gone⟩ : GItem) = i := rfl
set_option maxHeartbeats 4000000 in
theorem k_storeMay : Known Tryz.prog tau 178 (S1 dItems fun l => okB (storeB l)) := by
 refine known1 hmix tau_ok (ctx_cons k_ItemMay ctx_nil) (fn := Tryz.f178) (by kernel_rfl) [(4, [(0, 0), (1, 1), (2, 2), (3, 6), (4, 8), (5, 24), (6, 40), (7, 64), (8, 64), (9, 320), (10, 704), (11, 1088), (12, 2112), (13, 64), (14, 8256), (15, 20544), (16, 32840), (17, 65544)])] (by kernel_rfl) _ _ fun xs hfit => ⟨rfl,
  [(2, invN [2, 3, 4, 7, 8, 9, 10, 11, 12, 13, 14, 15, 16, 17, 18, 19, 20, 21, 22, 23, 24, 25, 26, 27, 28, 29, 30] (fun i => i ≤ xs.length ∧ (∀ x ∈ xs.take i, itemB x = true) ∧ ∀ t, t + 1 < i → (xs.getD t default).key < (xs.getD (t + 1) default).key) (fun i => withS [(7, .int .i64 i)]) (fun i => xs.length - i))], ?_⟩
 have hlen : xs.length * 40 ≤ 140737488355328 := hfit.1
 clear hfit
 refine V2 ?_; constructor <;> (first | (with_reducible exact TT.i) | (intros; (repeat (apply Wk.mk; intro Kv hN hX hR)); apply Wr.mk))
 all_goals first
  | (refine ⟨0, ⟨by omega, by simp, by intros; omega⟩, ?_⟩
     refine V1 ?_; constructor <;> (first | (with_reducible exact TT.i) | (intros; (repeat (apply Wk.mk; intro Kv hN hX hR)); apply Wr.mk))
     all_goals rfl)
  | (with_reducible intro i hi
     refine V1 ?_; constructor <;> (first | (with_reducible exact TT.i) | (intros; (repeat (apply Wk.mk; intro Kv hN hX hR)); apply Wr.mk))
     all_goals (try simp only [Int.toNat_natCast, etaItem] at *)
     all_goals first
      | exact Ob.mk ⟨by omega, of_decide_eq_true aQ⟩
      | (have h := of_decide_eq_true (show decide ((i : Int) < (xs.length : Nat)) = true by with_reducible assumption)
         first
          | (have h0 := of_decide_eq_true (show decide (0 < (i : Int)) = true by with_reducible assumption)
             have hb := back1 (i := i) (by omega) (by omega)
             exact Ob.mk (by rw [hb.2]; omega))
          | (have hm := nf (show (!itemB (xs.getD i default)) = true by with_reducible assumption)
             refine (storeB_no ?_).symm
             rintro ⟨_, _, h3⟩
             have := h3 _ (getD_mem (l := xs) (i := i) (d := default) (by omega))
             rw [this] at hm
             simp at hm)
          | (have h0 := of_decide_eq_true (show decide (0 < (i : Int)) = true by with_reducible assumption)
             have hb := back1 (i := i) (by omega) (by omega)
             have hm := of_decide_eq_true (show decide ((xs.getD i default).key ≤ (xs.getD (IntKind.i64.wrap ((i : Int) - 1)).toNat default).key) = true by with_reducible assumption)
             rw [hb.1] at hm
             refine (storeB_no ?_).symm
             rintro ⟨_, h2, _⟩
             have := h2 (i - 1) i (by omega) (by omega)
             omega)
          | (have hp := nt (show (!itemB (xs.getD i default)) = false by with_reducible assumption)
             refine ⟨i + 1, ⟨by omega, all_take_succ (d := default) (by omega) hi.2.1 hp, fun t ht => ?_⟩, by show xs.length - (i + 1) < xs.length - i; omega, ?_⟩
             · rcases Nat.lt_or_eq_of_le (Nat.le_of_lt_succ ht) with h3 | h3
               · exact hi.2.2 t h3
               · first
                  | (have h0 := of_decide_eq_false (show decide (0 < (i : Int)) = false by with_reducible assumption)
                     omega)
                  | (have hb := back1 (i := i) (by omega) (by omega)
                     have hm := of_decide_eq_false (show decide ((xs.getD i default).key ≤ (xs.getD (IntKind.i64.wrap ((i : Int) - 1)).toNat default).key) = false by with_reducible assumption)
                     rw [hb.1] at hm
                     rw [show t = i - 1 by omega, show i - 1 + 1 = i by omega]
                     omega)
             · refine V1 ?_; constructor <;> (first | (with_reducible exact TT.i) | (intros; (repeat (apply Wk.mk; intro Kv hN hX hR)); apply Wr.mk))
               all_goals first
                | exact wrapI (by omega) (by omega)
                | rfl))
      | (have h := of_decide_eq_false (show decide ((i : Int) < (xs.length : Nat)) = false by with_reducible assumption)
         obtain rfl : i = xs.length := by omega
         have h2 := hi.2.1
         rw [List.take_of_length_le (Nat.le_refl _)] at h2
         have h3 := risingK_adj hi.2.2
         by_cases h4 : xs.length ≤ 16
         · rw [storeB_iff.2 ⟨h4, h3, h2⟩]
           exact decide_eq_true (by omega)
         · rw [storeB_no (fun h => h4 h.1)]
           exact decide_eq_false (by omega)))
end Go.Proofs.YtjjpakdlkjaigaaGreat

/- Contracts: nodes: may they be; a new one. -/
namespace Go.Proofs.YtjjpakdlkjaigaaGreat
open Go.RowKit
set_option maxRecDepth 20000
def nodeB (x : GNode) : Bool := viewB x.view && (storeB x.items && (decide (x.log.length ≤ 64) && (x.log.all toldB && (x.up || decide (x.view.peers.length + x.view.passive.length + x.items.length + x.log.length = 0)))))
theorem etaNode (x : GNode) : (⟨x.up, ⟨x.view.id, x.view.peers, x.view.passive⟩, x.items, x.log⟩ : GNode) = x := rfl
set_option maxHeartbeats 1000000 in
theorem k_nodeMay : Known Tryz.prog tau 130 (S1 dNode fun x => okB (nodeB x)) := by
 refine known1 hmix tau_ok (ctx_cons k_viewMay (ctx_cons k_storeMay (ctx_cons k_tContains ctx_nil))) (fn := Tryz.f130) (by kernel_rfl) [] (by kernel_rfl) _ _ fun x hfit => ⟨rfl, [], ?_⟩
 have hp1 : x.view.peers.length * 16 ≤ 140737488355328 := hfit.1.2.2.1
 have hp2 : x.view.passive.length * 8 ≤ 140737488355328 := hfit.1.2.2.2.1
 have hp3 : x.items.length * 40 ≤ 140737488355328 := hfit.1.2.2.2.2.1
 have hp4 : x.log.length * 24 ≤ 140737488355328 := hfit.1.2.2.2.2.2.1
 clear hfit
 have e1 : IntKind.i64.wrap (IntKind.i64.wrap (IntKind.i64.wrap ((x.view.peers.length : Int) + (x.view.passive.length : Int)) + (x.items.length : Int)) + (x.log.length : Int)) = ((x.view.peers.length + x.view.passive.length + x.items.length + x.log.length : Nat) : Int) := by
  rw [wrapI (n := (x.view.peers.length : Int) + (x.view.passive.length : Int)) (by omega) (by omega), wrapI (n := (x.view.peers.length : Int) + (x.view.passive.length : Int) + (x.items.length : Int)) (by omega) (by omega), wrapI (by omega) (by omega)]
  omega
 refine V1 ?_; constructor <;> (first | (with_reducible exact TT.i) | (intros; (repeat (apply Wk.mk; intro Kv hN hX hR)); apply Wr.mk))
 all_goals (try simp only [etaView, e1] at *)
 all_goals first
  | (have h1 := nf (show (!x.up) = true by with_reducible assumption)
     have h2 := of_decide_eq_true (show decide ((0 : Int) < ((x.view.peers.length + x.view.passive.length + x.items.length + x.log.length : Nat) : Int)) = true by with_reducible assumption)
     unfold nodeB
     rw [h1, decide_eq_false (show ¬ x.view.peers.length + x.view.passive.length + x.items.length + x.log.length = 0 by omega)]
     simp
     done)
  | (have h1 : viewB x.view = false := by with_reducible assumption
     unfold nodeB
     rw [h1, Bool.false_and])
  | (have h1 : storeB x.items = false := by with_reducible assumption
     unfold nodeB
     rw [h1, Bool.false_and, Bool.and_false])
  | (have h1 := of_decide_eq_false (show decide ((x.log.length : Int) ≤ 64) = false by with_reducible assumption)
     unfold nodeB
     rw [decide_eq_false (show ¬ x.log.length ≤ 64 by omega), Bool.false_and, Bool.and_false, Bool.and_false])
  | (have h1 : viewB x.view = true := by with_reducible assumption
     have h2 : storeB x.items = true := by with_reducible assumption
     have h3 := of_decide_eq_true (show decide ((x.log.length : Int) ≤ 64) = true by with_reducible assumption)
     unfold nodeB
     rw [any_not, Bool.not_not, h1, h2, decide_eq_true (show x.log.length ≤ 64 by omega)]
     have h4 : (x.up || decide (x.view.peers.length + x.view.passive.length + x.items.length + x.log.length = 0)) = true := by
      first
       | (rw [nt (show (!x.up) = false by with_reducible assumption)]; rfl)
       | (have h5 := of_decide_eq_false (show decide ((0 : Int) < ((x.view.peers.length + x.view.passive.length + x.items.length + x.log.length : Nat) : Int)) = false by with_reducible assumption)
          rw [decide_eq_true (show x.view.peers.length + x.view.passive.length + x.items.length + x.log.length = 0 by omega), Bool.or_true])
     rw [h4]
     simp
     done)
noncomputable def newP (id : Int) : List Int → List Int → Option (List Int)
 | acc, [] => some acc
 | acc, y :: ys => if y = id then newP id acc ys else if (withP acc y).2 = 0 then newP id (withP acc y).1 ys else none
def nodeZ : GNode := ⟨false, ⟨0, [], []⟩, [], []⟩
noncomputable def newN (id : Int) (ids : List Int) : GNode × Int := Classical.choose (seal_ex (if placeB id = true then (match newP id [] ids with
 | some l => ((⟨true, ⟨id, [], l⟩, [], []⟩ : GNode), (0 : Int))
 | none => (nodeZ, 1600)) else (nodeZ, 1600)))
theorem newN_def (id : Int) (ids : List Int) : newN id ids = (if placeB id = true then (match newP id [] ids with
 | some l => ((⟨true, ⟨id, [], l⟩, [], []⟩ : GNode), (0 : Int))
 | none => (nodeZ, 1600)) else (nodeZ, 1600)) := Classical.choose_spec (seal_ex _)
theorem newN_no {id : Int} {ids : List Int} (h : placeB id = false ∨ newP id [] ids = none) : newN id ids = (nodeZ, 1600) := by
 rw [newN_def]
 rcases h with h | h
 · rw [h]; rfl
 · rw [h]; split <;> rfl
theorem newN_yes {id : Int} {ids l : List Int} (h1 : placeB id = true) (h : newP id [] ids = some l) : newN id ids = (⟨true, ⟨id, [], l⟩, [], []⟩, 0) := by
 rw [newN_def, h1, h]; rfl
theorem newP_bad {id : Int} (h1 : placeB id = true) : ∀ {ids acc : List Int}, ids.all placeB = false → newP id acc ids = none
 | [], _, h => by simp at h
 | y :: ys, acc, h => by
   rw [List.all_cons] at h
   unfold newP
   split
   · rename_i e
     subst e
     rw [h1, Bool.true_and] at h
     exact newP_bad h1 h
   · split
     · rename_i h2
       cases hy : placeB y with
       | true => rw [hy, Bool.true_and] at h; exact newP_bad h1 h
       | false => rw [withP_no (.inr hy)] at h2; simp at h2
     · rfl
theorem drop_one_more {α : Type} {d : α} {l : List α} {i : Nat} (h : i < l.length) : l.drop i = l.getD i d :: l.drop (i + 1) := by
 rw [List.drop_eq_getElem_cons h]
 simp [List.getD_eq_getElem?_getD, h]
theorem newP_same {id : Int} {acc xs : List Int} {i : Nat} (h : i < xs.length) (h2 : xs.getD i 0 = id) : newP id acc (xs.drop i) = newP id acc (xs.drop (i + 1)) := by
 rw [drop_one_more (d := 0) h, newP, if_pos h2]
theorem newP_bad2 {id : Int} {acc xs : List Int} {i : Nat} (h : i < xs.length) (h2 : ¬ xs.getD i 0 = id) (h3 : ¬ (withP acc (xs.getD i 0)).2 = 0) : newP id acc (xs.drop i) = none := by
 rw [drop_one_more (d := 0) h, newP, if_neg h2, if_neg h3]
theorem newP_next {id : Int} {acc xs : List Int} {i : Nat} (h : i < xs.length) (h2 : ¬ xs.getD i 0 = id) (h3 : (withP acc (xs.getD i 0)).2 = 0) : newP id acc (xs.drop i) = newP id (withP acc (xs.getD i 0)).1 (xs.drop (i + 1)) := by
 rw [drop_one_more (d := 0) h, newP, if_neg h2, if_pos h3]
theorem newP_end {id : Int} {acc xs : List Int} {i : Nat} (h : ¬ i < xs.length) : newP id acc (xs.drop i) = some acc := by
 rw [List.drop_eq_nil_of_le (by omega)]
 rfl
theorem withP_ne {l : List Int} {x : Int} (h : (withP l x).2 = 0) : (withP l x).1 ≠ [] := by
 rw [withP_def] at h ⊢
 split at h
 · rename_i h1
   rw [if_pos h1]
   split at h
   · rename_i h2
     rw [if_pos h2]
     intro e
     simp only at e
     rw [e] at h2
     simp [hasI] at h2
   · rename_i h2
     rw [if_neg h2]
     split at h
     · simp at h
     · rename_i h3
       rw [if_neg h3]
       simp [insP]
 · simp at h
theorem newP_go {id : Int} {acc xs : List Int} {i : Nat} (h : i < xs.length) (h2 : ¬ xs.getD i 0 = id) (h3 : (withP acc (xs.getD i 0)).2 = 0) (hl : newP id [] xs = newP id acc (xs.drop i)) :
  ∃ y W, (withP acc (xs.getD i 0)).1 = y :: W ∧ newP id [] xs = newP id (y :: W) (xs.drop (i + 1)) := by
 have h4 := hl.trans (newP_next h h2 h3)
 have h5 := withP_ne h3
 generalize (withP acc (xs.getD i 0)).1 = V at *
 rcases V with _ | ⟨y, W⟩
 · exact absurd rfl h5
 · exact ⟨y, W, rfl, h4⟩
def nNew (n : GNode) : List SV := [.bool n.up, .int .i64 n.view.id, .row .new (.peers n.view.peers), .own 0, .row .new (.items n.items), .row .new (.tolds n.log)]
set_option maxHeartbeats 2000000 in
theorem k_New : Known Tryz.prog tau 101 (S2 dInt dInts fun id ids => .ok (.tup [.agg (nNew (newN id ids).1), .int .i64 (newN id ids).2]) [.ints (newN id ids).1.view.passive]) := by
 refine known2 hmix tau_ok (ctx_cons k_Place (ctx_cons k_Places (ctx_cons k_passWith ctx_nil))) (fn := Tryz.f101) (by kernel_rfl) [] (by kernel_rfl) _ _ _ fun id xs hfit => ⟨rfl,
  [(5, invX (Nat × Bool × List Int) [5, 8, 9, 10, 25, 26, 27, 28, 29, 30, 31, 32, 33, 34, 35, 36, 37, 38, 39, 40, 41, 42, 43, 44, 45, 46] [6, 37, 50037] (fun g => g.1 ≤ xs.length ∧ newP id [] xs = newP id g.2.2 (xs.drop g.1)) (fun g st => match g.2.2, g.2.1 with
    | [], _ => withS [(25, .int .i64 g.1)] (withB [(6, (52, [.bool true, .int .i64 id, .nilS (.peers []), .nilS (.ints []), .nilS (.items []), .nilS (.tolds [])]))] st)
    | y :: ys, false => withS [(25, .int .i64 g.1)] (withR [(37, .own (.ints (y :: ys)))] (withB [(6, (52, [.bool true, .int .i64 id, .nilS (.peers []), .own 37, .nilS (.items []), .nilS (.tolds [])]))] st))
    | y :: ys, true => withS [(25, .int .i64 g.1)] (withR [(50037, .own (.ints (y :: ys)))] (withB [(6, (52, [.bool true, .int .i64 id, .nilS (.peers []), .own 50037, .nilS (.items []), .nilS (.tolds [])]))] st))) (fun g => xs.length - g.1))], ?_⟩
 have hlen : xs.length * 8 ≤ 140737488355328 := hfit.2.1
 clear hfit
 refine V2 ?_; constructor <;> (first | (with_reducible exact TT.i) | (intros; (repeat (apply Wk.mk; intro Kv hN hX hR)); apply Wr.mk))
 all_goals first
  | (rw [newN_no (.inl (nf (show (!placeB id) = true by with_reducible assumption)))] <;> rfl)
  | (rw [newN_no (.inr (newP_bad (nt (show (!placeB id) = false by with_reducible assumption)) (nf (show (!xs.all placeB) = true by with_reducible assumption))))] <;> rfl)
  | (refine ⟨(0, false, []), ⟨Nat.zero_le _, rfl⟩, ?_⟩
     refine V1 ?_; constructor <;> (first | (with_reducible exact TT.i) | (intros; (repeat (apply Wk.mk; intro Kv hN hX hR)); apply Wr.mk))
     all_goals rfl)
  | (rintro ⟨i, kb, l⟩ ⟨hi, hl⟩
     dsimp only at hi hl
     have hid := nt (show (!placeB id) = false by with_reducible assumption)
     rcases l with _ | ⟨y, l⟩
     rotate_left
     rcases kb with _ | _
     all_goals
      refine V1 ?_; constructor <;> (first | (with_reducible exact TT.i) | (intros; (repeat (apply Wk.mk; intro Kv hN hX hR)); apply Wr.mk))
     all_goals (try dsimp only at *)
     all_goals (try simp only [Int.toNat_natCast] at *)
     all_goals first
      | (have h := of_decide_eq_true (show decide ((i : Int) < (xs.length : Nat)) = true by with_reducible assumption)
         first
          | exact Ob.mk ⟨by omega, h⟩
          | (have h2 := of_decide_eq_true (show decide (xs.getD i 0 = id) = true by with_reducible assumption)
             refine ⟨(i + 1, false, _), ⟨by show i + 1 ≤ xs.length; omega, hl.trans (newP_same (by omega) h2)⟩, by show xs.length - (i + 1) < xs.length - i; omega, ?_⟩
             refine V1 ?_; constructor <;> (first | (with_reducible exact TT.i) | (intros; (repeat (apply Wk.mk; intro Kv hN hX hR)); apply Wr.mk))
             all_goals first
              | exact wrapI (by omega) (by omega)
              | rfl)
          | (have h2 := of_decide_eq_true (show decide (xs.getD i 0 = id) = true by with_reducible assumption)
             refine ⟨(i + 1, true, _), ⟨by show i + 1 ≤ xs.length; omega, hl.trans (newP_same (by omega) h2)⟩, by show xs.length - (i + 1) < xs.length - i; omega, ?_⟩
             refine V1 ?_; constructor <;> (first | (with_reducible exact TT.i) | (intros; (repeat (apply Wk.mk; intro Kv hN hX hR)); apply Wr.mk))
             all_goals first
              | exact wrapI (by omega) (by omega)
              | rfl)
          | (have h2 := of_decide_eq_false (show decide (xs.getD i 0 = id) = false by with_reducible assumption)
             have h3 := of_decide_eq_false (nf (b := decide ((withP _ (xs.getD i 0)).2 = 0)) aQ)
             rw [newN_no (.inr (hl.trans (newP_bad2 (by omega) h2 h3)))] <;> rfl)
          | (have h2 := of_decide_eq_false (show decide (xs.getD i 0 = id) = false by with_reducible assumption)
             have h3 := of_decide_eq_true (nt (b := decide ((withP _ (xs.getD i 0)).2 = 0)) aQ)
             obtain ⟨y', W, hW, h4⟩ := newP_go (by omega) h2 h3 hl
             refine ⟨(i + 1, false, y' :: W), ⟨by show i + 1 ≤ xs.length; omega, h4⟩, by show xs.length - (i + 1) < xs.length - i; omega, ?_⟩
             · (try dsimp only)
               refine V1 ?_; constructor <;> (first | (with_reducible exact TT.i) | (intros; (repeat (apply Wk.mk; intro Kv hN hX hR)); apply Wr.mk))
               all_goals first
                | exact wrapI (by omega) (by omega)
                | exact congrArg Rw.ints hW
                | exact congrArg Rw.ints hW.symm
                | rfl)
          | (have h2 := of_decide_eq_false (show decide (xs.getD i 0 = id) = false by with_reducible assumption)
             have h3 := of_decide_eq_true (nt (b := decide ((withP _ (xs.getD i 0)).2 = 0)) aQ)
             obtain ⟨y', W, hW, h4⟩ := newP_go (by omega) h2 h3 hl
             refine ⟨(i + 1, true, y' :: W), ⟨by show i + 1 ≤ xs.length; omega, h4⟩, by show xs.length - (i + 1) < xs.length - i; omega, ?_⟩
             · (try dsimp only)
               refine V1 ?_; constructor <;> (first | (with_reducible exact TT.i) | (intros; (repeat (apply Wk.mk; intro Kv hN hX hR)); apply Wr.mk))
               all_goals first
                | exact wrapI (by omega) (by omega)
                | exact congrArg Rw.ints hW
                | exact congrArg Rw.ints hW.symm
                | rfl))
      | (have h := of_decide_eq_false (show decide ((i : Int) < (xs.length : Nat)) = false by with_reducible assumption)
         rw [newN_yes hid (hl.trans (newP_end (by omega)))] <;> rfl))
end Go.Proofs.YtjjpakdlkjaigaaGreat

/- Contracts: views, stores, nodes: the document's. -/
namespace Go.Proofs.YtjjpakdlkjaigaaGreat
open Go.RowKit
set_option maxRecDepth 20000
set_option maxHeartbeats 4000000 in
theorem k_refStore : Known Tryz.prog tau 116 (S1 dItems fun l => okB (storeB l)) := by
 refine known1 hmix tau_ok (ctx_cons k_refItem ctx_nil) (fn := Tryz.f116) (by kernel_rfl) [(4, [(0, 0), (1, 0), (2, 3), (3, 4), (4, 8), (5, 16), (6, 48), (7, 64), (8, 192), (9, 320), (10, 512), (11, 512), (12, 2560), (13, 5632), (14, 8704), (15, 16896), (16, 512), (17, 512), (18, 197120), (19, 262656), (20, 524800), (21, 1081856), (22, 2097728), (23, 4194368)])] (by kernel_rfl) _ _ fun xs hfit => ⟨rfl,
  [(2, invN (2 :: 3 :: 4 :: 5 :: 6 :: 7 :: 8 :: 9 :: 10 :: 11 :: 12 :: 13 :: 14 :: 15 :: 16 :: 17 :: 18 :: 19 :: 20 :: 21 :: 22 :: 23 :: 24 :: 25 :: 26 :: 27 :: 28 :: 29 :: 30 :: 31 :: 32 :: 33 :: []) (fun i => i ≤ xs.length ∧ (∀ x ∈ xs.take i, itemB x = true) ∧ ∀ t, t + 1 < i → (xs.getD t default).key < (xs.getD (t + 1) default).key) (fun i => withS [(3, .int .i64 i)]) (fun i => xs.length - i))], ?_⟩
 have hlen : xs.length * 40 ≤ 140737488355328 := hfit.1
 clear hfit
 refine V2 ?_; constructor <;> (first | (with_reducible exact TT.i) | (intros; (repeat (apply Wk.mk; intro Kv hN hX hR)); apply Wr.mk))
 all_goals first
  | (refine ⟨0, ⟨by omega, by simp, by intros; omega⟩, ?_⟩
     refine V1 ?_; constructor <;> (first | (with_reducible exact TT.i) | (intros; (repeat (apply Wk.mk; intro Kv hN hX hR)); apply Wr.mk))
     all_goals rfl)
  | (with_reducible intro i hi
     refine V1 ?_; constructor <;> (first | (with_reducible exact TT.i) | (intros; (repeat (apply Wk.mk; intro Kv hN hX hR)); apply Wr.mk))
     all_goals (try simp only [Int.toNat_natCast, etaItem] at *)
     all_goals first
      | exact Ob.mk ⟨by omega, of_decide_eq_true aQ⟩
      | (have h := of_decide_eq_true (show decide ((i : Int) < (xs.length : Nat)) = true by with_reducible assumption)
         first
          | (have h0 := of_decide_eq_true (show decide (0 < (i : Int)) = true by with_reducible assumption)
             have hb := back1 (i := i) (by omega) (by omega)
             exact Ob.mk (by rw [hb.2]; omega))
          | (have hm := nf (show (!itemB (xs.getD i default)) = true by with_reducible assumption)
             refine (storeB_no ?_).symm
             rintro ⟨_, _, h3⟩
             have := h3 _ (getD_mem (l := xs) (i := i) (d := default) (by omega))
             rw [this] at hm
             simp at hm)
          | (have h0 := of_decide_eq_true (show decide (0 < (i : Int)) = true by with_reducible assumption)
             have hb := back1 (i := i) (by omega) (by omega)
             have hm := of_decide_eq_true (show decide ((xs.getD i default).key ≤ (xs.getD (IntKind.i64.wrap ((i : Int) - 1)).toNat default).key) = true by with_reducible assumption)
             rw [hb.1] at hm
             refine (storeB_no ?_).symm
             rintro ⟨_, h2, _⟩
             have := h2 (i - 1) i (by omega) (by omega)
             omega)
          | (have hp := nt (show (!itemB (xs.getD i default)) = false by with_reducible assumption)
             refine ⟨i + 1, ⟨by omega, all_take_succ (d := default) (by omega) hi.2.1 hp, fun t ht => ?_⟩, by show xs.length - (i + 1) < xs.length - i; omega, ?_⟩
             · rcases Nat.lt_or_eq_of_le (Nat.le_of_lt_succ ht) with h3 | h3
               · exact hi.2.2 t h3
               · first
                  | (have h0 := of_decide_eq_false (show decide (0 < (i : Int)) = false by with_reducible assumption)
                     omega)
                  | (have hb := back1 (i := i) (by omega) (by omega)
                     have hm := of_decide_eq_false (show decide ((xs.getD i default).key ≤ (xs.getD (IntKind.i64.wrap ((i : Int) - 1)).toNat default).key) = false by with_reducible assumption)
                     rw [hb.1] at hm
                     rw [show t = i - 1 by omega, show i - 1 + 1 = i by omega]
                     omega)
             · refine V1 ?_; constructor <;> (first | (with_reducible exact TT.i) | (intros; (repeat (apply Wk.mk; intro Kv hN hX hR)); apply Wr.mk))
               all_goals first
                | exact wrapI (by omega) (by omega)
                | rfl))
      | (have h := of_decide_eq_false (show decide ((i : Int) < (xs.length : Nat)) = false by with_reducible assumption)
         obtain rfl : i = xs.length := by omega
         have h2 := hi.2.1
         rw [List.take_of_length_le (Nat.le_refl _)] at h2
         have h3 := risingK_adj hi.2.2
         by_cases h4 : xs.length ≤ 16
         · rw [storeB_iff.2 ⟨h4, h3, h2⟩]
           exact decide_eq_true (by omega)
         · rw [storeB_no (fun h => h4 h.1)]
           exact decide_eq_false (by omega)))
def namesP (l : List GPeer) : List Int := l.map fun p => p.id
theorem namesP_succ {l : List GPeer} {i : Nat} (h : i < l.length) : namesP (l.take (i + 1)) = namesP (l.take i) ++ [(l.getD i default).id] := by
 unfold namesP
 rw [List.take_succ_eq_append_getElem h, List.map_append, etaP h]
 rfl
theorem namesP_len (l : List GPeer) : (namesP l).length = l.length := by simp [namesP]
theorem k_refNames : Known Tryz.prog tau 59 (S1 dPeers fun l => .ok (.own 0) [.ints (namesP l)]) := by
 refine known1 hmix tau_ok ctx_nil (fn := Tryz.f59) (by kernel_rfl) [] (by kernel_rfl) _ _ fun xs hfit => ⟨rfl,
  [(3, invX Nat [3, 4, 5, 6, 7, 8, 9, 10, 11, 12, 13, 14, 15, 16, 17, 18] [18] (fun i => i ≤ xs.length) (fun i => match i with
    | 0 => withS [(4, .int .i64 0), (3, .nilS (.ints []))]
    | i + 1 => fun st => withS [(4, .int .i64 ((i + 1 : Nat) : Int)), (3, .own 18)] (withR [(18, .own (.ints (namesP (xs.take (i + 1)))))] st)) (fun i => xs.length - i))], ?_⟩
 have hlen : xs.length * 16 ≤ 140737488355328 := hfit.1
 clear hfit
 refine V2 ?_; constructor <;> (first | (with_reducible exact TT.i) | (intros; (repeat (apply Wk.mk; intro Kv hN hX hR)); apply Wr.mk))
 all_goals first
  | (refine ⟨0, Nat.zero_le _, ?_⟩
     refine V1 ?_; constructor <;> (first | (with_reducible exact TT.i) | (intros; (repeat (apply Wk.mk; intro Kv hN hX hR)); apply Wr.mk))
     all_goals rfl)
  | (with_reducible intro i hi
     rcases i with _ | i
     all_goals
      refine V1 ?_; constructor <;> (first | (with_reducible exact TT.i) | (intros; (repeat (apply Wk.mk; intro Kv hN hX hR)); apply Wr.mk))
     all_goals (try simp only [Int.toNat_natCast, Int.toNat_zero, List.nil_append] at *)
     all_goals first
      | exact Ob.mk ⟨by omega, of_decide_eq_true aQ⟩
      | (refine Ob.mk ?_
         simp only [Rw.len, Rw.bts, Rw.kd, kdBytes, List.length_cons, List.length_nil, List.length_append, namesP_len, List.length_take]
         omega)
      | (have h := of_decide_eq_true (show decide ((0 : Int) < (xs.length : Nat)) = true by with_reducible assumption)
         refine ⟨1, by omega, by show xs.length - 1 < xs.length - 0; omega, ?_⟩
         have e1 := namesP_succ (l := xs) (i := 0) (by omega)
         refine V1 ?_; constructor <;> (first | (with_reducible exact TT.i) | (intros; (repeat (apply Wk.mk; intro Kv hN hX hR)); apply Wr.mk))
         all_goals first
          | exact wrapI (by omega) (by omega)
          | exact congrArg Rw.ints e1.symm
          | rfl)
      | (have h := of_decide_eq_true (show decide (((i + 1 : Nat) : Int) < (xs.length : Nat)) = true by with_reducible assumption)
         refine ⟨i + 1 + 1, by omega, by show xs.length - (i + 1 + 1) < xs.length - (i + 1); omega, ?_⟩
         have e1 := namesP_succ (l := xs) (i := i + 1) (by omega)
         refine V1 ?_; constructor <;> (first | (with_reducible exact TT.i) | (intros; (repeat (apply Wk.mk; intro Kv hN hX hR)); apply Wr.mk))
         all_goals first
          | exact wrapI (by omega) (by omega)
          | exact congrArg Rw.ints e1.symm
          | rfl)
      | (have h := of_decide_eq_false (show decide ((0 : Int) < (xs.length : Nat)) = false by with_reducible assumption)
         obtain rfl : xs = [] := List.eq_nil_of_length_eq_zero (by omega)
         rfl)
      | (have h := of_decide_eq_false (show decide (((i + 1 : Nat) : Int) < (xs.length : Nat)) = false by with_reducible assumption)
         rw [List.take_of_length_le (by omega)]))
end Go.Proofs.YtjjpakdlkjaigaaGreat

/- Contracts: views, nodes: the document's. -/
namespace Go.Proofs.YtjjpakdlkjaigaaGreat
open Go.RowKit
set_option maxRecDepth 20000
theorem has_names {b x : Int} {l : List GPeer} (hb : placeB b = true) (hp : ∀ p ∈ l, peerB b p = true) (hx : placeB x = true) : hasP b l x = hasI (namesP l) x := by
 unfold hasP hasI namesP
 rw [List.any_map]
 induction l with
 | nil => rfl
 | cons p l ih =>
   rw [List.any_cons, List.any_cons, ih fun q hq => hp q (List.mem_cons_of_mem _ hq)]
   congr 1
   have h1 := hp p (List.mem_cons_self ..)
   simp only [peerB, Bool.and_eq_true] at h1
   have := far_inj hb h1.1 hx
   simp only [Function.comp]
   exact decide_eq_decide.2 this
def refOdd (v : GView) (x : Int) : Bool := decide (x = v.id) || hasI (namesP v.peers) x
theorem odd_same {v : GView} {x : Int} (h1 : peersB v.id v.peers = true) (hx : placeB x = true) : oddV v x = refOdd v x := by
 have h := peersB_iff.1 h1
 unfold oddV refOdd
 rw [has_names h.1 h.2.2.2 hx]
theorem view_ref {v : GView} (h : ∀ x ∈ v.passive, refOdd v x = false) : viewB v = (peersB v.id v.peers && (passB v.passive && decide (v.peers.length + v.passive.length ≤ 16))) := by
 unfold viewB
 cases h1 : peersB v.id v.peers with
 | false => rfl
 | true =>
   cases h2 : passB v.passive with
   | false => rfl
   | true =>
     have : v.passive.any (oddV v) = false := by
      rw [List.any_eq_false]
      intro x hx
      rw [odd_same h1 ((passB_iff.1 h2).2.2 x hx), h x hx]
      simp
     rw [this]
     simp
theorem view_ref_no {v : GView} {x : Int} (hx : x ∈ v.passive) (h : refOdd v x = true) : viewB v = false := by
 refine viewB_no ?_
 rintro ⟨h1, h2, _, h4⟩
 have := List.any_eq_false.1 h4 x hx
 rw [odd_same h1 ((passB_iff.1 h2).2.2 x hx), h] at this
 simp at this
set_option maxHeartbeats 4000000 in
theorem k_refView : Known Tryz.prog tau 115 (S1 dView fun v => okB (viewB v)) := by
 refine known1 hmix tau_ok (ctx_cons k_refNames (ctx_cons k_has (ctx_cons k_refPeers (ctx_cons k_refPassMay ctx_nil)))) (fn := Tryz.f115) (by kernel_rfl) [(5, [(0, 0), (1, 1), (2, 0), (3, 6), (4, 8), (5, 0), (6, 32), (7, 80), (8, 128), (9, 256), (10, 256), (11, 1280), (12, 256), (13, 6400), (14, 8448), (15, 17152), (16, 33024)])] (by kernel_rfl) _ _ fun v hfit => ⟨rfl,
  [(3, invN [2, 4, 8, 9, 10, 11, 12, 13, 14, 15, 16, 17, 18, 19, 20, 21, 22, 23, 24, 25, 26, 27, 28, 29, 30, 31] (fun i => i ≤ v.passive.length ∧ ∀ x ∈ v.passive.take i, refOdd v x = false) (fun i => withS [(4, .int .i64 i)]) (fun i => v.passive.length - i))], ?_⟩
 have hp1 : v.peers.length * 16 ≤ 140737488355328 := hfit.1.2.1
 have hp2 : v.passive.length * 8 ≤ 140737488355328 := hfit.1.2.2.1
 clear hfit
 refine V2 ?_; constructor <;> (first | (with_reducible exact TT.i) | (intros; (repeat (apply Wk.mk; intro Kv hN hX hR)); apply Wr.mk))
 all_goals first
  | (refine ⟨0, ⟨by omega, by simp⟩, ?_⟩
     refine V1 ?_; constructor <;> (first | (with_reducible exact TT.i) | (intros; (repeat (apply Wk.mk; intro Kv hN hX hR)); apply Wr.mk))
     all_goals rfl)
  | (with_reducible intro i hi
     refine V1 ?_; constructor <;> (first | (with_reducible exact TT.i) | (intros; (repeat (apply Wk.mk; intro Kv hN hX hR)); apply Wr.mk))
     all_goals (try simp only [Int.toNat_natCast] at *)
     all_goals first
      | exact Ob.mk ⟨by omega, of_decide_eq_true aQ⟩
      | (have h := of_decide_eq_true (show decide ((i : Int) < (v.passive.length : Nat)) = true by with_reducible assumption)
         have hm : decide (v.passive.getD i 0 = v.id) = true := by with_reducible assumption
         exact (view_ref_no (x := v.passive.getD i 0) (getD_mem (by omega)) (by unfold refOdd; rw [hm, Bool.true_or])).symm)
      | (have h := of_decide_eq_true (show decide ((i : Int) < (v.passive.length : Nat)) = true by with_reducible assumption)
         have hm : hasI (namesP v.peers) (v.passive.getD i 0) = true := by with_reducible assumption
         exact (view_ref_no (x := v.passive.getD i 0) (getD_mem (by omega)) (by unfold refOdd; rw [hm, Bool.or_true])).symm)
      | (have h := of_decide_eq_true (show decide ((i : Int) < (v.passive.length : Nat)) = true by with_reducible assumption)
         have hm : decide (v.passive.getD i 0 = v.id) = false := by with_reducible assumption
         have hm2 : hasI (namesP v.peers) (v.passive.getD i 0) = false := by with_reducible assumption
         refine ⟨i + 1, ⟨by omega, all_take_succ (d := 0) (by omega) hi.2 (by unfold refOdd; rw [hm, hm2]; rfl)⟩, by show v.passive.length - (i + 1) < v.passive.length - i; omega, ?_⟩
         refine V1 ?_; constructor <;> (first | (with_reducible exact TT.i) | (intros; (repeat (apply Wk.mk; intro Kv hN hX hR)); apply Wr.mk))
         all_goals first
          | exact wrapI (by omega) (by omega)
          | rfl)
      | (have h := of_decide_eq_false (show decide ((i : Int) < (v.passive.length : Nat)) = false by with_reducible assumption)
         have h2 := hi.2
         rw [List.take_of_length_le (by omega)] at h2
         have e1 : IntKind.i64.wrap ((v.peers.length : Int) + (v.passive.length : Int)) = v.peers.length + v.passive.length := wrapI (by omega) (by omega)
         (try rw [e1])
         rw [view_ref h2]
         first
          | (rw [show peersB v.id v.peers = false by with_reducible assumption]; rfl)
          | (rw [show peersB v.id v.peers = true by with_reducible assumption, show passB v.passive = false by with_reducible assumption]; rfl)
          | (rw [show peersB v.id v.peers = true by with_reducible assumption, show passB v.passive = true by with_reducible assumption, Bool.true_and, Bool.true_and]
             exact decide_eq_decide.2 (by omega))))
theorem nodeB_down {x : GNode} (h : x.up = false) : nodeB x = (decide (x.view.peers.length + x.view.passive.length + x.items.length + x.log.length = 0) && placeB x.view.id) := by
 obtain ⟨up, ⟨id, ps, qs⟩, is, lg⟩ := x
 obtain rfl : up = false := h
 unfold nodeB
 by_cases h0 : ps.length + qs.length + is.length + lg.length = 0
 · obtain rfl : ps = [] := List.eq_nil_of_length_eq_zero (by omega)
   obtain rfl : qs = [] := List.eq_nil_of_length_eq_zero (by omega)
   obtain rfl : is = [] := List.eq_nil_of_length_eq_zero (by omega)
   obtain rfl : lg = [] := List.eq_nil_of_length_eq_zero (by omega)
   simp [viewB, peersB, passB, storeB]
 · simp only [decide_eq_false h0, Bool.false_or, Bool.and_false, Bool.false_and]
theorem nodeB_up {x : GNode} (h : x.up = true) : nodeB x = (viewB x.view && (storeB x.items && (decide (x.log.length ≤ 64) && x.log.all toldB))) := by
 unfold nodeB
 rw [h, Bool.true_or, Bool.and_true]
theorem k_refByte16 : Known Tryz.prog tau 105 (S1 dInt fun x => okB (placeB x)) := by
 refine known1 hmix tau_ok ctx_nil (fn := Tryz.f105) (by kernel_rfl) [] (by kernel_rfl) _ _ fun x hfit => ⟨rfl, [], ?_⟩
 refine V1 ?_; constructor <;> (first | (with_reducible exact TT.i) | (intros; (repeat (apply Wk.mk; intro Kv hN hX hR)); apply Wr.mk))
 all_goals simp_all [placeB]
 all_goals omega
set_option maxHeartbeats 4000000 in
theorem k_refNode : Known Tryz.prog tau 57 (S1 dNode fun x => okB (nodeB x)) := by
 refine known1 hmix tau_ok (ctx_cons k_refPlace (ctx_cons k_refView (ctx_cons k_refByte16 (ctx_cons k_refStore ctx_nil)))) (fn := Tryz.f57) (by kernel_rfl) [] (by kernel_rfl) _ _ fun x hfit => ⟨rfl,
  [(4, invN (2 :: 3 :: 4 :: 32 :: 33 :: 34 :: 35 :: 36 :: 37 :: 38 :: 39 :: 40 :: 41 :: 42 :: 43 :: 44 :: 45 :: 46 :: 47 :: 48 :: 49 :: 50 :: 51 :: 52 :: 53 :: 54 :: 55 :: 56 :: 57 :: 58 :: 59 :: 60 :: 61 :: 62 :: 63 :: []) (fun i => i ≤ x.log.length ∧ ∀ t ∈ x.log.take i, toldB t = true) (fun i => withS [(3, .int .i64 i)]) (fun i => x.log.length - i))], ?_⟩
 have hp1 : x.view.peers.length * 16 ≤ 140737488355328 := hfit.1.2.2.1
 have hp2 : x.view.passive.length * 8 ≤ 140737488355328 := hfit.1.2.2.2.1
 have hp3 : x.items.length * 40 ≤ 140737488355328 := hfit.1.2.2.2.2.1
 have hp4 : x.log.length * 24 ≤ 140737488355328 := hfit.1.2.2.2.2.2.1
 clear hfit
 have e1 : IntKind.i64.wrap (IntKind.i64.wrap (IntKind.i64.wrap ((x.view.peers.length : Int) + (x.view.passive.length : Int)) + (x.items.length : Int)) + (x.log.length : Int)) = ((x.view.peers.length + x.view.passive.length + x.items.length + x.log.length : Nat) : Int) := by
  rw [wrapI (n := (x.view.peers.length : Int) + (x.view.passive.length : Int)) (by omega) (by omega), wrapI (n := (x.view.peers.length : Int) + (x.view.passive.length : Int) + (x.items.length : Int)) (by omega) (by omega), wrapI (by omega) (by omega)]
  omega
 refine V2 ?_; constructor <;> (first | (with_reducible exact TT.i) | (intros; (repeat (apply Wk.mk; intro Kv hN hX hR)); apply Wr.mk))
 all_goals (try simp only [e1] at *)
 all_goals first
  | (have h1 := nf (show (!x.up) = true by with_reducible assumption)
     rw [nodeB_down h1]
     first
      | (have h2 := of_decide_eq_true (show decide (((x.view.peers.length + x.view.passive.length + x.items.length + x.log.length : Nat) : Int) = 0) = true by with_reducible assumption)
         rw [decide_eq_true (show x.view.peers.length + x.view.passive.length + x.items.length + x.log.length = 0 by omega), Bool.true_and])
      | (have h2 := of_decide_eq_false (show decide (((x.view.peers.length + x.view.passive.length + x.items.length + x.log.length : Nat) : Int) = 0) = false by with_reducible assumption)
         rw [decide_eq_false (show ¬ x.view.peers.length + x.view.passive.length + x.items.length + x.log.length = 0 by omega), Bool.false_and]))
  | (refine ⟨0, ⟨by omega, by simp⟩, ?_⟩
     refine V1 ?_; constructor <;> (first | (with_reducible exact TT.i) | (intros; (repeat (apply Wk.mk; intro Kv hN hX hR)); apply Wr.mk))
     all_goals rfl)
  | (with_reducible intro i hi
     have hup := nt (show (!x.up) = false by with_reducible assumption)
     refine V1 ?_; constructor <;> (first | (with_reducible exact TT.i) | (intros; (repeat (apply Wk.mk; intro Kv hN hX hR)); apply Wr.mk))
     all_goals (try simp only [Int.toNat_natCast, etaView] at *)
     all_goals first
      | exact Ob.mk ⟨by omega, of_decide_eq_true aQ⟩
      | (have h := of_decide_eq_true (show decide ((i : Int) < (x.log.length : Nat)) = true by with_reducible assumption)
         have hm : toldB (x.log.getD i default) = true := by
          simp_all [toldB]
          done
         refine ⟨i + 1, ⟨by omega, all_take_succ (d := default) (by omega) hi.2 hm⟩, by show x.log.length - (i + 1) < x.log.length - i; omega, ?_⟩
         refine V1 ?_; constructor <;> (first | (with_reducible exact TT.i) | (intros; (repeat (apply Wk.mk; intro Kv hN hX hR)); apply Wr.mk))
         all_goals first
          | exact wrapI (by omega) (by omega)
          | rfl)
      | (have h := of_decide_eq_true (show decide ((i : Int) < (x.log.length : Nat)) = true by with_reducible assumption)
         have hm : toldB (x.log.getD i default) = false := by
          simp_all [toldB]
          done
         rw [nodeB_up hup, List.all_eq_false.2 ⟨x.log.getD i default, getD_mem (d := default) (by omega), by rw [hm]; simp⟩]
         simp
         done)
      | (have h := of_decide_eq_false (show decide ((i : Int) < (x.log.length : Nat)) = false by with_reducible assumption)
         have h2 := hi.2
         rw [List.take_of_length_le (by omega)] at h2
         rw [nodeB_up hup, List.all_eq_true.2 h2, Bool.and_true]
         first
          | (rw [show viewB x.view = false by with_reducible assumption]; rfl)
          | (rw [show viewB x.view = true by with_reducible assumption, show storeB x.items = false by with_reducible assumption]; rfl)
          | (rw [show viewB x.view = true by with_reducible assumption, show storeB x.items = true by with_reducible assumption, Bool.true_and, Bool.true_and]
             exact decide_eq_decide.2 (by omega))))
end Go.Proofs.YtjjpakdlkjaigaaGreat

/- Contracts: a new node: the document's; comparisons. -/
namespace Go.Proofs.YtjjpakdlkjaigaaGreat
open Go.RowKit
set_option maxRecDepth 20000
set_option maxHeartbeats 2000000 in
theorem k_refNew : Known Tryz.prog tau 25 (S2 dInt dInts fun id ids => .ok (.tup [.agg (nNew (newN id ids).1), .int .i64 (newN id ids).2]) [.ints (newN id ids).1.view.passive]) := by
 refine known2 hmix tau_ok (ctx_cons k_refPlace (ctx_cons k_refWith ctx_nil)) (fn := Tryz.f25) (by kernel_rfl) [] (by kernel_rfl) _ _ _ fun id xs hfit => ⟨rfl,
  [(5, invX (Nat × Bool × List Int) (5 :: 6 :: 7 :: 8 :: 9 :: 14 :: 15 :: 16 :: 17 :: 18 :: 19 :: 20 :: 21 :: 22 :: 23 :: 24 :: 25 :: 26 :: 27 :: 28 :: 29 :: 30 :: 31 :: 32 :: 33 :: 34 :: 35 :: 36 :: 37 :: 38 :: []) [32, 50032] (fun g => g.1 ≤ xs.length ∧ newP id [] xs = newP id g.2.2 (xs.drop g.1)) (fun g st => match g.2.2, g.2.1 with
    | [], _ => withS [(7, .int .i64 g.1), (6, .nilS (.ints []))] st
    | y :: ys, false => withS [(7, .int .i64 g.1), (6, .own 32)] (withR [(32, .own (.ints (y :: ys)))] st)
    | y :: ys, true => withS [(7, .int .i64 g.1), (6, .own 50032)] (withR [(50032, .own (.ints (y :: ys)))] st)) (fun g => xs.length - g.1))], ?_⟩
 have hlen : xs.length * 8 ≤ 140737488355328 := hfit.2.1
 clear hfit
 refine V2 ?_; constructor <;> (first | (with_reducible exact TT.i) | (intros; (repeat (apply Wk.mk; intro Kv hN hX hR)); apply Wr.mk))
 all_goals first
  | (rw [newN_no (.inl (nf (show (!placeB id) = true by with_reducible assumption)))] <;> rfl)
  | (refine ⟨(0, false, []), ⟨Nat.zero_le _, rfl⟩, ?_⟩
     refine V1 ?_; constructor <;> (first | (with_reducible exact TT.i) | (intros; (repeat (apply Wk.mk; intro Kv hN hX hR)); apply Wr.mk))
     all_goals rfl)
  | (rintro ⟨i, kb, l⟩ ⟨hi, hl⟩
     dsimp only at hi hl
     have hid := nt (show (!placeB id) = false by with_reducible assumption)
     rcases l with _ | ⟨y, l⟩
     rotate_left
     rcases kb with _ | _
     all_goals
      refine V1 ?_; constructor <;> (first | (with_reducible exact TT.i) | (intros; (repeat (apply Wk.mk; intro Kv hN hX hR)); apply Wr.mk))
     all_goals (try dsimp only at *)
     all_goals (try simp only [Int.toNat_natCast] at *)
     all_goals first
      | (have h := of_decide_eq_true (show decide ((i : Int) < (xs.length : Nat)) = true by with_reducible assumption)
         first
          | exact Ob.mk ⟨by omega, h⟩
          | (have h2 := of_decide_eq_true (show decide (xs.getD i 0 = id) = true by with_reducible assumption)
             refine ⟨(i + 1, false, _), ⟨by show i + 1 ≤ xs.length; omega, hl.trans (newP_same (by omega) h2)⟩, by show xs.length - (i + 1) < xs.length - i; omega, ?_⟩
             refine V1 ?_; constructor <;> (first | (with_reducible exact TT.i) | (intros; (repeat (apply Wk.mk; intro Kv hN hX hR)); apply Wr.mk))
             all_goals first
              | exact wrapI (by omega) (by omega)
              | rfl)
          | (have h2 := of_decide_eq_true (show decide (xs.getD i 0 = id) = true by with_reducible assumption)
             refine ⟨(i + 1, true, _), ⟨by show i + 1 ≤ xs.length; omega, hl.trans (newP_same (by omega) h2)⟩, by show xs.length - (i + 1) < xs.length - i; omega, ?_⟩
             refine V1 ?_; constructor <;> (first | (with_reducible exact TT.i) | (intros; (repeat (apply Wk.mk; intro Kv hN hX hR)); apply Wr.mk))
             all_goals first
              | exact wrapI (by omega) (by omega)
              | rfl)
          | (have h2 := of_decide_eq_false (show decide (xs.getD i 0 = id) = false by with_reducible assumption)
             have h3 := of_decide_eq_false (nf (b := decide ((withP _ (xs.getD i 0)).2 = 0)) aQ)
             rw [newN_no (.inr (hl.trans (newP_bad2 (by omega) h2 h3)))] <;> rfl)
          | (have h2 := of_decide_eq_false (show decide (xs.getD i 0 = id) = false by with_reducible assumption)
             have h3 := of_decide_eq_true (nt (b := decide ((withP _ (xs.getD i 0)).2 = 0)) aQ)
             obtain ⟨y', W, hW, h4⟩ := newP_go (by omega) h2 h3 hl
             refine ⟨(i + 1, false, y' :: W), ⟨by show i + 1 ≤ xs.length; omega, h4⟩, by show xs.length - (i + 1) < xs.length - i; omega, ?_⟩
             · (try dsimp only)
               refine V1 ?_; constructor <;> (first | (with_reducible exact TT.i) | (intros; (repeat (apply Wk.mk; intro Kv hN hX hR)); apply Wr.mk))
               all_goals first
                | exact wrapI (by omega) (by omega)
                | exact congrArg Rw.ints hW
                | exact congrArg Rw.ints hW.symm
                | rfl)
          | (have h2 := of_decide_eq_false (show decide (xs.getD i 0 = id) = false by with_reducible assumption)
             have h3 := of_decide_eq_true (nt (b := decide ((withP _ (xs.getD i 0)).2 = 0)) aQ)
             obtain ⟨y', W, hW, h4⟩ := newP_go (by omega) h2 h3 hl
             refine ⟨(i + 1, true, y' :: W), ⟨by show i + 1 ≤ xs.length; omega, h4⟩, by show xs.length - (i + 1) < xs.length - i; omega, ?_⟩
             · (try dsimp only)
               refine V1 ?_; constructor <;> (first | (with_reducible exact TT.i) | (intros; (repeat (apply Wk.mk; intro Kv hN hX hR)); apply Wr.mk))
               all_goals first
                | exact wrapI (by omega) (by omega)
                | exact congrArg Rw.ints hW
                | exact congrArg Rw.ints hW.symm
                | rfl))
      | (have h := of_decide_eq_false (show decide ((i : Int) < (xs.length : Nat)) = false by with_reducible assumption)
         rw [newN_yes hid (hl.trans (newP_end (by omega)))] <;> rfl))
end Go.Proofs.YtjjpakdlkjaigaaGreat

/- A symbolic executor for loaded Go code: the library's Grow of nil. -/
namespace Go.Proofs.YtjjpakdlkjaigaaGreat
open Go.RowKit
section
variable {P : Program} {τ : Tys}
structure GrowW (P : Program) (f : FuncId) (e : TypeId) (sz bts : Nat) : Prop where
 ent : Enters P f
 run : ∀ (n : Nat) (w : World), n * bts ≤ 140737488355328 → Calls P f #[.slice none 0 0, .int .i64 n] w fun x w' => ∃ v', x = .returned v' ∧ w'.ownsRow w.heap.size e sz v' 0 [] ∧ Below w.heap.size w w'
theorem mkEmpty_kd {k : Nat} (h : k < 12) : (mkEmpty k).kd = k := by
 match k, h with
 | 0, _ | 1, _ | 2, _ | 3, _ | 4, _ | 5, _ | 6, _ | 7, _ | 8, _ | 9, _ | 10, _ | 11, _ => rfl
def growT (kd q : Nat) : CallT := fun args s K => match args, s with
 | [.nilS _, .int .i64 n], ⟨fr, stk, bx, rw, dep⟩ => match St.has (own0 (dep + q)) ⟨fr, stk, bx, rw, dep⟩ with
   | false => Ob (0 ≤ n ∧ n * kdBytes kd ≤ 140737488355328) ∧ (0 ≤ n ∧ n * kdBytes kd ≤ 140737488355328 → K (.own (dep + q)) ⟨fr, stk, bx, upd rw (dep + q) (.own (mkEmpty kd)), dep⟩)
   | true => False
 | _, _ => False
theorem grow_tr {f kd : Nat} (q : Nat) (hkd : kd < 12) (hW : GrowW P f (τ.et kd) (kdSz kd) (kdBytes kd)) : TrKnown P τ f (growT kd q) := by
 refine ⟨hW.ent, ?_⟩
 intro w0 E s aS w args vals K hd hargs hT
 obtain ⟨fr, stk, bx, rw', dep⟩ := s
 unfold growT at hT
 split at hT
 rotate_left
 · exact hT.elim
 rename_i r n fr' stk' bx' rw2 dep' hs
 injection hs with e1 e2 e3 e4 e5
 subst e1; subst e2; subst e3; subst e4; subst e5
 obtain ⟨v, vs, rfl, h1, h2⟩ := hargs.inv_cons
 obtain ⟨v2, vs, rfl, h3, h4⟩ := h2.inv_cons
 obtain rfl := h4.inv_nil
 obtain ⟨rfl, hr0⟩ : v = .slice none 0 0 ∧ r.len = 0 := h1
 obtain rfl : v2 = .int .i64 n := h3
 split at hT
 rotate_left
 · exact hT.elim
 rename_i hno
 obtain ⟨hob, hT⟩ := hT
 obtain ⟨hn0, hnb⟩ := hob.out
 obtain ⟨m, rfl⟩ := Int.eq_ofNat_of_zero_le hn0
 have hmb : m * kdBytes kd ≤ 140737488355328 := by
  have : ((m * kdBytes kd : Nat) : Int) ≤ 140737488355328 := by rw [Int.natCast_mul]; exact hnb
  omega
 refine (hW.run m w hmb).mono ?_
 rintro e w' ⟨v', rfl, ho, hB⟩
 have hg : w.grownBy w' none := ⟨hB.os, hB.tape, hB.output, hB.size, fun k hk _ => hB.block k hk⟩
 have hk := mkEmpty_kd hkd
 have hl := len_mkEmpty kd
 refine ⟨v', _, _, E.add (dep + q) v', rfl, hT ⟨hn0, hnb⟩, hd.newRow (dep + q) hno w' hg v' (.own (mkEmpty kd)) (mkEmpty kd).len (mkEmpty kd) rfl [] (fun g hg => ho.lt g hg) ?_ ?_ ?_, rfl, Nat.le_refl _, ?_⟩
 · rw [hl]; simp
 · rw [hk, hl]
   unfold Rw.sz
   rw [hk]
   exact ownsRow_less hd.Mh ho
 · intro i j x hi
   rw [hl] at hi
   omega
 · simp [vd3, vd2, vd1, vd0, lk_upd, Env.add]
end
end Go.Proofs.YtjjpakdlkjaigaaGreat
