/- A part of the proof of ActPuts: P7, F5p, F5r, F19d, R24a, R24b, P24e, H24f. -/
import Derived.Test.YtjjpakdlkjaigaaGreatMB12
set_option linter.all false
set_option linter.unusedVariables false
set_option linter.unusedSimpArgs false
set_option linter.unusedSectionVars false
/- Plain law: a row into which something is put, told up to a place. -/
namespace Go.Proofs.YtjjpakdlkjaigaaGreat
def insO {α : Type} (l : List α) (c : Nat) (mid : List α) (s i : Nat) : List α := if c < i then l.take c ++ mid ++ (l.take i).drop (c + s) else l.take i
theorem take_one {α : Type} {l : List α} {i : Nat} {d : α} (h : i < l.length) : l.take (i + 1) = l.take i ++ [l.getD i d] := by
 rw [List.take_succ_eq_append_getElem h]
 simp [List.getD_eq_getElem?_getD, h]
theorem insO_lt {α : Type} {l : List α} {c s i : Nat} {mid : List α} {d : α} (h : i < c) (hi : i < l.length) : insO l c mid s (i + 1) = insO l c mid s i ++ [l.getD i d] := by
 unfold insO
 rw [if_neg (by omega), if_neg (by omega), take_one hi]
theorem insO_gt {α : Type} {l : List α} {c s i : Nat} {mid : List α} {d : α} (h : c < i) (hs : s ≤ 1) (hi : i < l.length) : insO l c mid s (i + 1) = insO l c mid s i ++ [l.getD i d] := by
 unfold insO
 rw [if_pos (by omega), if_pos h, take_one (d := d) hi, List.drop_append_of_le_length (by simp; omega), List.append_assoc, List.append_assoc, List.append_assoc]
theorem insO_eq1 {α : Type} {l : List α} {c : Nat} {mid : List α} (hi : c < l.length) : insO l c mid 1 (c + 1) = insO l c mid 1 c ++ mid := by
 unfold insO
 rw [if_pos (by omega), if_neg (by omega), List.drop_eq_nil_of_le (by simp; omega), List.append_nil]
theorem insO_eq0 {α : Type} {l : List α} {c : Nat} {mid : List α} {d : α} (hi : c < l.length) : insO l c mid 0 (c + 1) = insO l c mid 0 c ++ mid ++ [l.getD c d] := by
 unfold insO
 rw [if_pos (by omega), if_neg (by omega), take_one (d := d) hi, List.drop_append_of_le_length (by simp; omega), List.drop_eq_nil_of_le (by simp; omega), List.nil_append]
theorem insO_end {α : Type} {l : List α} {c s : Nat} {mid : List α} (h : c < l.length) : insO l c mid s l.length = l.take c ++ mid ++ l.drop (c + s) := by
 unfold insO
 rw [if_pos h, List.take_of_length_le (Nat.le_refl _)]
theorem insO_no {α : Type} {l : List α} {c s : Nat} {mid : List α} (h : l.length ≤ c) : insO l c mid s l.length = l := by
 unfold insO
 rw [if_neg (by omega), List.take_of_length_le (Nat.le_refl _)]
theorem insO_len {α : Type} (l : List α) (c s i : Nat) (mid : List α) : (insO l c mid s i).length ≤ l.length + mid.length := by
 unfold insO
 split
 · simp
   omega
 · simp
   omega
theorem insO_zero {α : Type} (l : List α) (c s : Nat) (mid : List α) : insO l c mid s 0 = [] := by
 unfold insO
 rw [if_neg (by omega)]
 rfl
theorem set_ins {α : Type} {l : List α} {c : Nat} {x : α} (h : c < l.length) : l.take c ++ [x] ++ l.drop (c + 1) = l.set c x := by
 rw [List.set_eq_take_append_cons_drop, if_pos h]
 simp
end Go.Proofs.YtjjpakdlkjaigaaGreat

/- Contracts: items by key: the document's. -/
namespace Go.Proofs.YtjjpakdlkjaigaaGreat
open Go.RowKit
theorem cnt_iff {α : Type} {d : α} (κ : α → Int) {l : List α} {K : Int} {t : Nat} (h : l.Pairwise fun a b => κ a < κ b) (ht : t < l.length) : κ (l.getD t d) < K ↔ t < l.countP fun y => decide (κ y < K) := by
 have hc := cnt_splitK κ (K := K) h
 have e : l.getD t d = l[t] := by simp [List.getD_eq_getElem?_getD, ht]
 rw [e]
 constructor
 · intro h1
   by_cases h2 : t < l.countP fun y => decide (κ y < K)
   · exact h2
   · have := hc.2 l[t] (by
      rw [List.mem_drop_iff_getElem]
      exact ⟨t - l.countP (fun y => decide (κ y < K)), by omega, by congr 1; omega⟩)
     omega
 · intro h1
   exact hc.1 l[t] (by
    rw [List.mem_take_iff_getElem]
    exact ⟨t, by omega, rfl⟩)
noncomputable def midS (l : List GItem) (x : GItem) : List GItem := if hasK l x.key = true then [(bestI (l.getD (l.countP fun i => decide (i.key < x.key)) default) x).1] else [x]
noncomputable def sS (l : List GItem) (x : GItem) : Nat := if hasK l x.key = true then 1 else 0
noncomputable def outS (l : List GItem) (x : GItem) (i : Nat) : List GItem := Classical.choose (seal_ex (insO l (l.countP fun i => decide (i.key < x.key)) (midS l x) (sS l x) i))
theorem outS_def (l : List GItem) (x : GItem) (i : Nat) : outS l x i = insO l (l.countP fun i => decide (i.key < x.key)) (midS l x) (sS l x) i := Classical.choose_spec (seal_ex _)
theorem outS_zero (l : List GItem) (x : GItem) : outS l x 0 = [] := by rw [outS_def]; exact insO_zero ..
theorem outS_len (l : List GItem) (x : GItem) (i : Nat) : (outS l x i).length ≤ l.length + 1 := by
 have h1 := insO_len l (l.countP fun i => decide (i.key < x.key)) (sS l x) i (midS l x)
 have h2 : (midS l x).length = 1 := by unfold midS; split <;> rfl
 rw [h2] at h1
 rw [outS_def]
 exact h1
section
variable {l : List GItem} {x : GItem} {i : Nat} (hs : RisingK l) (hi : i < l.length)
include hs hi
theorem key_iff : (l.getD i default).key < x.key ↔ i < l.countP fun i => decide (i.key < x.key) := cnt_iff (fun i : GItem => i.key) (risingK_iff.1 hs) hi
theorem key_eq (h : (l.getD i default).key = x.key) : hasK l x.key = true ∧ l.countP (fun i => decide (i.key < x.key)) = i := by
 have h1 : hasK l x.key = true := List.any_eq_true.2 ⟨_, getD_mem (d := default) hi, decide_eq_true h⟩
 obtain ⟨h2, h3⟩ := cntK_at hs h1
 refine ⟨h1, ?_⟩
 rcases Nat.lt_trichotomy (l.countP fun i => decide (i.key < x.key)) i with h4 | h4 | h4
 · have := hs _ i h4 hi
   omega
 · exact h4
 · have := hs i _ h4 h2
   omega
theorem outS_lt (h : (l.getD i default).key < x.key) : outS l x (i + 1) = outS l x i ++ [l.getD i default] := by
 rw [outS_def, outS_def]
 exact insO_lt ((key_iff hs hi).1 h) hi
theorem outS_gt (h : l.countP (fun i => decide (i.key < x.key)) < i) : outS l x (i + 1) = outS l x i ++ [l.getD i default] := by
 rw [outS_def, outS_def]
 exact insO_gt h (by unfold sS; split <;> omega) hi
theorem outS_eq (h : (l.getD i default).key = x.key) : outS l x (i + 1) = outS l x i ++ [(bestI (l.getD i default) x).1] := by
 obtain ⟨h1, h2⟩ := key_eq hs hi h
 rw [outS_def, outS_def]
 rw [show sS l x = 1 by unfold sS; rw [if_pos h1], show midS l x = [(bestI (l.getD i default) x).1] by unfold midS; rw [if_pos h1, h2]]
 subst h2
 exact insO_eq1 hi
theorem outS_new (h : x.key < (l.getD i default).key) (h2 : ¬ l.countP (fun i => decide (i.key < x.key)) < i) : outS l x (i + 1) = outS l x i ++ [x] ++ [l.getD i default] ∧ l.countP (fun i => decide (i.key < x.key)) = i := by
 have h3 : ¬ i < l.countP (fun i => decide (i.key < x.key)) := fun h3 => by
  have := (key_iff hs hi).2 h3
  omega
 have h4 : l.countP (fun i => decide (i.key < x.key)) = i := by omega
 have h1 : hasK l x.key = false := by
  cases h1 : hasK l x.key with
  | false => rfl
  | true =>
    have := (cntK_at hs h1).2
    rw [h4] at this
    omega
 refine ⟨?_, h4⟩
 rw [outS_def, outS_def]
 rw [show sS l x = 0 by unfold sS; rw [h1]; rfl, show midS l x = [x] by unfold midS; rw [h1]; rfl]
 rw [h4]
 exact insO_eq0 hi
end
theorem outS_end {l : List GItem} {x : GItem} (hs : RisingK l) : putU l x = if l.countP (fun i => decide (i.key < x.key)) < l.length then outS l x l.length else outS l x l.length ++ [x] := by
 have hc : l.countP (fun i => decide (i.key < x.key)) ≤ l.length := List.countP_le_length
 rw [outS_def]
 unfold putU
 cases h1 : hasK l x.key with
 | true =>
   obtain ⟨h2, h3⟩ := cntK_at hs h1
   rw [if_pos rfl, if_pos h2, insO_end h2, show sS l x = 1 by unfold sS; rw [h1]; rfl, show midS l x = [(bestI (l.getD (l.countP fun i => decide (i.key < x.key)) default) x).1] by unfold midS; rw [h1]; rfl, set_ins h2]
 | false =>
   rw [if_neg (by simp), show sS l x = 0 by unfold sS; rw [h1]; rfl, show midS l x = [x] by unfold midS; rw [h1]; rfl]
   split
   · rename_i h2
     rw [insO_end h2]
     rfl
   · rename_i h2
     rw [insO_no (by omega), List.drop_eq_nil_of_le (by omega), List.take_of_length_le (by omega), List.append_nil]
theorem putU_len {l : List GItem} {x : GItem} (h : hasK l x.key = true ∨ True) : (putU l x).length = l.length + (if hasK l x.key = true then 0 else 1) := by
 unfold putU
 split
 · simp
 · rw [len_insK]
theorem putI_len {l : List GItem} {x : GItem} (h1 : storeB l = true) (h2 : itemB x = true) : putI l x = if 16 < (putU l x).length then ([], 501) else (putU l x, 0) := by
 have h16 := (storeB_iff.1 h1).1
 have hl := putU_len (l := l) (x := x) (.inr trivial)
 rw [putI_def, if_pos ⟨h1, h2⟩]
 cases hh : hasK l x.key with
 | true =>
   rw [hh] at hl
   rw [if_pos rfl, if_neg (by rw [hl, if_pos rfl]; omega)]
 | false =>
   rw [hh] at hl
   rw [if_neg (by simp)]
   rw [if_neg (by simp)] at hl
   by_cases h3 : l.length = 16
   · rw [if_pos h3, if_pos (by omega)]
   · rw [if_neg h3, if_neg (by omega)]
end Go.Proofs.YtjjpakdlkjaigaaGreat

/- Contracts: items by key: the document's. -/
namespace Go.Proofs.YtjjpakdlkjaigaaGreat
open Go.RowKit
set_option maxRecDepth 20000
set_option maxHeartbeats 4000000 in
theorem k_refPut : Known Tryz.prog tau 124 (S2 dItems dItem oPutS) := by
 refine known2 hmix tau_ok (ctx_cons k_refStore (ctx_cons k_refItem (ctx_cons k_refBest ctx_nil))) (fn := Tryz.f124) (by kernel_rfl) [(8, [(0, 0), (1, 1), (2, 2), (3, 4), (4, 4), (5, 28), (6, 36), (7, 68), (8, 4), (9, 260), (10, 644), (11, 1028)]), (11, [(0, 0), (1, 0), (2, 3), (3, 4), (4, 8), (5, 0), (6, 32), (7, 80)]), (12, [(0, 0), (1, 0), (2, 3), (3, 4), (4, 0), (5, 24), (6, 32), (7, 64), (8, 64), (9, 0), (10, 767), (11, 2047)])] (by kernel_rfl) _ _ _ fun l x hfit => ⟨rfl,
  [(6, invA Nat [(6, 40, 4)] (6 :: 7 :: 8 :: 9 :: 10 :: 19 :: 20 :: 21 :: 22 :: 23 :: 24 :: 25 :: 26 :: 27 :: 28 :: 29 :: 30 :: 31 :: 32 :: 33 :: 34 :: 35 :: 36 :: 37 :: 38 :: 39 :: 40 :: 41 :: 42 :: 43 :: 44 :: 45 :: 46 :: 47 :: 48 :: 49 :: 50 :: 51 :: 52 :: 53 :: 54 :: 55 :: 56 :: 57 :: 58 :: 59 :: 60 :: 61 :: 62 :: 63 :: 64 :: 65 :: 66 :: 67 :: 68 :: []) [40] (fun i => i ≤ l.length) (fun i => fun st => withS [(8, .int .i64 i), (7, .bool (decide (l.countP (fun i => decide (i.key < x.key)) < i))), (6, .own 40)] (withR [(40, .own (.items (outS l x i)))] st)) (fun i => l.length - i))], ?_⟩
 have hlen : l.length * 40 ≤ 140737488355328 := hfit.1
 clear hfit
 refine V4 ?_; constructor <;> (first | (with_reducible exact TT.i) | (intros; (repeat (apply Wk.mk; intro Kv hN hX hR)); apply Wr.mk))
 all_goals (try simp only [etaItem] at *)
 all_goals first
  | (rw [putI_no (.inl (nf aQ))] <;> rfl)
  | (rw [putI_no (.inr (nf aQ))] <;> rfl)
  | (refine ⟨0, Nat.zero_le _, ?_⟩
     have e0 := outS_zero l x
     refine V1 ?_; constructor <;> (first | (with_reducible exact TT.i) | (intros; (repeat (apply Wk.mk; intro Kv hN hX hR)); apply Wr.mk))
     all_goals first
      | rfl
      | with_reducible exact congrArg Rw.items e0.symm
      | exact congrArg Rw.items e0.symm)
  | (with_reducible intro i hi
     have hi : i ≤ l.length := hi
     have h1 := nt (show (!storeB l) = false by with_reducible assumption)
     have h2 := nt (show (!itemB x) = false by with_reducible assumption)
     have h16 := (storeB_iff.1 h1).1
     have hs := (storeB_iff.1 h1).2.1
     refine V3 ?_; constructor <;> (first | (with_reducible exact TT.i) | (intros; (repeat (apply Wk.mk; intro Kv hN hX hR)); apply Wr.mk))
     all_goals first
      | exact Ob.mk ⟨by omega, of_decide_eq_true aQ⟩
      | skip
     all_goals (try simp only [Int.toNat_natCast, etaItem, decide_eq_true_eq, decide_eq_false_iff_not, Bool.not_eq_true', Bool.not_eq_false'] at *)
     all_goals first
      | (with_reducible refine Ob.mk ?_
         have g1 := outS_len l x i
         simp only [Rw.len, Rw.bts, Rw.kd, kdBytes, List.length_cons, List.length_nil, List.length_append]
         clear hs h1 h2
         omega)
      | (have hlt : i < l.length := by omega
         first
          | (have hk : (l.getD i default).key = x.key := by with_reducible assumption
             have e1 := outS_eq hs hlt hk
             have e2 := (key_eq hs hlt hk).2
             have e3 : decide (l.countP (fun i => decide (i.key < x.key)) < i + 1) = true := decide_eq_true (by omega)
             first
              | (exfalso; omega)
              | (refine ⟨i + 1, by show i + 1 ≤ l.length; omega, by show l.length - (i + 1) < l.length - i; omega, ?_⟩
                 refine V1 ?_; constructor <;> (first | (with_reducible exact TT.i) | (intros; (repeat (apply Wk.mk; intro Kv hN hX hR)); apply Wr.mk))
                 all_goals first
                  | exact wrapI (by omega) (by omega)
                  | with_reducible exact congrArg Rw.items e1.symm
                  | with_reducible exact e3
                  | with_reducible exact e3.symm
                  | rfl))
          | (have hk : ¬ (l.getD i default).key = x.key := by with_reducible assumption
             first
              | (have hg : x.key < (l.getD i default).key := by with_reducible assumption
                 have hc : ¬ l.countP (fun i => decide (i.key < x.key)) < i := by with_reducible assumption
                 have e1 := outS_new hs hlt hg hc
                 have e3 : decide (l.countP (fun i => decide (i.key < x.key)) < i + 1) = true := decide_eq_true (by omega)
                 refine ⟨i + 1, by show i + 1 ≤ l.length; omega, by show l.length - (i + 1) < l.length - i; omega, ?_⟩
                 refine V1 ?_; constructor <;> (first | (with_reducible exact TT.i) | (intros; (repeat (apply Wk.mk; intro Kv hN hX hR)); apply Wr.mk))
                 all_goals first
                  | exact wrapI (by omega) (by omega)
                  | with_reducible exact congrArg Rw.items e1.1.symm
                  | with_reducible exact e3
                  | with_reducible exact e3.symm
                  | rfl)
              | (have hg : ¬ x.key < (l.getD i default).key := by with_reducible assumption
                 have hlt2 : (l.getD i default).key < x.key := by omega
                 have e1 := outS_lt hs hlt hlt2
                 have h4 := (key_iff hs hlt).1 hlt2
                 have e3 : decide (l.countP (fun i => decide (i.key < x.key)) < i + 1) = decide (l.countP (fun i => decide (i.key < x.key)) < i) := decide_eq_decide.2 ⟨fun h => by omega, fun h => by omega⟩
                 refine ⟨i + 1, by show i + 1 ≤ l.length; omega, by show l.length - (i + 1) < l.length - i; omega, ?_⟩
                 refine V1 ?_; constructor <;> (first | (with_reducible exact TT.i) | (intros; (repeat (apply Wk.mk; intro Kv hN hX hR)); apply Wr.mk))
                 all_goals first
                  | exact wrapI (by omega) (by omega)
                  | with_reducible exact congrArg Rw.items e1.symm
                  | with_reducible exact e3
                  | with_reducible exact e3.symm
                  | with_reducible exact e3.symm
                  | rfl)
              | (have hc : l.countP (fun i => decide (i.key < x.key)) < i := by with_reducible assumption
                 have e1 := outS_gt hs hlt hc
                 have e3 : decide (l.countP (fun i => decide (i.key < x.key)) < i + 1) = true := decide_eq_true (by omega)
                 have e4 : decide (l.countP (fun i => decide (i.key < x.key)) < i) = true := decide_eq_true hc
                 refine ⟨i + 1, by show i + 1 ≤ l.length; omega, by show l.length - (i + 1) < l.length - i; omega, ?_⟩
                 refine V1 ?_; constructor <;> (first | (with_reducible exact TT.i) | (intros; (repeat (apply Wk.mk; intro Kv hN hX hR)); apply Wr.mk))
                 all_goals first
                  | exact wrapI (by omega) (by omega)
                  | with_reducible exact congrArg Rw.items e1.symm
                  | with_reducible exact e3
                  | with_reducible exact e3.trans e4.symm
                  | with_reducible exact e4.trans e3.symm
                  | with_reducible exact e3.symm
                  | rfl)))
      | (have hge : i = l.length := by omega
         have e1 := outS_end (x := x) hs
         have e2 := putI_len h1 h2
         subst hge
         first
          | (have hc : l.countP (fun i => decide (i.key < x.key)) < l.length := by with_reducible assumption
             rw [if_pos hc] at e1
             rw [e1] at e2
             first
              | (have h5 : 16 < ((outS l x l.length).length : Int) := by with_reducible assumption
                 rw [if_pos (by omega)] at e2
                 rw [e2] <;> rfl)
              | (have h5 : ¬ 16 < ((outS l x l.length).length : Int) := by with_reducible assumption
                 rw [if_neg (by omega)] at e2
                 rw [e2] <;> rfl))
          | (have hc : ¬ l.countP (fun i => decide (i.key < x.key)) < l.length := by with_reducible assumption
             rw [if_neg hc] at e1
             rw [e1] at e2
             first
              | (have h5 : 16 < ((outS l x l.length ++ [x]).length : Int) := by with_reducible assumption
                 rw [if_pos (by omega)] at e2
                 rw [e2] <;> rfl)
              | (have h5 : ¬ 16 < ((outS l x l.length ++ [x]).length : Int) := by with_reducible assumption
                 rw [if_neg (by omega)] at e2
                 rw [e2] <;> rfl))))
end Go.Proofs.YtjjpakdlkjaigaaGreat

/- Contracts: the document's: whose a key is; sharing; a node's turn. -/
namespace Go.Proofs.YtjjpakdlkjaigaaGreat
open Go.RowKit
set_option maxRecDepth 20000
set_option maxHeartbeats 1000000 in
theorem k_refOwnerOf : Known Tryz.prog tau 176 (S2 dInts dInt oOwn) := by
 refine known2 hmix tau_ok (ctx_cons k_refPlace (ctx_cons k_refPlaces (ctx_cons k_reffar ctx_nil))) (fn := Tryz.f176) (by kernel_rfl) [] (by kernel_rfl) _ _ _ fun l k hfit => ⟨rfl,
  [(5, invX (Nat × Int) [6, 7, 29, 30, 31, 32, 33, 34, 35, 36, 37, 38, 39, 40, 41, 42, 43, 44, 45, 46, 47, 48] [] (fun g => 1 ≤ g.1 ∧ g.1 ≤ l.length ∧ minP k (l.getD 0 0) (l.drop 1) = minP k g.2 (l.drop g.1)) (fun g => match g with
    | (i, b) => withS [(7, .int .i64 i), (6, .int .i64 b)]) (fun g => l.length - g.1))], ?_⟩
 clear hfit
 refine V2 ?_; constructor <;> (first | (with_reducible exact TT.i) | (intros; (repeat (apply Wk.mk; intro Kv hN hX hR)); apply Wr.mk))
 all_goals first
  | (have h := nf (show (!placeB k) = true by with_reducible assumption)
     rw [ownP_no (.inl (by unfold rowMayB; rw [h]; rfl))] <;> rfl)
  | (have h := nf (show (!l.all placeB) = true by with_reducible assumption)
     rw [ownP_no (.inl (by unfold rowMayB; rw [h]; simp))] <;> rfl)
  | (have h := of_decide_eq_true (show decide ((l.length : Int) = 0) = true by with_reducible assumption)
     rw [ownP_no (.inr (by omega))] <;> rfl)
  | (have h := of_decide_eq_true (show decide ((64 : Int) < (l.length : Nat)) = true by with_reducible assumption)
     rw [ownP_no (.inl (by unfold rowMayB; rw [decide_eq_false (show ¬ l.length ≤ 64 by omega)]; simp))] <;> rfl)
  | (have n1 := nt (show (!placeB k) = false by with_reducible assumption)
     have n2 := nt (show (!l.all placeB) = false by with_reducible assumption)
     have n3 := of_decide_eq_false (show decide ((l.length : Int) = 0) = false by with_reducible assumption)
     have n4 := of_decide_eq_false (show decide ((64 : Int) < (l.length : Nat)) = false by with_reducible assumption)
     have hy := ownP_yes (l := l) (k := k) (by unfold rowMayB; rw [n1, n2, decide_eq_true (show l.length ≤ 64 by omega)]; rfl) (by omega)
     first
      | exact Ob.mk ⟨by decide, by omega⟩
      | (refine ⟨(1, l.getD 0 0), ⟨Nat.le_refl _, by show 1 ≤ l.length; omega, rfl⟩, ?_⟩
         refine V1 ?_; constructor <;> (first | (with_reducible exact TT.i) | (intros; (repeat (apply Wk.mk; intro Kv hN hX hR)); apply Wr.mk))
         all_goals rfl)
      | (rintro ⟨i, b⟩ ⟨h1, h2, h3⟩
         dsimp only at h1 h2 h3
         refine V1 ?_; constructor <;> (first | (with_reducible exact TT.i) | (intros; (repeat (apply Wk.mk; intro Kv hN hX hR)); apply Wr.mk))
         all_goals (try dsimp only at *)
         all_goals (try simp only [Int.toNat_natCast] at *)
         all_goals first
          | exact Ob.mk ⟨by omega, of_decide_eq_true aQ⟩
          | (have h := of_decide_eq_true (show decide ((i : Int) < (l.length : Nat)) = true by with_reducible assumption)
             have e1 := minP_next (k := k) (b := b) (l := l) (i := i) (by omega)
             first
              | (have h4 := of_decide_eq_true (show decide (farI k (l.getD i 0) < farI k b) = true by with_reducible assumption)
                 rw [if_pos h4] at e1
                 refine ⟨(i + 1, l.getD i 0), ⟨by show 1 ≤ i + 1; omega, by show i + 1 ≤ l.length; omega, h3.trans e1⟩, by show l.length - (i + 1) < l.length - i; omega, ?_⟩
                 refine V1 ?_; constructor <;> (first | (with_reducible exact TT.i) | (intros; (repeat (apply Wk.mk; intro Kv hN hX hR)); apply Wr.mk))
                 all_goals first
                  | exact wrapI (by omega) (by omega)
                  | rfl)
              | (have h4 := of_decide_eq_false (show decide (farI k (l.getD i 0) < farI k b) = false by with_reducible assumption)
                 rw [if_neg h4] at e1
                 refine ⟨(i + 1, b), ⟨by show 1 ≤ i + 1; omega, by show i + 1 ≤ l.length; omega, h3.trans e1⟩, by show l.length - (i + 1) < l.length - i; omega, ?_⟩
                 refine V1 ?_; constructor <;> (first | (with_reducible exact TT.i) | (intros; (repeat (apply Wk.mk; intro Kv hN hX hR)); apply Wr.mk))
                 all_goals first
                  | exact wrapI (by omega) (by omega)
                  | rfl))
          | (have h := of_decide_eq_false (show decide ((i : Int) < (l.length : Nat)) = false by with_reducible assumption)
             rw [hy]
             first
              | done
              | rfl
              | rw [h3, minP_end (by omega)])))
theorem minP_spec {k : Int} : ∀ (l : List Int) (b : Int), minP k b l ∈ b :: l ∧ ∀ y ∈ b :: l, farI k (minP k b l) ≤ farI k y
 | [], b => ⟨List.mem_cons_self, fun y hy => by rw [List.mem_singleton.1 hy]; exact Int.le_refl _⟩
 | x :: l, b => by
   unfold minP
   have ih := minP_spec (k := k) l (if farI k x < farI k b then x else b)
   refine ⟨?_, fun y hy => ?_⟩
   · rcases List.mem_cons.1 ih.1 with h | h
     · rw [h]
       split
       · exact List.mem_cons_of_mem _ List.mem_cons_self
       · exact List.mem_cons_self
     · exact List.mem_cons_of_mem _ (List.mem_cons_of_mem _ h)
   · have h0 := ih.2 _ List.mem_cons_self
     have hb : farI k (if farI k x < farI k b then x else b) ≤ farI k b ∧ farI k (if farI k x < farI k b then x else b) ≤ farI k x := by split <;> omega
     rcases List.mem_cons.1 hy with h | hy
     · subst h
       exact Int.le_trans h0 hb.1
     · rcases List.mem_cons.1 hy with h | hy
       · subst h
         exact Int.le_trans h0 hb.2
       · exact ih.2 y (List.mem_cons_of_mem _ hy)
theorem ownP_spec {l : List Int} {k : Int} (h : rowMayB k l = true) (h2 : 0 < l.length) : (ownP l k).1 ∈ l ∧ ∀ y ∈ l, farI k (ownP l k).1 ≤ farI k y := by
 rw [ownP_yes h h2]
 cases l with
 | nil => simp at h2
 | cons x l => exact minP_spec l x
theorem ownP_perm {l l' : List Int} {k : Int} (h : rowMayB k l = true) (h2 : 0 < l.length) (h' : rowMayB k l' = true) (h2' : 0 < l'.length) (hm : ∀ x, x ∈ l ↔ x ∈ l') : (ownP l k).1 = (ownP l' k).1 := by
 obtain ⟨a1, a2⟩ := ownP_spec h h2
 obtain ⟨b1, b2⟩ := ownP_spec h' h2'
 have pl : ∀ x ∈ l, placeB x = true := by
  simp only [rowMayB, Bool.and_eq_true, List.all_eq_true] at h
  exact h.2.2
 have pk : placeB k = true := by
  simp only [rowMayB, Bool.and_eq_true] at h
  exact h.1
 have e1 := a2 _ ((hm _).2 b1)
 have e2 := b2 _ ((hm _).1 a1)
 exact (far_inj pk (pl _ a1) (pl _ ((hm _).2 b1))).1 (by omega)
theorem view_row {v : GView} {k : Int} (hv : viewB v = true) (hk : placeB k = true) : rowMayB k ([v.id] ++ namesP v.peers) = true ∧ rowMayB k (namesP v.peers ++ [v.id]) = true := by
 have h := viewB_iff.1 hv
 have hp := peersB_iff.1 h.1
 have hn := namesP_len v.peers
 have ha : (namesP v.peers).all placeB = true := by
  rw [List.all_eq_true]
  intro x hx
  unfold namesP at hx
  obtain ⟨p, h1, rfl⟩ := List.mem_map.1 hx
  have := hp.2.2.2 p h1
  unfold peerB at this
  simp only [Bool.and_eq_true] at this
  exact this.1
 unfold rowMayB
 constructor
 · rw [hk, List.all_append, ha, decide_eq_true (show ([v.id] ++ namesP v.peers).length ≤ 64 by rw [List.length_append, hn]; simp; omega)]
   simp [hp.1]
 · rw [hk, List.all_append, ha, decide_eq_true (show (namesP v.peers ++ [v.id]).length ≤ 64 by rw [List.length_append, hn]; simp; omega)]
   simp [hp.1]
theorem ownV_ref {v : GView} {k : Int} (hv : viewB v = true) (hk : placeB k = true) : (ownP ([v.id] ++ namesP v.peers) k).1 = (ownP (namesP v.peers ++ [v.id]) k).1 := by
 obtain ⟨h1, h2⟩ := view_row hv hk
 refine ownP_perm h1 (by simp) h2 (by simp) fun x => ?_
 simp only [List.mem_append]
 exact Or.comm
theorem k_refOwner : Known Tryz.prog tau 129 (S2 dView dInt oOwnV) := by
 refine known2 hmix tau_ok (ctx_cons k_refView (ctx_cons k_refPlace (ctx_cons k_refNames (ctx_cons k_refOwnerOf ctx_nil)))) (fn := Tryz.f129) (by kernel_rfl) [] (by kernel_rfl) _ _ _ fun v k hfit => ⟨rfl, [], ?_⟩
 have hp : v.peers.length * 16 ≤ 140737488355328 := hfit.1.2.1
 clear hfit
 refine V1 ?_; constructor <;> (first | (with_reducible exact TT.i) | (intros; (repeat (apply Wk.mk; intro Kv hN hX hR)); apply Wr.mk))
 all_goals (try simp only [etaView] at *)
 all_goals first
  | (rw [ownV_no (.inl (nf (show (!viewB v) = true by with_reducible assumption)))]; done)
  | (rw [ownV_no (.inr (nf (show (!placeB k) = true by with_reducible assumption)))]; done)
  | (have h : viewB v = true := nt aQ
     have h2 : placeB k = true := nt aQ
     have h3 := (viewB_iff.1 h).2.2.1
     first
      | (refine Ob.mk ?_
         simp only [Rw.len, Rw.bts, Rw.kd, kdBytes, namesP_len, List.length_cons, List.length_nil]
         omega)
      | (rw [ownV_def, if_pos ⟨h, h2⟩]
         first
          | done
          | rfl
          | exact ownV_ref h h2))
theorem names_0 (l : List GPeer) : (namesP l).getD 0 0 = (l.getD 0 default).id := by
 cases l <;> rfl
theorem k_refSucc : Known Tryz.prog tau 128 (S1 dView oSucc) := by
 refine known1 hmix tau_ok (ctx_cons k_refView ctx_nil) (fn := Tryz.f128) (by kernel_rfl) [] (by kernel_rfl) _ _ fun v hfit => ⟨rfl, [], ?_⟩
 clear hfit
 refine V1 ?_; constructor <;> (first | (with_reducible exact TT.i) | (intros; (repeat (apply Wk.mk; intro Kv hN hX hR)); apply Wr.mk))
 all_goals (try simp only [etaView] at *)
 all_goals first
  | (have h : viewB v = false := nf aQ
     rw [succV_def, if_neg (by rw [h]; simp)]
     done)
  | (have h : viewB v = true := nt aQ
     have h2 := of_decide_eq_true (show decide ((v.peers.length : Int) = 0) = true by with_reducible assumption)
     rw [succV_def, if_pos h, if_pos (by omega)]
     done)
  | (have h : viewB v = true := nt aQ
     have h2 := of_decide_eq_false (show decide ((v.peers.length : Int) = 0) = false by with_reducible assumption)
     first
      | exact Ob.mk ⟨by decide, by omega⟩
      | (rw [succV_def, if_pos h, if_neg (by omega)]
         first
          | done
          | rfl
          | exact (names_0 _).symm))
theorem k_upMay : Known Tryz.prog tau 67 (S1 dNode fun x => okB (x.up && nodeB x)) := by
 refine known1 hmix tau_ok (ctx_cons k_refNode ctx_nil) (fn := Tryz.f67) (by kernel_rfl) [] (by kernel_rfl) _ _ fun x hfit => ⟨rfl, [], ?_⟩
 clear hfit
 refine V1 ?_; constructor <;> (first | (with_reducible exact TT.i) | (intros; (repeat (apply Wk.mk; intro Kv hN hX hR)); apply Wr.mk))
 all_goals (try simp only [etaNode] at *)
 all_goals first
  | (have h : x.up = true := by with_reducible assumption
     rw [h]
     rfl)
  | (have h : x.up = false := by with_reducible assumption
     rw [h]
     rfl)
theorem k_refCopyNode : Known Tryz.prog tau 70 (S1 dNode fun x => .ok (.agg (nOwn4 x)) (nRows x)) := by
 refine known1 hmix tau_ok ctx_nil (fn := Tryz.f70) (by kernel_rfl) [] (by kernel_rfl) _ _ fun x hfit => ⟨rfl, [], ?_⟩
 have hp1 : x.view.peers.length * 16 ≤ 140737488355328 := hfit.1.2.2.1
 have hp2 : x.view.passive.length * 8 ≤ 140737488355328 := hfit.1.2.2.2.1
 have hp3 : x.items.length * 40 ≤ 140737488355328 := hfit.1.2.2.2.2.1
 have hp4 : x.log.length * 24 ≤ 140737488355328 := hfit.1.2.2.2.2.2.1
 clear hfit
 refine V1 ?_; constructor <;> (first | (with_reducible exact TT.i) | (intros; (repeat (apply Wk.mk; intro Kv hN hX hR)); apply Wr.mk))
 all_goals first
  | (refine Ob.mk ?_
     simp only [Rw.len, Rw.bts, Rw.kd, kdBytes, List.length_nil]
     omega)
  | rfl
set_option maxHeartbeats 2000000 in
theorem k_refShare : Known Tryz.prog tau 76 (S1 dNode oShare) := by
 refine known1 hmix tau_ok (ctx_cons k_upMay (ctx_cons k_refSucc (ctx_cons k_refOwner ctx_nil))) (fn := Tryz.f76) (by kernel_rfl) [(8, [(0, 0), (1, 1), (2, 0), (3, 4), (4, 0), (5, 24), (6, 32), (7, 64), (8, 130), (9, 256), (10, 512), (11, 512), (12, 2047), (13, 8191)]), (12, [(0, 0), (1, 0), (2, 2), (3, 4), (4, 0), (5, 0), (6, 32), (7, 0), (8, 192), (9, 256), (10, 536), (11, 1024), (12, 2049), (13, 8191)])] (by kernel_rfl) _ _ fun x hfit => ⟨rfl,
  [(6, invA Nat [(4, 61, 7)] (4 :: 7 :: 8 :: 9 :: 19 :: 20 :: 21 :: 22 :: 23 :: 24 :: 25 :: 26 :: 27 :: 28 :: 29 :: 30 :: 31 :: 32 :: 33 :: 34 :: 35 :: 36 :: 37 :: 38 :: 39 :: 40 :: 41 :: 42 :: 43 :: 44 :: 45 :: 46 :: 47 :: 48 :: 49 :: 50 :: 51 :: 52 :: 53 :: 54 :: 55 :: 56 :: 57 :: 58 :: 59 :: 60 :: 61 :: []) [] (fun i => i ≤ x.items.length) (fun i => fun st => withS [(7, .int .i64 i), (4, .own 61)] (withR [(61, .own (.msgs (shareL x.view (x.items.take i))))] st)) (fun i => x.items.length - i))], ?_⟩
 have hp : x.items.length * 40 ≤ 140737488355328 := hfit.1.2.2.2.2.1
 clear hfit
 refine V2 ?_; constructor <;> (first | (with_reducible exact TT.i) | (intros; (repeat (apply Wk.mk; intro Kv hN hX hR)); apply Wr.mk))
 all_goals first
  | (have h : (x.up && nodeB x) = false := nf aQ
     rw [shareN_def, if_neg (by rw [h]; simp)] <;> rfl)
  | (refine ⟨0, Nat.zero_le _, ?_⟩
     refine V1 ?_; constructor <;> (first | (with_reducible exact TT.i) | (intros; (repeat (apply Wk.mk; intro Kv hN hX hR)); apply Wr.mk))
     all_goals rfl)
  | (with_reducible intro i hi
     have hi : i ≤ x.items.length := hi
     have hB : (x.up && nodeB x) = true := nt aQ
     have hst := (storeB_iff.1 (by
      have := (Bool.and_eq_true _ _ ▸ hB).2
      unfold nodeB at this
      simp only [Bool.and_eq_true] at this
      exact this.2.1 : storeB x.items = true)).1
     have g2 := shareL_len x.view (x.items.take i)
     rw [List.length_take] at g2
     refine V1 ?_; constructor <;> (first | (with_reducible exact TT.i) | (intros; (repeat (apply Wk.mk; intro Kv hN hX hR)); apply Wr.mk))
     all_goals (try simp only [Int.toNat_natCast, etaView, etaItem] at *)
     all_goals first
      | exact Ob.mk ⟨by omega, of_decide_eq_true aQ⟩
      | (refine Ob.mk ?_
         simp only [Rw.len, Rw.bts, Rw.kd, kdBytes, List.length_cons, List.length_nil]
         omega)
      | (have h := of_decide_eq_true (show decide ((i : Int) < (x.items.length : Nat)) = true by with_reducible assumption)
         have e1 := shareL_succ (v := x.view) (l := x.items) (i := i) (by omega)
         have go : ∀ ys, shareL x.view (x.items.take (i + 1)) = shareL x.view (x.items.take i) ++ ys → shareL x.view (x.items.take i) ++ ys = shareL x.view (x.items.take (i + 1)) := fun ys h => h.symm
         first
          | (have h1 := of_decide_eq_true (show decide ((ownV x.view (x.items.getD i default).key).1 = x.view.id) = true by with_reducible assumption)
             have ht : toV x.view (x.items.getD i default).key = (succV x.view).1 := by unfold toV; rw [if_pos h1]
             rw [ht] at e1
             first
              | (have h2 := of_decide_eq_false (nf (show (!decide ((succV x.view).1 = x.view.id)) = true by with_reducible assumption))
                 rw [if_neg h2] at e1
                 refine ⟨i + 1, by omega, by omega, ?_⟩
                 refine V1 ?_; constructor <;> (first | (with_reducible exact TT.i) | (intros; (repeat (apply Wk.mk; intro Kv hN hX hR)); apply Wr.mk))
                 all_goals first
                  | exact wrapI (by omega) (by omega)
                  | exact congrArg Rw.msgs e1.symm
                  | rfl)
              | (have h2 := of_decide_eq_true (nt (show (!decide ((succV x.view).1 = x.view.id)) = false by with_reducible assumption))
                 rw [if_pos h2, List.append_nil] at e1
                 refine ⟨i + 1, by omega, by omega, ?_⟩
                 refine V1 ?_; constructor <;> (first | (with_reducible exact TT.i) | (intros; (repeat (apply Wk.mk; intro Kv hN hX hR)); apply Wr.mk))
                 all_goals first
                  | exact wrapI (by omega) (by omega)
                  | exact congrArg Rw.msgs e1.symm
                  | rfl))
          | (have h1 := of_decide_eq_false (show decide ((ownV x.view (x.items.getD i default).key).1 = x.view.id) = false by with_reducible assumption)
             have ht : toV x.view (x.items.getD i default).key = (ownV x.view (x.items.getD i default).key).1 := by unfold toV; rw [if_neg h1]
             rw [ht, if_neg h1] at e1
             first
              | exact absurd (of_decide_eq_true (nt (show (!decide ((ownV x.view (x.items.getD i default).key).1 = x.view.id)) = false by with_reducible assumption))) h1
              | (refine ⟨i + 1, by omega, by omega, ?_⟩
                 refine V1 ?_; constructor <;> (first | (with_reducible exact TT.i) | (intros; (repeat (apply Wk.mk; intro Kv hN hX hR)); apply Wr.mk))
                 all_goals first
                  | exact wrapI (by omega) (by omega)
                  | exact congrArg Rw.msgs e1.symm
                  | rfl)))
      | (have h := of_decide_eq_false (show decide ((i : Int) < (x.items.length : Nat)) = false by with_reducible assumption)
         rw [shareN_def, if_pos hB]
         first
          | done
          | rfl
          | rw [List.take_of_length_le (by omega)]))
set_option maxHeartbeats 4000000 in
theorem k_refTick : Known Tryz.prog tau 31 (S1 dNode oTick) := by
 refine known1 hmix tau_ok (ctx_cons k_upMay (ctx_cons k_refCopyNode (ctx_cons k_refAgeView (ctx_cons k_refNames (ctx_cons k_refShare ctx_nil))))) (fn := Tryz.f31) (by kernel_rfl) [(10, [(0, 0), (1, 0), (2, 2), (3, 0), (4, 0), (5, 24), (6, 32), (7, 0), (8, 128), (9, 256), (10, 580), (11, 1024), (12, 2561), (13, 8191)])] (by kernel_rfl) _ _ fun x hfit => ⟨rfl,
  [(8, invA Nat [(9, 46, 7)] [9, 10, 28, 29, 30, 31, 32, 33, 34, 35, 36, 37, 38, 39, 40, 41, 42, 43, 44, 45, 46] [] (fun i => i ≤ (tickV x.view).2.1.length) (fun i => fun st => withS [(10, .int .i64 i), (9, .own 46)] (withR [(46, .own (.msgs (helloL (tickV x.view).1 ((tickV x.view).2.1.take i))))] st)) (fun i => (tickV x.view).2.1.length - i))], ?_⟩
 have hp : x.items.length * 40 ≤ 140737488355328 := hfit.1.2.2.2.2.1
 clear hfit
 refine V2 ?_; constructor <;> (first | (with_reducible exact TT.i) | (intros; (repeat (apply Wk.mk; intro Kv hN hX hR)); apply Wr.mk))
 all_goals first
  | (have h : (x.up && nodeB x) = false := nf aQ
     rw [tickN_def, if_neg (by rw [h]; simp)] <;> rfl)
  | (refine ⟨0, Nat.zero_le _, ?_⟩
     refine V1 ?_; constructor <;> (first | (with_reducible exact TT.i) | (intros; (repeat (apply Wk.mk; intro Kv hN hX hR)); apply Wr.mk))
     all_goals rfl)
  | (with_reducible intro i hi
     have hi : i ≤ (tickV x.view).2.1.length := hi
     have hB : (x.up && nodeB x) = true := nt aQ
     obtain ⟨b1, b2, b3, b4⟩ := up_view hB
     have t := tick_ok b3
     have tl := congrArg List.length t.2.2.2.2.1
     rw [List.length_append, namesP_len, ← t.2.2.1] at tl
     have t16 := (viewB_iff.1 t.1).2.2.1
     have s16 := (storeB_iff.1 b4).1
     have g3 := shareN_len ⟨x.up, (tickV x.view).1, x.items, x.log⟩
     have htn := (tickN_def x).trans (if_pos hB)
     refine V1 ?_; constructor <;> (first | (with_reducible exact TT.i) | (intros; (repeat (apply Wk.mk; intro Kv hN hX hR)); apply Wr.mk))
     all_goals (try simp only [Int.toNat_natCast, etaView, etaNode] at *)
     all_goals first
      | exact Ob.mk ⟨by omega, of_decide_eq_true aQ⟩
      | (refine Ob.mk ?_
         simp only [Rw.len, Rw.bts, Rw.kd, kdBytes, List.length_cons, List.length_nil, helloL_len, List.length_take]
         omega)
      | (have h := of_decide_eq_true (show decide ((i : Int) < ((tickV x.view).2.1.length : Nat)) = true by with_reducible assumption)
         have e1 := helloL_succ (v := (tickV x.view).1) (l := (tickV x.view).2.1) (i := i) (by omega)
         refine ⟨i + 1, by omega, by omega, ?_⟩
         refine V1 ?_; constructor <;> (first | (with_reducible exact TT.i) | (intros; (repeat (apply Wk.mk; intro Kv hN hX hR)); apply Wr.mk))
         all_goals first
          | exact wrapI (by omega) (by omega)
          | exact congrArg Rw.msgs e1.symm
          | rfl)
      | (have h := of_decide_eq_false (show decide ((i : Int) < ((tickV x.view).2.1.length : Nat)) = false by with_reducible assumption)
         rw [htn]
         first
          | done
          | rfl
          | rw [List.take_of_length_le (by omega)]))
end Go.Proofs.YtjjpakdlkjaigaaGreat

/- Contracts: the document's: an item of a key, writing, an item that comes. -/
namespace Go.Proofs.YtjjpakdlkjaigaaGreat
open Go.RowKit
set_option maxRecDepth 20000
theorem hasK_no {l : List GItem} {k : Int} (h : ∀ t, t < l.length → ¬ (l.getD t default).key = k) : hasK l k = false := by
 cases e : hasK l k with
 | false => rfl
 | true =>
   obtain ⟨y, hy, e2⟩ := List.any_eq_true.1 e
   obtain ⟨t, ht, rfl⟩ := List.getElem_of_mem hy
   exact absurd (by rw [List.getD_eq_getElem?_getD, List.getElem?_eq_getElem ht]; exact of_decide_eq_true e2) (h t ht)
theorem hasK_at {l : List GItem} {k : Int} {t : Nat} (ht : t < l.length) (h : (l.getD t default).key = k) : hasK l k = true :=
 List.any_eq_true.2 ⟨_, getD_mem (d := default) ht, decide_eq_true h⟩
set_option maxHeartbeats 4000000 in
theorem k_refGet : Known Tryz.prog tau 125 (S2 dItems dInt oGetS) := by
 refine known2 hmix tau_ok (ctx_cons k_refStore ctx_nil) (fn := Tryz.f125) (by kernel_rfl) [] (by kernel_rfl) _ _ _ fun l k hfit => ⟨rfl,
  [(2, invN [5, 6, 7, 8, 9, 10, 11, 12, 13, 14, 15, 16, 17, 18, 19, 20, 21, 22, 23, 24, 25, 26, 27] (fun i => i ≤ l.length ∧ ∀ t, t < i → ¬ (l.getD t default).key = k) (fun i => withS [(6, .int .i64 i)]) (fun i => l.length - i))], ?_⟩
 have hlen : l.length * 40 ≤ 140737488355328 := hfit.1
 clear hfit
 refine V2 ?_; constructor <;> (first | (with_reducible exact TT.i) | (intros; (repeat (apply Wk.mk; intro Kv hN hX hR)); apply Wr.mk))
 all_goals first
  | (refine ⟨0, ⟨Nat.zero_le _, fun t h => absurd h (Nat.not_lt_zero _)⟩, ?_⟩
     refine V1 ?_; constructor <;> (first | (with_reducible exact TT.i) | (intros; (repeat (apply Wk.mk; intro Kv hN hX hR)); apply Wr.mk))
     all_goals rfl)
  | (with_reducible intro i hi
     obtain ⟨hi, hn⟩ : i ≤ l.length ∧ ∀ t, t < i → ¬ (l.getD t default).key = k := hi
     refine V1 ?_; constructor <;> (first | (with_reducible exact TT.i) | (intros; (repeat (apply Wk.mk; intro Kv hN hX hR)); apply Wr.mk))
     all_goals (try simp only [Int.toNat_natCast, etaItem] at *)
     all_goals first
      | exact Ob.mk ⟨by omega, of_decide_eq_true aQ⟩
      | (rw [getS_no (.inl (show storeB l = false by with_reducible assumption))] <;> rfl)
      | (have h1 := (show storeB l = true by with_reducible assumption)
         have h := of_decide_eq_true (show decide ((i : Int) < (l.length : Nat)) = true by with_reducible assumption)
         first
          | (have hk := of_decide_eq_true (show decide ((l.getD i default).key = k) = true by with_reducible assumption)
             have e2 : l.countP (fun q => decide (q.key < k)) = i := (key_eq (x := ⟨k, ⟨0, 0⟩, 0, false⟩) (storeB_iff.1 h1).2.1 (show i < l.length by omega) hk).2
             rw [getS_yes h1 (hasK_at (show i < l.length by omega) hk), e2] <;> rfl)
          | (have hk := of_decide_eq_false (show decide ((l.getD i default).key = k) = false by with_reducible assumption)
             refine ⟨i + 1, ⟨by omega, fun t ht => ?_⟩, by omega, ?_⟩
             · rcases Nat.lt_or_eq_of_le (Nat.le_of_lt_succ ht) with h3 | h3
               · exact hn t h3
               · rw [h3]; exact hk
             · refine V1 ?_; constructor <;> (first | (with_reducible exact TT.i) | (intros; (repeat (apply Wk.mk; intro Kv hN hX hR)); apply Wr.mk))
               all_goals first
                | exact wrapI (by omega) (by omega)
                | rfl))
      | (have h := of_decide_eq_false (show decide ((i : Int) < (l.length : Nat)) = false by with_reducible assumption)
         have e : i = l.length := by omega
         subst e
         rw [getS_no (.inr (hasK_no hn))] <;> rfl))
set_option maxHeartbeats 4000000 in
theorem k_refWrote : Known Tryz.prog tau 74 (S2 dNode dItem oWrote) := by
 refine known2 hmix tau_ok (ctx_cons k_upMay (ctx_cons k_refByte16 (ctx_cons k_refGet (ctx_cons k_refCopyNode (ctx_cons k_refPut ctx_nil))))) (fn := Tryz.f74) (by kernel_rfl) [] (by kernel_rfl) _ _ _ fun x i hfit => ⟨rfl, [], ?_⟩
 clear hfit
 have hg := getS_count x.items i.key
 have w1 : IntKind.i64.wrap ((getS x.items i.key).1.ver.count + 1) = (getS x.items i.key).1.ver.count + 1 := wrapI (by omega) (by omega)
 refine V1 ?_; constructor <;> (first | (with_reducible exact TT.i) | (intros; (repeat (apply Wk.mk; intro Kv hN hX hR)); apply Wr.mk))
 all_goals (try simp only [etaNode, etaItem, w1, etaW] at *)
 all_goals first
  | (rw [wroteN_no (.inl (nf aQ))] <;> rfl)
  | (rw [wroteN_no (.inr (.inl (nf aQ)))] <;> rfl)
  | (rw [wroteN_no (.inr (.inr (nf aQ)))] <;> rfl)
  | (have h1 := nt (show (!(x.up && nodeB x)) = false by with_reducible assumption)
     have h2 := nt (show (!placeB i.key) = false by with_reducible assumption)
     have h3 := nt (show (!placeB i.value) = false by with_reducible assumption)
     first
      | (have h4 := of_decide_eq_true (show decide (65535 < (getS x.items i.key).1.ver.count + 1) = true by with_reducible assumption)
         rw [wroteN_big h1 h2 h3 h4] <;> rfl)
      | (have h4 := of_decide_eq_false (show decide (65535 < (getS x.items i.key).1.ver.count + 1) = false by with_reducible assumption)
         first
          | (have h5 := of_decide_eq_false (nf (b := decide ((putI x.items (itW x i)).2 = 0)) aQ)
             rw [wroteN_full h1 h2 h3 h4 h5] <;> rfl)
          | (have h5 := of_decide_eq_true (nt (b := decide ((putI x.items (itW x i)).2 = 0)) aQ)
             rw [wroteN_yes h1 h2 h3 h4 h5] <;> rfl)))
theorem k_refWPut : Known Tryz.prog tau 30 (S3 dNode dInt dInt fun x k v => oWrote x ⟨k, ⟨0, 0⟩, v, false⟩) := by
 refine known3 hmix tau_ok (ctx_cons k_refWrote ctx_nil) (fn := Tryz.f30) (by kernel_rfl) [] (by kernel_rfl) _ _ _ _ fun x k v hfit => ⟨rfl, [], ?_⟩
 clear hfit
 refine V1 ?_; constructor <;> (first | (with_reducible exact TT.i) | (intros; (repeat (apply Wk.mk; intro Kv hN hX hR)); apply Wr.mk))
 all_goals (try simp only [etaNode] at *)
 all_goals first
  | rfl
theorem k_refTakeN : Known Tryz.prog tau 71 (S2 dNode dItem oTakeN) := by
 refine known2 hmix tau_ok (ctx_cons k_upMay (ctx_cons k_refItem (ctx_cons k_refCopyNode (ctx_cons k_refPut ctx_nil)))) (fn := Tryz.f71) (by kernel_rfl) [] (by kernel_rfl) _ _ _ fun x i hfit => ⟨rfl, [], ?_⟩
 clear hfit
 refine V1 ?_; constructor <;> (first | (with_reducible exact TT.i) | (intros; (repeat (apply Wk.mk; intro Kv hN hX hR)); apply Wr.mk))
 all_goals (try simp only [etaNode, etaItem] at *)
 all_goals first
  | (rw [takeN_no (.inl (nf aQ))] <;> rfl)
  | (rw [takeN_no (.inr (nf aQ))] <;> rfl)
  | (have h1 := nt (show (!(x.up && nodeB x)) = false by with_reducible assumption)
     have h2 := nt (show (!itemB i) = false by with_reducible assumption)
     first
      | (have h5 := of_decide_eq_true (show decide ((putI x.items i).2 = 0) = true by with_reducible assumption)
         rw [takeN_put h1 h2 h5] <;> rfl)
      | (have h5 := of_decide_eq_false (show decide ((putI x.items i).2 = 0) = false by with_reducible assumption)
         rw [takeN_not h1 h2 h5] <;> rfl))
end Go.Proofs.YtjjpakdlkjaigaaGreat

/- Contracts: the document's: getting, asking, telling. -/
namespace Go.Proofs.YtjjpakdlkjaigaaGreat
open Go.RowKit
set_option maxRecDepth 20000
set_option maxHeartbeats 4000000 in
theorem k_refNoted : Known Tryz.prog tau 126 (S4 dNode dInt dItem dBool fun x k i h => .ob (x.log.length ≤ 64) (.agg (nOwn3 (noteN x k i h))) (nRows3 (noteN x k i h))) := by
 refine known4 hmix tau_ok (ctx_cons k_refCopyNode ctx_nil) (fn := Tryz.f126) (by kernel_rfl) [] (by kernel_rfl) _ _ _ _ _ fun x k i h hfit hs => ⟨rfl, [], ?_⟩
 clear hfit
 have tl : ∀ t : GTold, (x.log ++ [t]).length = x.log.length + 1 := fun t => by simp
 have tk : ∀ t : GTold, (x.log ++ [t]).take (x.log.length + 1) = x.log ++ [t] := fun t => List.take_of_length_le (by simp)
 have n1 : ¬ 64 < x.log.length + 1 → noteL x k i h = x.log ++ [toldT k i h] := fun h1 => by
  unfold noteL
  rw [show x.log.length + 1 - 64 = 0 by omega, List.drop_zero]
 have n2 : 64 < x.log.length + 1 → noteL x k i h = (x.log ++ [toldT k i h]).drop 1 := fun h1 => by
  unfold noteL
  rw [show x.log.length + 1 - 64 = 1 by omega]
 refine V1 ?_; constructor <;> (first | (with_reducible exact TT.i) | (intros; (repeat (apply Wk.mk; intro Kv hN hX hR)); apply Wr.mk))
 all_goals (try simp only [etaNode, Int.toNat_natCast, List.nil_append, tl] at *)
 all_goals first
  | rfl
  | (refine Ob.mk ?_
     simp only [Rw.len, Rw.bts, Rw.kd, kdBytes, List.length_cons, List.length_nil]
     omega)
  | exact Ob.mk ⟨by omega, by omega, by omega⟩
  | (have h64 := of_decide_eq_true (show decide ((64 : Int) < ((x.log.length + 1 : Nat) : Int)) = true by with_reducible assumption)
     show Rw.tolds (List.drop _ (List.take _ _)) = Rw.tolds (noteL x k i h)
     rw [tk, n2 (by omega)]
     clear n1 n2
     refine congrArg (fun t : GTold => Rw.tolds (List.drop (Int.toNat 1) (x.log ++ [t]))) ?_
     unfold toldT
     split <;> simp_all)
  | (have h64 := of_decide_eq_false (show decide ((64 : Int) < ((x.log.length + 1 : Nat) : Int)) = false by with_reducible assumption)
     show Rw.tolds _ = Rw.tolds (noteL x k i h)
     rw [n1 (by omega)]
     clear n1 n2
     exact congrArg (fun t => Rw.tolds (x.log ++ [t])) (by unfold toldT; split <;> simp_all))
theorem toB_no {x : GNode} {m : GMsg} {k : Int} (h : (x.up && nodeB x) = false ∨ mayB m = false ∨ ¬ m.kind = k ∨ ¬ m.dst = x.view.id) : toB x m k = false := by
 unfold toB
 rcases h with h | h | h | h
 · rw [h]; rfl
 · rw [h]; simp
 · rw [decide_eq_false h]; simp
 · rw [decide_eq_false h]; simp
theorem toB_yes {x : GNode} {m : GMsg} {k : Int} (h1 : (x.up && nodeB x) = true) (h2 : mayB m = true) (h3 : m.kind = k) (h4 : m.dst = x.view.id) : toB x m k = true := by
 unfold toB
 rw [h1, h2, decide_eq_true h3, decide_eq_true h4]
 rfl
set_option maxHeartbeats 4000000 in
theorem k_refTold : Known Tryz.prog tau 73 (S2 dNode dMsg oToldN) := by
 refine known2 hmix tau_ok (ctx_cons k_upMay (ctx_cons k_refMsg (ctx_cons k_refNoted ctx_nil))) (fn := Tryz.f73) (by kernel_rfl) [] (by kernel_rfl) _ _ _ fun x m hfit => ⟨rfl, [], ?_⟩
 clear hfit
 refine V1 ?_; constructor <;> (first | (with_reducible exact TT.i) | (intros; (repeat (apply Wk.mk; intro Kv hN hX hR)); apply Wr.mk))
 all_goals (try simp only [etaNode, etaMsg, etaItem] at *)
 all_goals first
  | (rw [toldN_def, if_neg (by rw [toB_no (.inl (nf aQ))]; simp)] <;> rfl)
  | (rw [toldN_def, if_neg (by rw [toB_no (.inr (.inl (nf aQ)))]; simp)] <;> rfl)
  | (rw [toldN_def, if_neg (by rw [toB_no (.inr (.inr (.inl (of_decide_eq_false (nf (b := decide (m.kind = 3)) aQ)))))]; simp)] <;> rfl)
  | (rw [toldN_def, if_neg (by rw [toB_no (.inr (.inr (.inr (of_decide_eq_false (nf (b := decide (m.dst = x.view.id)) aQ)))))]; simp)] <;> rfl)
  | (have h1 := nt (show (!(x.up && nodeB x)) = false by with_reducible assumption)
     have h := toB_yes (k := 3) h1 (nt (show (!mayB m) = false by with_reducible assumption)) (of_decide_eq_true (nt (b := decide (m.kind = 3)) aQ)) (of_decide_eq_true (nt (b := decide (m.dst = x.view.id)) aQ))
     first
      | exact Ob.mk (node_log h1)
      | (rw [toldN_def, if_pos h] <;> rfl))
set_option maxHeartbeats 4000000 in
theorem k_refAnswer : Known Tryz.prog tau 72 (S2 dNode dMsg oAnswer) := by
 refine known2 hmix tau_ok (ctx_cons k_upMay (ctx_cons k_refMsg (ctx_cons k_refGet ctx_nil))) (fn := Tryz.f72) (by kernel_rfl) [] (by kernel_rfl) _ _ _ fun x m hfit => ⟨rfl, [], ?_⟩
 clear hfit
 refine V1 ?_; constructor <;> (first | (with_reducible exact TT.i) | (intros; (repeat (apply Wk.mk; intro Kv hN hX hR)); apply Wr.mk))
 all_goals (try simp only [etaNode, etaMsg, etaItem] at *)
 all_goals first
  | (rw [answerN_def, if_neg (by rw [toB_no (.inl (nf aQ))]; simp)] <;> rfl)
  | (rw [answerN_def, if_neg (by rw [toB_no (.inr (.inl (nf aQ)))]; simp)] <;> rfl)
  | (rw [answerN_def, if_neg (by rw [toB_no (.inr (.inr (.inl (of_decide_eq_false (nf (b := decide (m.kind = 2)) aQ)))))]; simp)] <;> rfl)
  | (rw [answerN_def, if_neg (by rw [toB_no (.inr (.inr (.inr (of_decide_eq_false (nf (b := decide (m.dst = x.view.id)) aQ)))))]; simp)] <;> rfl)
  | (have h1 := nt (show (!(x.up && nodeB x)) = false by with_reducible assumption)
     have h := toB_yes (k := 2) h1 (nt (show (!mayB m) = false by with_reducible assumption)) (of_decide_eq_true (nt (b := decide (m.kind = 2)) aQ)) (of_decide_eq_true (nt (b := decide (m.dst = x.view.id)) aQ))
     rw [answerN_def, if_pos h] <;> rfl)
end Go.Proofs.YtjjpakdlkjaigaaGreat

/- Plain law: what is put at a node stands there, and is told when it is its own. -/
namespace Go.Proofs.YtjjpakdlkjaigaaGreat
open Go.RowKit
theorem getS_at {l : List GItem} {j : Nat} {k : Int} (hs : storeB l = true) (hj : j < l.length) (hk : (l.getD j default).key = k) : getS l k = (l.getD j default, true) := by
 have e2 : l.countP (fun q => decide (q.key < k)) = j := (key_eq (x := ⟨k, ⟨0, 0⟩, 0, false⟩) (storeB_iff.1 hs).2.1 hj hk).2
 rw [getS_yes hs (hasK_at hj hk), e2]
theorem put_get {l : List GItem} {x : GItem} (hs : storeB l = true) (hx : itemB x = true) (hc : (getS l x.key).1.ver.count < x.ver.count) (h0 : (putI l x).2 = 0) : getS (putI l x).1 x.key = (x, true) := by
 have hs2 := putI_ok hs hx h0
 cases hh : hasK l x.key with
 | true =>
   have hn := cntK_at (storeB_iff.1 hs).2.1 hh
   have hg : (getS l x.key).1 = l.getD (l.countP fun i => decide (i.key < x.key)) default := by rw [getS_yes hs hh]
   rw [hg] at hc
   have hm := (storeB_iff.1 hs).2.2 _ (getD_mem (d := default) hn.1)
   have hb : bestI (l.getD (l.countP fun i => decide (i.key < x.key)) default) x = (x, 0) := by
    rw [bestI_yes hm hx hn.2, if_neg]
    unfold betterB newerB
    rw [if_neg (by omega)]
    simp only [Bool.or_eq_true, Bool.and_eq_true, decide_eq_true_eq]
    omega
   rw [putI_has hs hx hh, hb] at hs2 ⊢
   dsimp only at hs2 ⊢
   have e : (l.set (l.countP fun i => decide (i.key < x.key)) x).getD (l.countP fun i => decide (i.key < x.key)) default = x := by
    simp [List.getD_eq_getElem?_getD, hn.1]
   have h := getS_at (j := l.countP fun i => decide (i.key < x.key)) (k := x.key) hs2 (by rw [List.length_set]; exact hn.1) (by rw [e])
   rw [h, e]
 | false =>
   by_cases h16 : l.length = 16
   · rw [putI_full hs hx hh h16] at h0
     simp at h0
   · rw [putI_yes hs hx hh h16] at hs2 ⊢
     dsimp only at hs2 ⊢
     have hle : l.countP (fun i => decide (i.key < x.key)) ≤ l.length := List.countP_le_length
     generalize l.countP (fun i => decide (i.key < x.key)) = c at *
     have e : (l.take c ++ [x] ++ l.drop c).getD c default = x := by
      rw [List.getD_eq_getElem?_getD, List.append_assoc, List.getElem?_append_right (by rw [List.length_take]; omega), List.length_take, Nat.min_eq_left hle, Nat.sub_self]
      rfl
     have h := getS_at (j := c) (k := x.key) hs2 (by simp; omega) (by rw [e])
     rw [h, e]
theorem wrote_get {x : GNode} {i : GItem} (hx : (x.up && nodeB x) = true) (hk : placeB i.key = true) (hv : placeB i.value = true) (hg : i.gone = true → i.value = 0) (h0 : (wroteN x i).2 = 0) :
  getS (wroteN x i).1.items i.key = (itW x i, true) ∧ (wroteN x i).1.log = x.log := by
 obtain ⟨hu, hb⟩ := up_iff.1 hx
 by_cases h1 : 65535 < (getS x.items i.key).1.ver.count + 1
 · rw [wroteN_big hx hk hv h1] at h0; simp at h0
 · by_cases h2 : (putI x.items (itW x i)).2 = 0
   · rw [wroteN_yes hx hk hv h1 h2]
     have hst := (nodeB_iff.1 hb).2.1
     have hi : itemB (itW x i) = true := by
      cases e : itemB (itW x i) with
      | true => rfl
      | false => rw [putI_no (.inr e)] at h2; simp at h2
     refine ⟨?_, rfl⟩
     exact put_get (x := itW x i) hst hi (show (getS x.items i.key).1.ver.count < (getS x.items i.key).1.ver.count + 1 by omega) h2
   · rw [wroteN_full hx hk hv h1 h2] at h0; simp at h0
section
variable {w : GWorld} {k : Nat} (hw : worldB w = true) (hk : k < w.nodes.length) {ky vl : Int} (h1 : placeB ky = true) (h2 : placeB vl = true)
include hw hk
theorem at_nd : RisingN w.nodes ∧ ndX w.nodes (w.nodes.getD k default).view.id = k ∧ isNd w.nodes (w.nodes.getD k default).view.id = true ∧ ndAt w.nodes (w.nodes.getD k default).view.id = w.nodes.getD k default := by
 have hr := base_rising (worldB_base.1 hw).1
 have hx : ndX w.nodes (w.nodes.getD k default).view.id = k := ndX_of hr hk
 exact ⟨hr, hx, isNd_mem (getD_mem hk), by unfold ndAt; rw [hx]⟩
include h1 h2
theorem put_act : actB w ⟨8, (w.nodes.getD k default).view.id, 0, 0, [], ky, vl⟩ = true := by
 have h := (at_nd hw hk).2.2.1
 unfold actB
 rw [if_neg (by simp), if_neg (by simp)]
 simp only [h, h1, h2, Bool.true_and]
 rfl
theorem put_no (h0 : ¬ (wroteN (w.nodes.getD k default) ⟨ky, ⟨0, 0⟩, vl, false⟩).2 = 0) : doW w ⟨8, (w.nodes.getD k default).view.id, 0, 0, [], ky, vl⟩ = (w, 0) := by
 have h := at_nd hw hk
 refine do8_no hw (put_act hw hk h1 h2) rfl ?_
 rw [h.2.2.2]
 exact h0
theorem put_yes (h0 : (wroteN (w.nodes.getD k default) ⟨ky, ⟨0, 0⟩, vl, false⟩).2 = 0) : doW w ⟨8, (w.nodes.getD k default).view.id, 0, 0, [], ky, vl⟩ = (⟨w.nodes.set k (wroteN (w.nodes.getD k default) ⟨ky, ⟨0, 0⟩, vl, false⟩).1, w.cuts, w.packets⟩, 0) ∧
  worldB ⟨w.nodes.set k (wroteN (w.nodes.getD k default) ⟨ky, ⟨0, 0⟩, vl, false⟩).1, w.cuts, w.packets⟩ = true := by
 have h := at_nd hw hk
 have ha := put_act hw hk h1 h2
 have e := do8_yes hw ha rfl (by rw [h.2.2.2]; exact h0)
 dsimp only at e
 rw [h.2.2.2] at e
 unfold setNd at e
 rw [h.2.1] at e
 have hm := step_may hw ha
 rw [doW_yes hw ha] at e
 have e2 := congrArg Prod.fst e
 dsimp only at e2
 rw [e2] at hm
 exact ⟨by rw [doW_yes hw ha, e2], hm⟩
end
theorem get_do {w : GWorld} {k : Nat} {ky : Int} (hw : worldB w = true) (hk : k < w.nodes.length) (h1 : placeB ky = true) (hu : (w.nodes.getD k default).up = true) :
  doW w ⟨10, (w.nodes.getD k default).view.id, 0, 0, [], ky, 0⟩ = (⟨w.nodes.set k (askN (w.nodes.getD k default) ky).1, w.cuts, w.packets ++ (askN (w.nodes.getD k default) ky).2.1.take (512 - w.packets.length)⟩, 0) := by
 obtain ⟨hr, hx, hid, hat⟩ := at_nd hw hk
 have ha : actB w ⟨10, (w.nodes.getD k default).view.id, 0, 0, [], ky, 0⟩ = true := by
  unfold actB
  rw [if_neg (by simp), if_neg (by simp)]
  simp only [hid, h1, Bool.true_and]
  rfl
 refine do_of hw ha ?_
 rw [actW_10 rfl]
 dsimp only
 rw [hat, if_pos hu]
 unfold turnW sendP setNd
 rw [hx]
theorem note_last {x : GNode} {k : Int} {i : GItem} (hl : x.log.length ≤ 64) (hg : i.gone = false) : (noteN x k i true).log = x.log.drop (x.log.length + 1 - 64) ++ [⟨k, true, i.value⟩] := by
 have e : toldT k i true = ⟨k, true, i.value⟩ := by
  unfold toldT
  rw [hg]
  rfl
 show (x.log ++ [toldT k i true]).drop (x.log.length + 1 - 64) = _
 rw [e, List.drop_append_of_le_length (by omega)]
theorem put_asked {x : GNode} {ky vl : Int} (hx : (x.up && nodeB x) = true) (h1 : placeB ky = true) (h2 : placeB vl = true) (h0 : (wroteN x ⟨ky, ⟨0, 0⟩, vl, false⟩).2 = 0) :
  ((askN (wroteN x ⟨ky, ⟨0, 0⟩, vl, false⟩).1 ky).2.1 = [] ∧ ∃ L, L.length ≤ 64 ∧ (askN (wroteN x ⟨ky, ⟨0, 0⟩, vl, false⟩).1 ky).1.log = L ++ [⟨ky, true, vl⟩]) ∨
  (∃ m, (askN (wroteN x ⟨ky, ⟨0, 0⟩, vl, false⟩).1 ky).2.1 = [m]) ∧ (askN (wroteN x ⟨ky, ⟨0, 0⟩, vl, false⟩).1 ky).1 = (wroteN x ⟨ky, ⟨0, 0⟩, vl, false⟩).1 := by
 obtain ⟨f1, f2, f3⟩ := wrote_facts (i := ⟨ky, ⟨0, 0⟩, vl, false⟩) hx h1 h2 (by simp) h0
 obtain ⟨g1, g2⟩ := wrote_get (i := ⟨ky, ⟨0, 0⟩, vl, false⟩) hx h1 h2 (by simp) h0
 have hy : ((wroteN x ⟨ky, ⟨0, 0⟩, vl, false⟩).1.up && nodeB (wroteN x ⟨ky, ⟨0, 0⟩, vl, false⟩).1) = true := up_iff.2 ⟨f3, f1⟩
 have hlog := node_log hy
 rw [askN_def, if_pos ⟨hy, h1⟩]
 split
 · left
   refine ⟨rfl, (wroteN x ⟨ky, ⟨0, 0⟩, vl, false⟩).1.log.drop ((wroteN x ⟨ky, ⟨0, 0⟩, vl, false⟩).1.log.length + 1 - 64), by rw [List.length_drop]; omega, ?_⟩
   dsimp only at g1 ⊢
   rw [g1]
   exact note_last hlog rfl
 · right
   exact ⟨⟨_, rfl⟩, rfl⟩
theorem set_at {l : List GNode} {k : Nat} (hk : k < l.length) (x : GNode) : (l.set k x).getD k default = x := by simp [List.getD_eq_getElem?_getD, hk]
theorem get_put {w : GWorld} {k : Nat} {ky vl : Int} (hw : worldB w = true) (hk : k < w.nodes.length) (h1 : placeB ky = true) (h2 : placeB vl = true) (h0 : (wroteN (w.nodes.getD k default) ⟨ky, ⟨0, 0⟩, vl, false⟩).2 = 0) :
  ∃ N P, doW ⟨w.nodes.set k (wroteN (w.nodes.getD k default) ⟨ky, ⟨0, 0⟩, vl, false⟩).1, w.cuts, w.packets⟩ ⟨10, (w.nodes.getD k default).view.id, 0, 0, [], ky, 0⟩ = (⟨w.nodes.set k N, w.cuts, P⟩, 0) ∧
   ((P = w.packets ∧ ∃ L, L.length ≤ 64 ∧ N.log = L ++ [⟨ky, true, vl⟩]) ∨ (N = (wroteN (w.nodes.getD k default) ⟨ky, ⟨0, 0⟩, vl, false⟩).1 ∧ (P.length = w.packets.length + 1 ∨ w.packets.length = 512))) := by
 obtain ⟨hr, hx, hid, hat⟩ := at_nd hw hk
 have hb := (nodesB_iff.1 (baseB_iff.1 (worldB_base.1 hw).1).1).2.2.2 _ (getD_mem (d := default) hk)
 have hup := wrote_up h0
 have hup2 := up_iff.2 ⟨hup, hb⟩
 obtain ⟨f1, f2, f3⟩ := wrote_facts (i := ⟨ky, ⟨0, 0⟩, vl, false⟩) hup2 h1 h2 (by simp) h0
 have hA := (put_yes hw hk h1 h2 h0).2
 have hs := set_at hk (wroteN (w.nodes.getD k default) ⟨ky, ⟨0, 0⟩, vl, false⟩).1
 have hg := get_do (k := k) (ky := ky) hA (by simpa using hk) h1 (by dsimp only; rw [hs]; exact f3)
 dsimp only at hg
 rw [hs, f2, List.set_set] at hg
 refine ⟨_, _, hg, ?_⟩
 rcases put_asked hup2 h1 h2 h0 with ⟨e1, e2⟩ | ⟨⟨m, e1⟩, e2⟩
 · left
   rw [e1]
   exact ⟨by simp, e2⟩
 · right
   refine ⟨e2, ?_⟩
   rw [e1]
   by_cases h5 : w.packets.length = 512
   · exact .inr h5
   · have := (worldB_base.1 hw).2.1
     left
     rw [List.take_of_length_le (by simp; omega)]
     simp
end Go.Proofs.YtjjpakdlkjaigaaGreat

/- Chapter 24: what is put at a node. -/
namespace Go.Proofs.YtjjpakdlkjaigaaGreat
open Go.RowKit
set_option maxRecDepth 20000
noncomputable def oWroteL (x : GNode) (i : GItem) : Out := .ok (.tup [.agg [.bool (wroteN x i).1.up, .int .i64 (wroteN x i).1.view.id, .row .new (.peers (wroteN x i).1.view.peers), .row .new (.ints (wroteN x i).1.view.passive), .row .new (.items (wroteN x i).1.items), .row .new (.tolds (wroteN x i).1.log)], .int .i64 (wroteN x i).2]) []
theorem k_refWPutL : Known Tryz.prog tau 30 (S3 dNode dInt dInt fun x k v => oWroteL x ⟨k, ⟨0, 0⟩, v, false⟩) := loose3 k_refWPut fun _ _ _ => rfl
set_option maxHeartbeats 8000000 in
theorem k_ActPuts : Known Tryz.prog tau 9 (S4 dWorld dInt dInt dInt fun w x ky vl => okB true) := by
 refine known4 hmix tau_ok (ctx_cons k_awake24 (ctx_cons k_refWorldMay (ctx_cons k_actDoL (ctx_cons k_refWPutL (ctx_cons k_Num (ctx_cons k_SameNode (ctx_cons k_SameWorld ctx_nil))))))) (fn := Tryz.f9) (by kernel_rfl) [(14, [(0, 0), (1, 1), (2, 0), (3, 6), (4, 8), (5, 0), (6, 48), (7, 64), (8, 192), (9, 256), (10, 768), (11, 1280), (12, 2304), (13, 5120), (14, 8192), (15, 24576), (16, 40960), (17, 8192), (18, 139264), (19, 270336), (20, 598016), (21, 1056768)]), (17, [(0, 0), (1, 1), (2, 0), (3, 6), (4, 8), (5, 0), (6, 48), (7, 64), (8, 128), (9, 384), (10, 640), (11, 1152), (12, 2176), (13, 8191)])] (by kernel_rfl) _ _ _ _ _ fun w x ky vl hfit => ⟨rfl, [], ?_⟩
 clear hfit
 cases hw : worldB w with
 | false =>
   refine V3 ?_; constructor <;> (first | (with_reducible exact TT.i) | (intros; (repeat (apply Wk.mk; intro Kv hN hX hR)); apply Wr.mk))
   all_goals (try simp only [etaWorld, hw] at *)
   all_goals first
    | exact absurd (show (!true) = true by with_reducible assumption) (by decide)
    | exact absurd (show (!false) = false by with_reducible assumption) (by decide)
    | rfl
 | true =>
   have hb := nodesB_iff.1 (baseB_iff.1 (worldB_base.1 hw).1).1
   have hl1 : 1 ≤ w.nodes.length := hb.1
   have hl2 : w.nodes.length ≤ 8 := hb.2.1
   have hp5 := (worldB_base.1 hw).2.1
   obtain ⟨k, hk, hkl⟩ : ∃ k : Nat, IntKind.i64.wrap ((IntKind.u64.wrap x).tmod (IntKind.u64.wrap (w.nodes.length : Int))) = (k : Int) ∧ k < w.nodes.length := ⟨_, pk_eq _ (by omega) (by omega), pk_lt _ (by omega)⟩
   have hu : IntKind.u64.wrap (w.nodes.length : Int) ≠ 0 := by rw [wu64]; omega
   by_cases h0 : (wroteN (w.nodes.getD k default) ⟨bits .and .i64 ky 255, ⟨0, 0⟩, bits .and .i64 vl 255, false⟩).2 = 0
   · obtain ⟨N, P, e, hc⟩ := get_put hw hkl (placeB_255 ky) (placeB_255 vl) h0
     have e0 := (put_yes hw hkl (placeB_255 ky) (placeB_255 vl) h0).1
     have s1 := fun y => set_at hkl y
     rcases hc with ⟨rfl, L, hL1, hL⟩ | ⟨rfl, hP | hP⟩
     all_goals
      refine V3 ?_; constructor <;> (first | (with_reducible exact TT.i) | (intros; (repeat (apply Wk.mk; intro Kv hN hX hR)); apply Wr.mk))
     all_goals (try simp only [etaWorld, etaNd, hk, Int.toNat_natCast, Int.toNat_zero, e0, e, s1, List.length_set, h0] at *)
     all_goals first
      | exact absurd (show (!true) = true by with_reducible assumption) (by decide)
      | exact absurd (show (!decide True) = true by with_reducible assumption) (by decide)
      | exact absurd (show decide True = false by with_reducible assumption) (by decide)
      | exact Ob.mk hu
      | (refine Ob.mk ⟨by omega, ?_⟩
         omega)
      | rfl
      | exact decide_eq_true (of_decide_eq_true (show decide ((w.packets.length : Int) = 512) = true by with_reducible assumption))
      | (exfalso
         have h := of_decide_eq_true (show decide ((w.packets.length : Int) < (w.packets.length : Nat)) = true by with_reducible assumption)
         omega)
      | (exfalso
         have h := of_decide_eq_false (show decide ((w.packets.length : Int) = 512) = false by with_reducible assumption)
         omega)
      | (exfalso
         have h := of_decide_eq_false (show decide ((w.packets.length : Int) < (P.length : Nat)) = false by with_reducible assumption)
         omega)
      | (have hn : N.log.length = L.length + 1 := by rw [hL]; simp
         have w1 : IntKind.i64.wrap ((N.log.length : Int) - 1) = (L.length : Int) := by rw [wrapI (by omega) (by omega)]; omega
         first
          | (rw [w1]
             exact Ob.mk ⟨by omega, by omega⟩)
          | (exfalso
             have h := of_decide_eq_false (show decide ((0 : Int) < (N.log.length : Nat)) = false by with_reducible assumption)
             omega)
          | (rw [w1, hL]
             simp [List.getD_eq_getElem?_getD]
             done))
   · have e0 := put_no hw hkl (placeB_255 ky) (placeB_255 vl) h0
     refine V3 ?_; constructor <;> (first | (with_reducible exact TT.i) | (intros; (repeat (apply Wk.mk; intro Kv hN hX hR)); apply Wr.mk))
     all_goals (try simp only [etaWorld, etaNd, hk, Int.toNat_natCast, Int.toNat_zero, e0, List.length_set] at *)
     all_goals first
      | exact absurd (show (!true) = true by with_reducible assumption) (by decide)
      | exact absurd (show (!decide True) = true by with_reducible assumption) (by decide)
      | exact Ob.mk hu
      | (refine Ob.mk ⟨by omega, ?_⟩
         omega)
      | (exfalso
         have h := of_decide_eq_true (nt (b := decide ((wroteN (w.nodes.getD k default) ⟨bits .and .i64 ky 255, ⟨0, 0⟩, bits .and .i64 vl 255, false⟩).2 = 0)) aQ)
         exact h0 h)
      | (simp; done)
      | rfl
end Go.Proofs.YtjjpakdlkjaigaaGreat
