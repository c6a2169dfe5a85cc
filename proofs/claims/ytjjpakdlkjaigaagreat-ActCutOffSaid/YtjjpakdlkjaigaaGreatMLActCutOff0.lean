/- A part of the proof of ActCutOff: P7, F5p, F5r, F19d, R24a, R24b, R24c, R24d, R24e, R24f, P24e, H24a, P24f, H24g. -/
import Derived.Test.YtjjpakdlkjaigaaGreatMB12
set_option linter.all false
set_option linter.unusedVariables false
set_option linter.unusedSimpArgs false
set_option linter.unusedSectionVars false
/- Plain law: a row into which something is put, told up to a place. -/
namespace Go.Proofs.YtjjpakdlkjaigaaGreat
def insO {α : Type} (l : List α) (c : Nat) (mid : List α) (s i : Nat) : List α := if c < i then l.take c ++ mid ++ (l.take i).drop (c + s) else l.take i
theorem take_one {α : Type} {l : List α} {i : Nat} {d : α} (h : i < l.length) : l.take (i + 1) = l.take i ++ [l.getD i d] := by
 rw [List.take_succ_eq_append_getElem h]
 simp [List.getD_eq_getElem?_getD, h]
theorem insO_lt {α : Type} {l : List α} {c s i : Nat} {mid : List α} {d : α} (h : i < c) (hi : i < l.length) : insO l c mid s (i + 1) = insO l c mid s i ++ [l.getD i d] := by
 unfold insO
 rw [if_neg (by omega), if_neg (by omega), take_one hi]
theorem insO_gt {α : Type} {l : List α} {c s i : Nat} {mid : List α} {d : α} (h : c < i) (hs : s ≤ 1) (hi : i < l.length) : insO l c mid s (i + 1) = insO l c mid s i ++ [l.getD i d] := by
 unfold insO
 rw [if_pos (by omega), if_pos h, take_one (d := d) hi, List.drop_append_of_le_length (by simp; omega), List.append_assoc, List.append_assoc, List.append_assoc]
theorem insO_eq1 {α : Type} {l : List α} {c : Nat} {mid : List α} (hi : c < l.length) : insO l c mid 1 (c + 1) = insO l c mid 1 c ++ mid := by
 unfold insO
 rw [if_pos (by omega), if_neg (by omega), List.drop_eq_nil_of_le (by simp; omega), List.append_nil]
theorem insO_eq0 {α : Type} {l : List α} {c : Nat} {mid : List α} {d : α} (hi : c < l.length) : insO l c mid 0 (c + 1) = insO l c mid 0 c ++ mid ++ [l.getD c d] := by
 unfold insO
 rw [if_pos (by omega), if_neg (by omega), take_one (d := d) hi, List.drop_append_of_le_length (by simp; omega), List.drop_eq_nil_of_le (by simp; omega), List.nil_append]
theorem insO_end {α : Type} {l : List α} {c s : Nat} {mid : List α} (h : c < l.length) : insO l c mid s l.length = l.take c ++ mid ++ l.drop (c + s) := by
 unfold insO
 rw [if_pos h, List.take_of_length_le (Nat.le_refl _)]
theorem insO_no {α : Type} {l : List α} {c s : Nat} {mid : List α} (h : l.length ≤ c) : insO l c mid s l.length = l := by
 unfold insO
 rw [if_neg (by omega), List.take_of_length_le (Nat.le_refl _)]
theorem insO_len {α : Type} (l : List α) (c s i : Nat) (mid : List α) : (insO l c mid s i).length ≤ l.length + mid.length := by
 unfold insO
 split
 · simp
   omega
 · simp
   omega
theorem insO_zero {α : Type} (l : List α) (c s : Nat) (mid : List α) : insO l c mid s 0 = [] := by
 unfold insO
 rw [if_neg (by omega)]
 rfl
theorem set_ins {α : Type} {l : List α} {c : Nat} {x : α} (h : c < l.length) : l.take c ++ [x] ++ l.drop (c + 1) = l.set c x := by
 rw [List.set_eq_take_append_cons_drop, if_pos h]
 simp
end Go.Proofs.YtjjpakdlkjaigaaGreat

/- Contracts: items by key: the document's. -/
namespace Go.Proofs.YtjjpakdlkjaigaaGreat
open Go.RowKit
theorem cnt_iff {α : Type} {d : α} (κ : α → Int) {l : List α} {K : Int} {t : Nat} (h : l.Pairwise fun a b => κ a < κ b) (ht : t < l.length) : κ (l.getD t d) < K ↔ t < l.countP fun y => decide (κ y < K) := by
 have hc := cnt_splitK κ (K := K) h
 have e : l.getD t d = l[t] := by simp [List.getD_eq_getElem?_getD, ht]
 rw [e]
 constructor
 · intro h1
   by_cases h2 : t < l.countP fun y => decide (κ y < K)
   · exact h2
   · have := hc.2 l[t] (by
      rw [List.mem_drop_iff_getElem]
      exact ⟨t - l.countP (fun y => decide (κ y < K)), by omega, by congr 1; omega⟩)
     omega
 · intro h1
   exact hc.1 l[t] (by
    rw [List.mem_take_iff_getElem]
    exact ⟨t, by omega, rfl⟩)
noncomputable def midS (l : List GItem) (x : GItem) : List GItem := if hasK l x.key = true then [(bestI (l.getD (l.countP fun i => decide (i.key < x.key)) default) x).1] else [x]
noncomputable def sS (l : List GItem) (x : GItem) : Nat := if hasK l x.key = true then 1 else 0
noncomputable def outS (l : List GItem) (x : GItem) (i : Nat) : List GItem := Classical.choose (seal_ex (insO l (l.countP fun i => decide (i.key < x.key)) (midS l x) (sS l x) i))
theorem outS_def (l : List GItem) (x : GItem) (i : Nat) : outS l x i = insO l (l.countP fun i => decide (i.key < x.key)) (midS l x) (sS l x) i := Classical.choose_spec (seal_ex _)
theorem outS_zero (l : List GItem) (x : GItem) : outS l x 0 = [] := by rw [outS_def]; exact insO_zero ..
theorem outS_len (l : List GItem) (x : GItem) (i : Nat) : (outS l x i).length ≤ l.length + 1 := by
 have h1 := insO_len l (l.countP fun i => decide (i.key < x.key)) (sS l x) i (midS l x)
 have h2 : (midS l x).length = 1 := by unfold midS; split <;> rfl
 rw [h2] at h1
 rw [outS_def]
 exact h1
section
variable {l : List GItem} {x : GItem} {i : Nat} (hs : RisingK l) (hi : i < l.length)
include hs hi
theorem key_iff : (l.getD i default).key < x.key ↔ i < l.countP fun i => decide (i.key < x.key) := cnt_iff (fun i : GItem => i.key) (risingK_iff.1 hs) hi
theorem key_eq (h : (l.getD i default).key = x.key) : hasK l x.key = true ∧ l.countP (fun i => decide (i.key < x.key)) = i := by
 have h1 : hasK l x.key = true := List.any_eq_true.2 ⟨_, getD_mem (d := default) hi, decide_eq_true h⟩
 obtain ⟨h2, h3⟩ := cntK_at hs h1
 refine ⟨h1, ?_⟩
 rcases Nat.lt_trichotomy (l.countP fun i => decide (i.key < x.key)) i with h4 | h4 | h4
 · have := hs _ i h4 hi
   omega
 · exact h4
 · have := hs i _ h4 h2
   omega
theorem outS_lt (h : (l.getD i default).key < x.key) : outS l x (i + 1) = outS l x i ++ [l.getD i default] := by
 rw [outS_def, outS_def]
 exact insO_lt ((key_iff hs hi).1 h) hi
theorem outS_gt (h : l.countP (fun i => decide (i.key < x.key)) < i) : outS l x (i + 1) = outS l x i ++ [l.getD i default] := by
 rw [outS_def, outS_def]
 exact insO_gt h (by unfold sS; split <;> omega) hi
theorem outS_eq (h : (l.getD i default).key = x.key) : outS l x (i + 1) = outS l x i ++ [(bestI (l.getD i default) x).1] := by
 obtain ⟨h1, h2⟩ := key_eq hs hi h
 rw [outS_def, outS_def]
 rw [show sS l x = 1 by unfold sS; rw [if_pos h1], show midS l x = [(bestI (l.getD i default) x).1] by unfold midS; rw [if_pos h1, h2]]
 subst h2
 exact insO_eq1 hi
theorem outS_new (h : x.key < (l.getD i default).key) (h2 : ¬ l.countP (fun i => decide (i.key < x.key)) < i) : outS l x (i + 1) = outS l x i ++ [x] ++ [l.getD i default] ∧ l.countP (fun i => decide (i.key < x.key)) = i := by
 have h3 : ¬ i < l.countP (fun i => decide (i.key < x.key)) := fun h3 => by
  have := (key_iff hs hi).2 h3
  omega
 have h4 : l.countP (fun i => decide (i.key < x.key)) = i := by omega
 have h1 : hasK l x.key = false := by
  cases h1 : hasK l x.key with
  | false => rfl
  | true =>
    have := (cntK_at hs h1).2
    rw [h4] at this
    omega
 refine ⟨?_, h4⟩
 rw [outS_def, outS_def]
 rw [show sS l x = 0 by unfold sS; rw [h1]; rfl, show midS l x = [x] by unfold midS; rw [h1]; rfl]
 rw [h4]
 exact insO_eq0 hi
end
theorem outS_end {l : List GItem} {x : GItem} (hs : RisingK l) : putU l x = if l.countP (fun i => decide (i.key < x.key)) < l.length then outS l x l.length else outS l x l.length ++ [x] := by
 have hc : l.countP (fun i => decide (i.key < x.key)) ≤ l.length := List.countP_le_length
 rw [outS_def]
 unfold putU
 cases h1 : hasK l x.key with
 | true =>
   obtain ⟨h2, h3⟩ := cntK_at hs h1
   rw [if_pos rfl, if_pos h2, insO_end h2, show sS l x = 1 by unfold sS; rw [h1]; rfl, show midS l x = [(bestI (l.getD (l.countP fun i => decide (i.key < x.key)) default) x).1] by unfold midS; rw [h1]; rfl, set_ins h2]
 | false =>
   rw [if_neg (by simp), show sS l x = 0 by unfold sS; rw [h1]; rfl, show midS l x = [x] by unfold midS; rw [h1]; rfl]
   split
   · rename_i h2
     rw [insO_end h2]
     rfl
   · rename_i h2
     rw [insO_no (by omega), List.drop_eq_nil_of_le (by omega), List.take_of_length_le (by omega), List.append_nil]
theorem putU_len {l : List GItem} {x : GItem} (h : hasK l x.key = true ∨ True) : (putU l x).length = l.length + (if hasK l x.key = true then 0 else 1) := by
 unfold putU
 split
 · simp
 · rw [len_insK]
theorem putI_len {l : List GItem} {x : GItem} (h1 : storeB l = true) (h2 : itemB x = true) : putI l x = if 16 < (putU l x).length then ([], 501) else (putU l x, 0) := by
 have h16 := (storeB_iff.1 h1).1
 have hl := putU_len (l := l) (x := x) (.inr trivial)
 rw [putI_def, if_pos ⟨h1, h2⟩]
 cases hh : hasK l x.key with
 | true =>
   rw [hh] at hl
   rw [if_pos rfl, if_neg (by rw [hl, if_pos rfl]; omega)]
 | false =>
   rw [hh] at hl
   rw [if_neg (by simp)]
   rw [if_neg (by simp)] at hl
   by_cases h3 : l.length = 16
   · rw [if_pos h3, if_pos (by omega)]
   · rw [if_neg h3, if_neg (by omega)]
end Go.Proofs.YtjjpakdlkjaigaaGreat

/- Contracts: items by key: the document's. -/
namespace Go.Proofs.YtjjpakdlkjaigaaGreat
open Go.RowKit
set_option maxRecDepth 20000
set_option maxHeartbeats 4000000 in
theorem k_refPut : Known Tryz.prog tau 124 (S2 dItems dItem oPutS) := by
 refine known2 hmix tau_ok (ctx_cons k_refStore (ctx_cons k_refItem (ctx_cons k_refBest ctx_nil))) (fn := Tryz.f124) (by kernel_rfl) [(8, [(0, 0), (1, 1), (2, 2), (3, 4), (4, 4), (5, 28), (6, 36), (7, 68), (8, 4), (9, 260), (10, 644), (11, 1028)]), (11, [(0, 0), (1, 0), (2, 3), (3, 4), (4, 8), (5, 0), (6, 32), (7, 80)]), (12, [(0, 0), (1, 0), (2, 3), (3, 4), (4, 0), (5, 24), (6, 32), (7, 64), (8, 64), (9, 0), (10, 767), (11, 2047)])] (by kernel_rfl) _ _ _ fun l x hfit => ⟨rfl,
  [(6, invA Nat [(6, 40, 4)] (6 :: 7 :: 8 :: 9 :: 10 :: 19 :: 20 :: 21 :: 22 :: 23 :: 24 :: 25 :: 26 :: 27 :: 28 :: 29 :: 30 :: 31 :: 32 :: 33 :: 34 :: 35 :: 36 :: 37 :: 38 :: 39 :: 40 :: 41 :: 42 :: 43 :: 44 :: 45 :: 46 :: 47 :: 48 :: 49 :: 50 :: 51 :: 52 :: 53 :: 54 :: 55 :: 56 :: 57 :: 58 :: 59 :: 60 :: 61 :: 62 :: 63 :: 64 :: 65 :: 66 :: 67 :: 68 :: []) [40] (fun i => i ≤ l.length) (fun i => fun st => withS [(8, .int .i64 i), (7, .bool (decide (l.countP (fun i => decide (i.key < x.key)) < i))), (6, .own 40)] (withR [(40, .own (.items (outS l x i)))] st)) (fun i => l.length - i))], ?_⟩
 have hlen : l.length * 40 ≤ 140737488355328 := hfit.1
 clear hfit
 refine V4 ?_; constructor <;> (first | (with_reducible exact TT.i) | (intros; (repeat (apply Wk.mk; intro Kv hN hX hR)); apply Wr.mk))
 all_goals (try simp only [etaItem] at *)
 all_goals first
  | (rw [putI_no (.inl (nf aQ))] <;> rfl)
  | (rw [putI_no (.inr (nf aQ))] <;> rfl)
  | (refine ⟨0, Nat.zero_le _, ?_⟩
     have e0 := outS_zero l x
     refine V1 ?_; constructor <;> (first | (with_reducible exact TT.i) | (intros; (repeat (apply Wk.mk; intro Kv hN hX hR)); apply Wr.mk))
     all_goals first
      | rfl
      | with_reducible exact congrArg Rw.items e0.symm
      | exact congrArg Rw.items e0.symm)
  | (with_reducible intro i hi
     have hi : i ≤ l.length := hi
     have h1 := nt (show (!storeB l) = false by with_reducible assumption)
     have h2 := nt (show (!itemB x) = false by with_reducible assumption)
     have h16 := (storeB_iff.1 h1).1
     have hs := (storeB_iff.1 h1).2.1
     refine V3 ?_; constructor <;> (first | (with_reducible exact TT.i) | (intros; (repeat (apply Wk.mk; intro Kv hN hX hR)); apply Wr.mk))
     all_goals first
      | exact Ob.mk ⟨by omega, of_decide_eq_true aQ⟩
      | skip
     all_goals (try simp only [Int.toNat_natCast, etaItem, decide_eq_true_eq, decide_eq_false_iff_not, Bool.not_eq_true', Bool.not_eq_false'] at *)
     all_goals first
      | (with_reducible refine Ob.mk ?_
         have g1 := outS_len l x i
         simp only [Rw.len, Rw.bts, Rw.kd, kdBytes, List.length_cons, List.length_nil, List.length_append]
         clear hs h1 h2
         omega)
      | (have hlt : i < l.length := by omega
         first
          | (have hk : (l.getD i default).key = x.key := by with_reducible assumption
             have e1 := outS_eq hs hlt hk
             have e2 := (key_eq hs hlt hk).2
             have e3 : decide (l.countP (fun i => decide (i.key < x.key)) < i + 1) = true := decide_eq_true (by omega)
             first
              | (exfalso; omega)
              | (refine ⟨i + 1, by show i + 1 ≤ l.length; omega, by show l.length - (i + 1) < l.length - i; omega, ?_⟩
                 refine V1 ?_; constructor <;> (first | (with_reducible exact TT.i) | (intros; (repeat (apply Wk.mk; intro Kv hN hX hR)); apply Wr.mk))
                 all_goals first
                  | exact wrapI (by omega) (by omega)
                  | with_reducible exact congrArg Rw.items e1.symm
                  | with_reducible exact e3
                  | with_reducible exact e3.symm
                  | rfl))
          | (have hk : ¬ (l.getD i default).key = x.key := by with_reducible assumption
             first
              | (have hg : x.key < (l.getD i default).key := by with_reducible assumption
                 have hc : ¬ l.countP (fun i => decide (i.key < x.key)) < i := by with_reducible assumption
                 have e1 := outS_new hs hlt hg hc
                 have e3 : decide (l.countP (fun i => decide (i.key < x.key)) < i + 1) = true := decide_eq_true (by omega)
                 refine ⟨i + 1, by show i + 1 ≤ l.length; omega, by show l.length - (i + 1) < l.length - i; omega, ?_⟩
                 refine V1 ?_; constructor <;> (first | (with_reducible exact TT.i) | (intros; (repeat (apply Wk.mk; intro Kv hN hX hR)); apply Wr.mk))
                 all_goals first
                  | exact wrapI (by omega) (by omega)
                  | with_reducible exact congrArg Rw.items e1.1.symm
                  | with_reducible exact e3
                  | with_reducible exact e3.symm
                  | rfl)
              | (have hg : ¬ x.key < (l.getD i default).key := by with_reducible assumption
                 have hlt2 : (l.getD i default).key < x.key := by omega
                 have e1 := outS_lt hs hlt hlt2
                 have h4 := (key_iff hs hlt).1 hlt2
                 have e3 : decide (l.countP (fun i => decide (i.key < x.key)) < i + 1) = decide (l.countP (fun i => decide (i.key < x.key)) < i) := decide_eq_decide.2 ⟨fun h => by omega, fun h => by omega⟩
                 refine ⟨i + 1, by show i + 1 ≤ l.length; omega, by show l.length - (i + 1) < l.length - i; omega, ?_⟩
                 refine V1 ?_; constructor <;> (first | (with_reducible exact TT.i) | (intros; (repeat (apply Wk.mk; intro Kv hN hX hR)); apply Wr.mk))
                 all_goals first
                  | exact wrapI (by omega) (by omega)
                  | with_reducible exact congrArg Rw.items e1.symm
                  | with_reducible exact e3
                  | with_reducible exact e3.symm
                  | with_reducible exact e3.symm
                  | rfl)
              | (have hc : l.countP (fun i => decide (i.key < x.key)) < i := by with_reducible assumption
                 have e1 := outS_gt hs hlt hc
                 have e3 : decide (l.countP (fun i => decide (i.key < x.key)) < i + 1) = true := decide_eq_true (by omega)
                 have e4 : decide (l.countP (fun i => decide (i.key < x.key)) < i) = true := decide_eq_true hc
                 refine ⟨i + 1, by show i + 1 ≤ l.length; omega, by show l.length - (i + 1) < l.length - i; omega, ?_⟩
                 refine V1 ?_; constructor <;> (first | (with_reducible exact TT.i) | (intros; (repeat (apply Wk.mk; intro Kv hN hX hR)); apply Wr.mk))
                 all_goals first
                  | exact wrapI (by omega) (by omega)
                  | with_reducible exact congrArg Rw.items e1.symm
                  | with_reducible exact e3
                  | with_reducible exact e3.trans e4.symm
                  | with_reducible exact e4.trans e3.symm
                  | with_reducible exact e3.symm
                  | rfl)))
      | (have hge : i = l.length := by omega
         have e1 := outS_end (x := x) hs
         have e2 := putI_len h1 h2
         subst hge
         first
          | (have hc : l.countP (fun i => decide (i.key < x.key)) < l.length := by with_reducible assumption
             rw [if_pos hc] at e1
             rw [e1] at e2
             first
              | (have h5 : 16 < ((outS l x l.length).length : Int) := by with_reducible assumption
                 rw [if_pos (by omega)] at e2
                 rw [e2] <;> rfl)
              | (have h5 : ¬ 16 < ((outS l x l.length).length : Int) := by with_reducible assumption
                 rw [if_neg (by omega)] at e2
                 rw [e2] <;> rfl))
          | (have hc : ¬ l.countP (fun i => decide (i.key < x.key)) < l.length := by with_reducible assumption
             rw [if_neg hc] at e1
             rw [e1] at e2
             first
              | (have h5 : 16 < ((outS l x l.length ++ [x]).length : Int) := by with_reducible assumption
                 rw [if_pos (by omega)] at e2
                 rw [e2] <;> rfl)
              | (have h5 : ¬ 16 < ((outS l x l.length ++ [x]).length : Int) := by with_reducible assumption
                 rw [if_neg (by omega)] at e2
                 rw [e2] <;> rfl))))
end Go.Proofs.YtjjpakdlkjaigaaGreat

/- Contracts: the document's: whose a key is; sharing; a node's turn. -/
namespace Go.Proofs.YtjjpakdlkjaigaaGreat
open Go.RowKit
set_option maxRecDepth 20000
set_option maxHeartbeats 1000000 in
theorem k_refOwnerOf : Known Tryz.prog tau 176 (S2 dInts dInt oOwn) := by
 refine known2 hmix tau_ok (ctx_cons k_refPlace (ctx_cons k_refPlaces (ctx_cons k_reffar ctx_nil))) (fn := Tryz.f176) (by kernel_rfl) [] (by kernel_rfl) _ _ _ fun l k hfit => ⟨rfl,
  [(5, invX (Nat × Int) [6, 7, 29, 30, 31, 32, 33, 34, 35, 36, 37, 38, 39, 40, 41, 42, 43, 44, 45, 46, 47, 48] [] (fun g => 1 ≤ g.1 ∧ g.1 ≤ l.length ∧ minP k (l.getD 0 0) (l.drop 1) = minP k g.2 (l.drop g.1)) (fun g => match g with
    | (i, b) => withS [(7, .int .i64 i), (6, .int .i64 b)]) (fun g => l.length - g.1))], ?_⟩
 clear hfit
 refine V2 ?_; constructor <;> (first | (with_reducible exact TT.i) | (intros; (repeat (apply Wk.mk; intro Kv hN hX hR)); apply Wr.mk))
 all_goals first
  | (have h := nf (show (!placeB k) = true by with_reducible assumption)
     rw [ownP_no (.inl (by unfold rowMayB; rw [h]; rfl))] <;> rfl)
  | (have h := nf (show (!l.all placeB) = true by with_reducible assumption)
     rw [ownP_no (.inl (by unfold rowMayB; rw [h]; simp))] <;> rfl)
  | (have h := of_decide_eq_true (show decide ((l.length : Int) = 0) = true by with_reducible assumption)
     rw [ownP_no (.inr (by omega))] <;> rfl)
  | (have h := of_decide_eq_true (show decide ((64 : Int) < (l.length : Nat)) = true by with_reducible assumption)
     rw [ownP_no (.inl (by unfold rowMayB; rw [decide_eq_false (show ¬ l.length ≤ 64 by omega)]; simp))] <;> rfl)
  | (have n1 := nt (show (!placeB k) = false by with_reducible assumption)
     have n2 := nt (show (!l.all placeB) = false by with_reducible assumption)
     have n3 := of_decide_eq_false (show decide ((l.length : Int) = 0) = false by with_reducible assumption)
     have n4 := of_decide_eq_false (show decide ((64 : Int) < (l.length : Nat)) = false by with_reducible assumption)
     have hy := ownP_yes (l := l) (k := k) (by unfold rowMayB; rw [n1, n2, decide_eq_true (show l.length ≤ 64 by omega)]; rfl) (by omega)
     first
      | exact Ob.mk ⟨by decide, by omega⟩
      | (refine ⟨(1, l.getD 0 0), ⟨Nat.le_refl _, by show 1 ≤ l.length; omega, rfl⟩, ?_⟩
         refine V1 ?_; constructor <;> (first | (with_reducible exact TT.i) | (intros; (repeat (apply Wk.mk; intro Kv hN hX hR)); apply Wr.mk))
         all_goals rfl)
      | (rintro ⟨i, b⟩ ⟨h1, h2, h3⟩
         dsimp only at h1 h2 h3
         refine V1 ?_; constructor <;> (first | (with_reducible exact TT.i) | (intros; (repeat (apply Wk.mk; intro Kv hN hX hR)); apply Wr.mk))
         all_goals (try dsimp only at *)
         all_goals (try simp only [Int.toNat_natCast] at *)
         all_goals first
          | exact Ob.mk ⟨by omega, of_decide_eq_true aQ⟩
          | (have h := of_decide_eq_true (show decide ((i : Int) < (l.length : Nat)) = true by with_reducible assumption)
             have e1 := minP_next (k := k) (b := b) (l := l) (i := i) (by omega)
             first
              | (have h4 := of_decide_eq_true (show decide (farI k (l.getD i 0) < farI k b) = true by with_reducible assumption)
                 rw [if_pos h4] at e1
                 refine ⟨(i + 1, l.getD i 0), ⟨by show 1 ≤ i + 1; omega, by show i + 1 ≤ l.length; omega, h3.trans e1⟩, by show l.length - (i + 1) < l.length - i; omega, ?_⟩
                 refine V1 ?_; constructor <;> (first | (with_reducible exact TT.i) | (intros; (repeat (apply Wk.mk; intro Kv hN hX hR)); apply Wr.mk))
                 all_goals first
                  | exact wrapI (by omega) (by omega)
                  | rfl)
              | (have h4 := of_decide_eq_false (show decide (farI k (l.getD i 0) < farI k b) = false by with_reducible assumption)
                 rw [if_neg h4] at e1
                 refine ⟨(i + 1, b), ⟨by show 1 ≤ i + 1; omega, by show i + 1 ≤ l.length; omega, h3.trans e1⟩, by show l.length - (i + 1) < l.length - i; omega, ?_⟩
                 refine V1 ?_; constructor <;> (first | (with_reducible exact TT.i) | (intros; (repeat (apply Wk.mk; intro Kv hN hX hR)); apply Wr.mk))
                 all_goals first
                  | exact wrapI (by omega) (by omega)
                  | rfl))
          | (have h := of_decide_eq_false (show decide ((i : Int) < (l.length : Nat)) = false by with_reducible assumption)
             rw [hy]
             first
              | done
              | rfl
              | rw [h3, minP_end (by omega)])))
theorem minP_spec {k : Int} : ∀ (l : List Int) (b : Int), minP k b l ∈ b :: l ∧ ∀ y ∈ b :: l, farI k (minP k b l) ≤ farI k y
 | [], b => ⟨List.mem_cons_self, fun y hy => by rw [List.mem_singleton.1 hy]; exact Int.le_refl _⟩
 | x :: l, b => by
   unfold minP
   have ih := minP_spec (k := k) l (if farI k x < farI k b then x else b)
   refine ⟨?_, fun y hy => ?_⟩
   · rcases List.mem_cons.1 ih.1 with h | h
     · rw [h]
       split
       · exact List.mem_cons_of_mem _ List.mem_cons_self
       · exact List.mem_cons_self
     · exact List.mem_cons_of_mem _ (List.mem_cons_of_mem _ h)
   · have h0 := ih.2 _ List.mem_cons_self
     have hb : farI k (if farI k x < farI k b then x else b) ≤ farI k b ∧ farI k (if farI k x < farI k b then x else b) ≤ farI k x := by split <;> omega
     rcases List.mem_cons.1 hy with h | hy
     · subst h
       exact Int.le_trans h0 hb.1
     · rcases List.mem_cons.1 hy with h | hy
       · subst h
         exact Int.le_trans h0 hb.2
       · exact ih.2 y (List.mem_cons_of_mem _ hy)
theorem ownP_spec {l : List Int} {k : Int} (h : rowMayB k l = true) (h2 : 0 < l.length) : (ownP l k).1 ∈ l ∧ ∀ y ∈ l, farI k (ownP l k).1 ≤ farI k y := by
 rw [ownP_yes h h2]
 cases l with
 | nil => simp at h2
 | cons x l => exact minP_spec l x
theorem ownP_perm {l l' : List Int} {k : Int} (h : rowMayB k l = true) (h2 : 0 < l.length) (h' : rowMayB k l' = true) (h2' : 0 < l'.length) (hm : ∀ x, x ∈ l ↔ x ∈ l') : (ownP l k).1 = (ownP l' k).1 := by
 obtain ⟨a1, a2⟩ := ownP_spec h h2
 obtain ⟨b1, b2⟩ := ownP_spec h' h2'
 have pl : ∀ x ∈ l, placeB x = true := by
  simp only [rowMayB, Bool.and_eq_true, List.all_eq_true] at h
  exact h.2.2
 have pk : placeB k = true := by
  simp only [rowMayB, Bool.and_eq_true] at h
  exact h.1
 have e1 := a2 _ ((hm _).2 b1)
 have e2 := b2 _ ((hm _).1 a1)
 exact (far_inj pk (pl _ a1) (pl _ ((hm _).2 b1))).1 (by omega)
theorem view_row {v : GView} {k : Int} (hv : viewB v = true) (hk : placeB k = true) : rowMayB k ([v.id] ++ namesP v.peers) = true ∧ rowMayB k (namesP v.peers ++ [v.id]) = true := by
 have h := viewB_iff.1 hv
 have hp := peersB_iff.1 h.1
 have hn := namesP_len v.peers
 have ha : (namesP v.peers).all placeB = true := by
  rw [List.all_eq_true]
  intro x hx
  unfold namesP at hx
  obtain ⟨p, h1, rfl⟩ := List.mem_map.1 hx
  have := hp.2.2.2 p h1
  unfold peerB at this
  simp only [Bool.and_eq_true] at this
  exact this.1
 unfold rowMayB
 constructor
 · rw [hk, List.all_append, ha, decide_eq_true (show ([v.id] ++ namesP v.peers).length ≤ 64 by rw [List.length_append, hn]; simp; omega)]
   simp [hp.1]
 · rw [hk, List.all_append, ha, decide_eq_true (show (namesP v.peers ++ [v.id]).length ≤ 64 by rw [List.length_append, hn]; simp; omega)]
   simp [hp.1]
theorem ownV_ref {v : GView} {k : Int} (hv : viewB v = true) (hk : placeB k = true) : (ownP ([v.id] ++ namesP v.peers) k).1 = (ownP (namesP v.peers ++ [v.id]) k).1 := by
 obtain ⟨h1, h2⟩ := view_row hv hk
 refine ownP_perm h1 (by simp) h2 (by simp) fun x => ?_
 simp only [List.mem_append]
 exact Or.comm
theorem k_refOwner : Known Tryz.prog tau 129 (S2 dView dInt oOwnV) := by
 refine known2 hmix tau_ok (ctx_cons k_refView (ctx_cons k_refPlace (ctx_cons k_refNames (ctx_cons k_refOwnerOf ctx_nil)))) (fn := Tryz.f129) (by kernel_rfl) [] (by kernel_rfl) _ _ _ fun v k hfit => ⟨rfl, [], ?_⟩
 have hp : v.peers.length * 16 ≤ 140737488355328 := hfit.1.2.1
 clear hfit
 refine V1 ?_; constructor <;> (first | (with_reducible exact TT.i) | (intros; (repeat (apply Wk.mk; intro Kv hN hX hR)); apply Wr.mk))
 all_goals (try simp only [etaView] at *)
 all_goals first
  | (rw [ownV_no (.inl (nf (show (!viewB v) = true by with_reducible assumption)))]; done)
  | (rw [ownV_no (.inr (nf (show (!placeB k) = true by with_reducible assumption)))]; done)
  | (have h : viewB v = true := nt aQ
     have h2 : placeB k = true := nt aQ
     have h3 := (viewB_iff.1 h).2.2.1
     first
      | (refine Ob.mk ?_
         simp only [Rw.len, Rw.bts, Rw.kd, kdBytes, namesP_len, List.length_cons, List.length_nil]
         omega)
      | (rw [ownV_def, if_pos ⟨h, h2⟩]
         first
          | done
          | rfl
          | exact ownV_ref h h2))
theorem names_0 (l : List GPeer) : (namesP l).getD 0 0 = (l.getD 0 default).id := by
 cases l <;> rfl
theorem k_refSucc : Known Tryz.prog tau 128 (S1 dView oSucc) := by
 refine known1 hmix tau_ok (ctx_cons k_refView ctx_nil) (fn := Tryz.f128) (by kernel_rfl) [] (by kernel_rfl) _ _ fun v hfit => ⟨rfl, [], ?_⟩
 clear hfit
 refine V1 ?_; constructor <;> (first | (with_reducible exact TT.i) | (intros; (repeat (apply Wk.mk; intro Kv hN hX hR)); apply Wr.mk))
 all_goals (try simp only [etaView] at *)
 all_goals first
  | (have h : viewB v = false := nf aQ
     rw [succV_def, if_neg (by rw [h]; simp)]
     done)
  | (have h : viewB v = true := nt aQ
     have h2 := of_decide_eq_true (show decide ((v.peers.length : Int) = 0) = true by with_reducible assumption)
     rw [succV_def, if_pos h, if_pos (by omega)]
     done)
  | (have h : viewB v = true := nt aQ
     have h2 := of_decide_eq_false (show decide ((v.peers.length : Int) = 0) = false by with_reducible assumption)
     first
      | exact Ob.mk ⟨by decide, by omega⟩
      | (rw [succV_def, if_pos h, if_neg (by omega)]
         first
          | done
          | rfl
          | exact (names_0 _).symm))
theorem k_upMay : Known Tryz.prog tau 67 (S1 dNode fun x => okB (x.up && nodeB x)) := by
 refine known1 hmix tau_ok (ctx_cons k_refNode ctx_nil) (fn := Tryz.f67) (by kernel_rfl) [] (by kernel_rfl) _ _ fun x hfit => ⟨rfl, [], ?_⟩
 clear hfit
 refine V1 ?_; constructor <;> (first | (with_reducible exact TT.i) | (intros; (repeat (apply Wk.mk; intro Kv hN hX hR)); apply Wr.mk))
 all_goals (try simp only [etaNode] at *)
 all_goals first
  | (have h : x.up = true := by with_reducible assumption
     rw [h]
     rfl)
  | (have h : x.up = false := by with_reducible assumption
     rw [h]
     rfl)
theorem k_refCopyNode : Known Tryz.prog tau 70 (S1 dNode fun x => .ok (.agg (nOwn4 x)) (nRows x)) := by
 refine known1 hmix tau_ok ctx_nil (fn := Tryz.f70) (by kernel_rfl) [] (by kernel_rfl) _ _ fun x hfit => ⟨rfl, [], ?_⟩
 have hp1 : x.view.peers.length * 16 ≤ 140737488355328 := hfit.1.2.2.1
 have hp2 : x.view.passive.length * 8 ≤ 140737488355328 := hfit.1.2.2.2.1
 have hp3 : x.items.length * 40 ≤ 140737488355328 := hfit.1.2.2.2.2.1
 have hp4 : x.log.length * 24 ≤ 140737488355328 := hfit.1.2.2.2.2.2.1
 clear hfit
 refine V1 ?_; constructor <;> (first | (with_reducible exact TT.i) | (intros; (repeat (apply Wk.mk; intro Kv hN hX hR)); apply Wr.mk))
 all_goals first
  | (refine Ob.mk ?_
     simp only [Rw.len, Rw.bts, Rw.kd, kdBytes, List.length_nil]
     omega)
  | rfl
set_option maxHeartbeats 2000000 in
theorem k_refShare : Known Tryz.prog tau 76 (S1 dNode oShare) := by
 refine known1 hmix tau_ok (ctx_cons k_upMay (ctx_cons k_refSucc (ctx_cons k_refOwner ctx_nil))) (fn := Tryz.f76) (by kernel_rfl) [(8, [(0, 0), (1, 1), (2, 0), (3, 4), (4, 0), (5, 24), (6, 32), (7, 64), (8, 130), (9, 256), (10, 512), (11, 512), (12, 2047), (13, 8191)]), (12, [(0, 0), (1, 0), (2, 2), (3, 4), (4, 0), (5, 0), (6, 32), (7, 0), (8, 192), (9, 256), (10, 536), (11, 1024), (12, 2049), (13, 8191)])] (by kernel_rfl) _ _ fun x hfit => ⟨rfl,
  [(6, invA Nat [(4, 61, 7)] (4 :: 7 :: 8 :: 9 :: 19 :: 20 :: 21 :: 22 :: 23 :: 24 :: 25 :: 26 :: 27 :: 28 :: 29 :: 30 :: 31 :: 32 :: 33 :: 34 :: 35 :: 36 :: 37 :: 38 :: 39 :: 40 :: 41 :: 42 :: 43 :: 44 :: 45 :: 46 :: 47 :: 48 :: 49 :: 50 :: 51 :: 52 :: 53 :: 54 :: 55 :: 56 :: 57 :: 58 :: 59 :: 60 :: 61 :: []) [] (fun i => i ≤ x.items.length) (fun i => fun st => withS [(7, .int .i64 i), (4, .own 61)] (withR [(61, .own (.msgs (shareL x.view (x.items.take i))))] st)) (fun i => x.items.length - i))], ?_⟩
 have hp : x.items.length * 40 ≤ 140737488355328 := hfit.1.2.2.2.2.1
 clear hfit
 refine V2 ?_; constructor <;> (first | (with_reducible exact TT.i) | (intros; (repeat (apply Wk.mk; intro Kv hN hX hR)); apply Wr.mk))
 all_goals first
  | (have h : (x.up && nodeB x) = false := nf aQ
     rw [shareN_def, if_neg (by rw [h]; simp)] <;> rfl)
  | (refine ⟨0, Nat.zero_le _, ?_⟩
     refine V1 ?_; constructor <;> (first | (with_reducible exact TT.i) | (intros; (repeat (apply Wk.mk; intro Kv hN hX hR)); apply Wr.mk))
     all_goals rfl)
  | (with_reducible intro i hi
     have hi : i ≤ x.items.length := hi
     have hB : (x.up && nodeB x) = true := nt aQ
     have hst := (storeB_iff.1 (by
      have := (Bool.and_eq_true _ _ ▸ hB).2
      unfold nodeB at this
      simp only [Bool.and_eq_true] at this
      exact this.2.1 : storeB x.items = true)).1
     have g2 := shareL_len x.view (x.items.take i)
     rw [List.length_take] at g2
     refine V1 ?_; constructor <;> (first | (with_reducible exact TT.i) | (intros; (repeat (apply Wk.mk; intro Kv hN hX hR)); apply Wr.mk))
     all_goals (try simp only [Int.toNat_natCast, etaView, etaItem] at *)
     all_goals first
      | exact Ob.mk ⟨by omega, of_decide_eq_true aQ⟩
      | (refine Ob.mk ?_
         simp only [Rw.len, Rw.bts, Rw.kd, kdBytes, List.length_cons, List.length_nil]
         omega)
      | (have h := of_decide_eq_true (show decide ((i : Int) < (x.items.length : Nat)) = true by with_reducible assumption)
         have e1 := shareL_succ (v := x.view) (l := x.items) (i := i) (by omega)
         have go : ∀ ys, shareL x.view (x.items.take (i + 1)) = shareL x.view (x.items.take i) ++ ys → shareL x.view (x.items.take i) ++ ys = shareL x.view (x.items.take (i + 1)) := fun ys h => h.symm
         first
          | (have h1 := of_decide_eq_true (show decide ((ownV x.view (x.items.getD i default).key).1 = x.view.id) = true by with_reducible assumption)
             have ht : toV x.view (x.items.getD i default).key = (succV x.view).1 := by unfold toV; rw [if_pos h1]
             rw [ht] at e1
             first
              | (have h2 := of_decide_eq_false (nf (show (!decide ((succV x.view).1 = x.view.id)) = true by with_reducible assumption))
                 rw [if_neg h2] at e1
                 refine ⟨i + 1, by omega, by omega, ?_⟩
                 refine V1 ?_; constructor <;> (first | (with_reducible exact TT.i) | (intros; (repeat (apply Wk.mk; intro Kv hN hX hR)); apply Wr.mk))
                 all_goals first
                  | exact wrapI (by omega) (by omega)
                  | exact congrArg Rw.msgs e1.symm
                  | rfl)
              | (have h2 := of_decide_eq_true (nt (show (!decide ((succV x.view).1 = x.view.id)) = false by with_reducible assumption))
                 rw [if_pos h2, List.append_nil] at e1
                 refine ⟨i + 1, by omega, by omega, ?_⟩
                 refine V1 ?_; constructor <;> (first | (with_reducible exact TT.i) | (intros; (repeat (apply Wk.mk; intro Kv hN hX hR)); apply Wr.mk))
                 all_goals first
                  | exact wrapI (by omega) (by omega)
                  | exact congrArg Rw.msgs e1.symm
                  | rfl))
          | (have h1 := of_decide_eq_false (show decide ((ownV x.view (x.items.getD i default).key).1 = x.view.id) = false by with_reducible assumption)
             have ht : toV x.view (x.items.getD i default).key = (ownV x.view (x.items.getD i default).key).1 := by unfold toV; rw [if_neg h1]
             rw [ht, if_neg h1] at e1
             first
              | exact absurd (of_decide_eq_true (nt (show (!decide ((ownV x.view (x.items.getD i default).key).1 = x.view.id)) = false by with_reducible assumption))) h1
              | (refine ⟨i + 1, by omega, by omega, ?_⟩
                 refine V1 ?_; constructor <;> (first | (with_reducible exact TT.i) | (intros; (repeat (apply Wk.mk; intro Kv hN hX hR)); apply Wr.mk))
                 all_goals first
                  | exact wrapI (by omega) (by omega)
                  | exact congrArg Rw.msgs e1.symm
                  | rfl)))
      | (have h := of_decide_eq_false (show decide ((i : Int) < (x.items.length : Nat)) = false by with_reducible assumption)
         rw [shareN_def, if_pos hB]
         first
          | done
          | rfl
          | rw [List.take_of_length_le (by omega)]))
set_option maxHeartbeats 4000000 in
theorem k_refTick : Known Tryz.prog tau 31 (S1 dNode oTick) := by
 refine known1 hmix tau_ok (ctx_cons k_upMay (ctx_cons k_refCopyNode (ctx_cons k_refAgeView (ctx_cons k_refNames (ctx_cons k_refShare ctx_nil))))) (fn := Tryz.f31) (by kernel_rfl) [(10, [(0, 0), (1, 0), (2, 2), (3, 0), (4, 0), (5, 24), (6, 32), (7, 0), (8, 128), (9, 256), (10, 580), (11, 1024), (12, 2561), (13, 8191)])] (by kernel_rfl) _ _ fun x hfit => ⟨rfl,
  [(8, invA Nat [(9, 46, 7)] [9, 10, 28, 29, 30, 31, 32, 33, 34, 35, 36, 37, 38, 39, 40, 41, 42, 43, 44, 45, 46] [] (fun i => i ≤ (tickV x.view).2.1.length) (fun i => fun st => withS [(10, .int .i64 i), (9, .own 46)] (withR [(46, .own (.msgs (helloL (tickV x.view).1 ((tickV x.view).2.1.take i))))] st)) (fun i => (tickV x.view).2.1.length - i))], ?_⟩
 have hp : x.items.length * 40 ≤ 140737488355328 := hfit.1.2.2.2.2.1
 clear hfit
 refine V2 ?_; constructor <;> (first | (with_reducible exact TT.i) | (intros; (repeat (apply Wk.mk; intro Kv hN hX hR)); apply Wr.mk))
 all_goals first
  | (have h : (x.up && nodeB x) = false := nf aQ
     rw [tickN_def, if_neg (by rw [h]; simp)] <;> rfl)
  | (refine ⟨0, Nat.zero_le _, ?_⟩
     refine V1 ?_; constructor <;> (first | (with_reducible exact TT.i) | (intros; (repeat (apply Wk.mk; intro Kv hN hX hR)); apply Wr.mk))
     all_goals rfl)
  | (with_reducible intro i hi
     have hi : i ≤ (tickV x.view).2.1.length := hi
     have hB : (x.up && nodeB x) = true := nt aQ
     obtain ⟨b1, b2, b3, b4⟩ := up_view hB
     have t := tick_ok b3
     have tl := congrArg List.length t.2.2.2.2.1
     rw [List.length_append, namesP_len, ← t.2.2.1] at tl
     have t16 := (viewB_iff.1 t.1).2.2.1
     have s16 := (storeB_iff.1 b4).1
     have g3 := shareN_len ⟨x.up, (tickV x.view).1, x.items, x.log⟩
     have htn := (tickN_def x).trans (if_pos hB)
     refine V1 ?_; constructor <;> (first | (with_reducible exact TT.i) | (intros; (repeat (apply Wk.mk; intro Kv hN hX hR)); apply Wr.mk))
     all_goals (try simp only [Int.toNat_natCast, etaView, etaNode] at *)
     all_goals first
      | exact Ob.mk ⟨by omega, of_decide_eq_true aQ⟩
      | (refine Ob.mk ?_
         simp only [Rw.len, Rw.bts, Rw.kd, kdBytes, List.length_cons, List.length_nil, helloL_len, List.length_take]
         omega)
      | (have h := of_decide_eq_true (show decide ((i : Int) < ((tickV x.view).2.1.length : Nat)) = true by with_reducible assumption)
         have e1 := helloL_succ (v := (tickV x.view).1) (l := (tickV x.view).2.1) (i := i) (by omega)
         refine ⟨i + 1, by omega, by omega, ?_⟩
         refine V1 ?_; constructor <;> (first | (with_reducible exact TT.i) | (intros; (repeat (apply Wk.mk; intro Kv hN hX hR)); apply Wr.mk))
         all_goals first
          | exact wrapI (by omega) (by omega)
          | exact congrArg Rw.msgs e1.symm
          | rfl)
      | (have h := of_decide_eq_false (show decide ((i : Int) < ((tickV x.view).2.1.length : Nat)) = false by with_reducible assumption)
         rw [htn]
         first
          | done
          | rfl
          | rw [List.take_of_length_le (by omega)]))
end Go.Proofs.YtjjpakdlkjaigaaGreat

/- Contracts: the document's: an item of a key, writing, an item that comes. -/
namespace Go.Proofs.YtjjpakdlkjaigaaGreat
open Go.RowKit
set_option maxRecDepth 20000
theorem hasK_no {l : List GItem} {k : Int} (h : ∀ t, t < l.length → ¬ (l.getD t default).key = k) : hasK l k = false := by
 cases e : hasK l k with
 | false => rfl
 | true =>
   obtain ⟨y, hy, e2⟩ := List.any_eq_true.1 e
   obtain ⟨t, ht, rfl⟩ := List.getElem_of_mem hy
   exact absurd (by rw [List.getD_eq_getElem?_getD, List.getElem?_eq_getElem ht]; exact of_decide_eq_true e2) (h t ht)
theorem hasK_at {l : List GItem} {k : Int} {t : Nat} (ht : t < l.length) (h : (l.getD t default).key = k) : hasK l k = true :=
 List.any_eq_true.2 ⟨_, getD_mem (d := default) ht, decide_eq_true h⟩
set_option maxHeartbeats 4000000 in
theorem k_refGet : Known Tryz.prog tau 125 (S2 dItems dInt oGetS) := by
 refine known2 hmix tau_ok (ctx_cons k_refStore ctx_nil) (fn := Tryz.f125) (by kernel_rfl) [] (by kernel_rfl) _ _ _ fun l k hfit => ⟨rfl,
  [(2, invN [5, 6, 7, 8, 9, 10, 11, 12, 13, 14, 15, 16, 17, 18, 19, 20, 21, 22, 23, 24, 25, 26, 27] (fun i => i ≤ l.length ∧ ∀ t, t < i → ¬ (l.getD t default).key = k) (fun i => withS [(6, .int .i64 i)]) (fun i => l.length - i))], ?_⟩
 have hlen : l.length * 40 ≤ 140737488355328 := hfit.1
 clear hfit
 refine V2 ?_; constructor <;> (first | (with_reducible exact TT.i) | (intros; (repeat (apply Wk.mk; intro Kv hN hX hR)); apply Wr.mk))
 all_goals first
  | (refine ⟨0, ⟨Nat.zero_le _, fun t h => absurd h (Nat.not_lt_zero _)⟩, ?_⟩
     refine V1 ?_; constructor <;> (first | (with_reducible exact TT.i) | (intros; (repeat (apply Wk.mk; intro Kv hN hX hR)); apply Wr.mk))
     all_goals rfl)
  | (with_reducible intro i hi
     obtain ⟨hi, hn⟩ : i ≤ l.length ∧ ∀ t, t < i → ¬ (l.getD t default).key = k := hi
     refine V1 ?_; constructor <;> (first | (with_reducible exact TT.i) | (intros; (repeat (apply Wk.mk; intro Kv hN hX hR)); apply Wr.mk))
     all_goals (try simp only [Int.toNat_natCast, etaItem] at *)
     all_goals first
      | exact Ob.mk ⟨by omega, of_decide_eq_true aQ⟩
      | (rw [getS_no (.inl (show storeB l = false by with_reducible assumption))] <;> rfl)
      | (have h1 := (show storeB l = true by with_reducible assumption)
         have h := of_decide_eq_true (show decide ((i : Int) < (l.length : Nat)) = true by with_reducible assumption)
         first
          | (have hk := of_decide_eq_true (show decide ((l.getD i default).key = k) = true by with_reducible assumption)
             have e2 : l.countP (fun q => decide (q.key < k)) = i := (key_eq (x := ⟨k, ⟨0, 0⟩, 0, false⟩) (storeB_iff.1 h1).2.1 (show i < l.length by omega) hk).2
             rw [getS_yes h1 (hasK_at (show i < l.length by omega) hk), e2] <;> rfl)
          | (have hk := of_decide_eq_false (show decide ((l.getD i default).key = k) = false by with_reducible assumption)
             refine ⟨i + 1, ⟨by omega, fun t ht => ?_⟩, by omega, ?_⟩
             · rcases Nat.lt_or_eq_of_le (Nat.le_of_lt_succ ht) with h3 | h3
               · exact hn t h3
               · rw [h3]; exact hk
             · refine V1 ?_; constructor <;> (first | (with_reducible exact TT.i) | (intros; (repeat (apply Wk.mk; intro Kv hN hX hR)); apply Wr.mk))
               all_goals first
                | exact wrapI (by omega) (by omega)
                | rfl))
      | (have h := of_decide_eq_false (show decide ((i : Int) < (l.length : Nat)) = false by with_reducible assumption)
         have e : i = l.length := by omega
         subst e
         rw [getS_no (.inr (hasK_no hn))] <;> rfl))
set_option maxHeartbeats 4000000 in
theorem k_refWrote : Known Tryz.prog tau 74 (S2 dNode dItem oWrote) := by
 refine known2 hmix tau_ok (ctx_cons k_upMay (ctx_cons k_refByte16 (ctx_cons k_refGet (ctx_cons k_refCopyNode (ctx_cons k_refPut ctx_nil))))) (fn := Tryz.f74) (by kernel_rfl) [] (by kernel_rfl) _ _ _ fun x i hfit => ⟨rfl, [], ?_⟩
 clear hfit
 have hg := getS_count x.items i.key
 have w1 : IntKind.i64.wrap ((getS x.items i.key).1.ver.count + 1) = (getS x.items i.key).1.ver.count + 1 := wrapI (by omega) (by omega)
 refine V1 ?_; constructor <;> (first | (with_reducible exact TT.i) | (intros; (repeat (apply Wk.mk; intro Kv hN hX hR)); apply Wr.mk))
 all_goals (try simp only [etaNode, etaItem, w1, etaW] at *)
 all_goals first
  | (rw [wroteN_no (.inl (nf aQ))] <;> rfl)
  | (rw [wroteN_no (.inr (.inl (nf aQ)))] <;> rfl)
  | (rw [wroteN_no (.inr (.inr (nf aQ)))] <;> rfl)
  | (have h1 := nt (show (!(x.up && nodeB x)) = false by with_reducible assumption)
     have h2 := nt (show (!placeB i.key) = false by with_reducible assumption)
     have h3 := nt (show (!placeB i.value) = false by with_reducible assumption)
     first
      | (have h4 := of_decide_eq_true (show decide (65535 < (getS x.items i.key).1.ver.count + 1) = true by with_reducible assumption)
         rw [wroteN_big h1 h2 h3 h4] <;> rfl)
      | (have h4 := of_decide_eq_false (show decide (65535 < (getS x.items i.key).1.ver.count + 1) = false by with_reducible assumption)
         first
          | (have h5 := of_decide_eq_false (nf (b := decide ((putI x.items (itW x i)).2 = 0)) aQ)
             rw [wroteN_full h1 h2 h3 h4 h5] <;> rfl)
          | (have h5 := of_decide_eq_true (nt (b := decide ((putI x.items (itW x i)).2 = 0)) aQ)
             rw [wroteN_yes h1 h2 h3 h4 h5] <;> rfl)))
theorem k_refWPut : Known Tryz.prog tau 30 (S3 dNode dInt dInt fun x k v => oWrote x ⟨k, ⟨0, 0⟩, v, false⟩) := by
 refine known3 hmix tau_ok (ctx_cons k_refWrote ctx_nil) (fn := Tryz.f30) (by kernel_rfl) [] (by kernel_rfl) _ _ _ _ fun x k v hfit => ⟨rfl, [], ?_⟩
 clear hfit
 refine V1 ?_; constructor <;> (first | (with_reducible exact TT.i) | (intros; (repeat (apply Wk.mk; intro Kv hN hX hR)); apply Wr.mk))
 all_goals (try simp only [etaNode] at *)
 all_goals first
  | rfl
theorem k_refTakeN : Known Tryz.prog tau 71 (S2 dNode dItem oTakeN) := by
 refine known2 hmix tau_ok (ctx_cons k_upMay (ctx_cons k_refItem (ctx_cons k_refCopyNode (ctx_cons k_refPut ctx_nil)))) (fn := Tryz.f71) (by kernel_rfl) [] (by kernel_rfl) _ _ _ fun x i hfit => ⟨rfl, [], ?_⟩
 clear hfit
 refine V1 ?_; constructor <;> (first | (with_reducible exact TT.i) | (intros; (repeat (apply Wk.mk; intro Kv hN hX hR)); apply Wr.mk))
 all_goals (try simp only [etaNode, etaItem] at *)
 all_goals first
  | (rw [takeN_no (.inl (nf aQ))] <;> rfl)
  | (rw [takeN_no (.inr (nf aQ))] <;> rfl)
  | (have h1 := nt (show (!(x.up && nodeB x)) = false by with_reducible assumption)
     have h2 := nt (show (!itemB i) = false by with_reducible assumption)
     first
      | (have h5 := of_decide_eq_true (show decide ((putI x.items i).2 = 0) = true by with_reducible assumption)
         rw [takeN_put h1 h2 h5] <;> rfl)
      | (have h5 := of_decide_eq_false (show decide ((putI x.items i).2 = 0) = false by with_reducible assumption)
         rw [takeN_not h1 h2 h5] <;> rfl))
end Go.Proofs.YtjjpakdlkjaigaaGreat

/- Contracts: the document's: getting, asking, telling. -/
namespace Go.Proofs.YtjjpakdlkjaigaaGreat
open Go.RowKit
set_option maxRecDepth 20000
set_option maxHeartbeats 4000000 in
theorem k_refNoted : Known Tryz.prog tau 126 (S4 dNode dInt dItem dBool fun x k i h => .ob (x.log.length ≤ 64) (.agg (nOwn3 (noteN x k i h))) (nRows3 (noteN x k i h))) := by
 refine known4 hmix tau_ok (ctx_cons k_refCopyNode ctx_nil) (fn := Tryz.f126) (by kernel_rfl) [] (by kernel_rfl) _ _ _ _ _ fun x k i h hfit hs => ⟨rfl, [], ?_⟩
 clear hfit
 have tl : ∀ t : GTold, (x.log ++ [t]).length = x.log.length + 1 := fun t => by simp
 have tk : ∀ t : GTold, (x.log ++ [t]).take (x.log.length + 1) = x.log ++ [t] := fun t => List.take_of_length_le (by simp)
 have n1 : ¬ 64 < x.log.length + 1 → noteL x k i h = x.log ++ [toldT k i h] := fun h1 => by
  unfold noteL
  rw [show x.log.length + 1 - 64 = 0 by omega, List.drop_zero]
 have n2 : 64 < x.log.length + 1 → noteL x k i h = (x.log ++ [toldT k i h]).drop 1 := fun h1 => by
  unfold noteL
  rw [show x.log.length + 1 - 64 = 1 by omega]
 refine V1 ?_; constructor <;> (first | (with_reducible exact TT.i) | (intros; (repeat (apply Wk.mk; intro Kv hN hX hR)); apply Wr.mk))
 all_goals (try simp only [etaNode, Int.toNat_natCast, List.nil_append, tl] at *)
 all_goals first
  | rfl
  | (refine Ob.mk ?_
     simp only [Rw.len, Rw.bts, Rw.kd, kdBytes, List.length_cons, List.length_nil]
     omega)
  | exact Ob.mk ⟨by omega, by omega, by omega⟩
  | (have h64 := of_decide_eq_true (show decide ((64 : Int) < ((x.log.length + 1 : Nat) : Int)) = true by with_reducible assumption)
     show Rw.tolds (List.drop _ (List.take _ _)) = Rw.tolds (noteL x k i h)
     rw [tk, n2 (by omega)]
     clear n1 n2
     refine congrArg (fun t : GTold => Rw.tolds (List.drop (Int.toNat 1) (x.log ++ [t]))) ?_
     unfold toldT
     split <;> simp_all)
  | (have h64 := of_decide_eq_false (show decide ((64 : Int) < ((x.log.length + 1 : Nat) : Int)) = false by with_reducible assumption)
     show Rw.tolds _ = Rw.tolds (noteL x k i h)
     rw [n1 (by omega)]
     clear n1 n2
     exact congrArg (fun t => Rw.tolds (x.log ++ [t])) (by unfold toldT; split <;> simp_all))
theorem toB_no {x : GNode} {m : GMsg} {k : Int} (h : (x.up && nodeB x) = false ∨ mayB m = false ∨ ¬ m.kind = k ∨ ¬ m.dst = x.view.id) : toB x m k = false := by
 unfold toB
 rcases h with h | h | h | h
 · rw [h]; rfl
 · rw [h]; simp
 · rw [decide_eq_false h]; simp
 · rw [decide_eq_false h]; simp
theorem toB_yes {x : GNode} {m : GMsg} {k : Int} (h1 : (x.up && nodeB x) = true) (h2 : mayB m = true) (h3 : m.kind = k) (h4 : m.dst = x.view.id) : toB x m k = true := by
 unfold toB
 rw [h1, h2, decide_eq_true h3, decide_eq_true h4]
 rfl
set_option maxHeartbeats 4000000 in
theorem k_refTold : Known Tryz.prog tau 73 (S2 dNode dMsg oToldN) := by
 refine known2 hmix tau_ok (ctx_cons k_upMay (ctx_cons k_refMsg (ctx_cons k_refNoted ctx_nil))) (fn := Tryz.f73) (by kernel_rfl) [] (by kernel_rfl) _ _ _ fun x m hfit => ⟨rfl, [], ?_⟩
 clear hfit
 refine V1 ?_; constructor <;> (first | (with_reducible exact TT.i) | (intros; (repeat (apply Wk.mk; intro Kv hN hX hR)); apply Wr.mk))
 all_goals (try simp only [etaNode, etaMsg, etaItem] at *)
 all_goals first
  | (rw [toldN_def, if_neg (by rw [toB_no (.inl (nf aQ))]; simp)] <;> rfl)
  | (rw [toldN_def, if_neg (by rw [toB_no (.inr (.inl (nf aQ)))]; simp)] <;> rfl)
  | (rw [toldN_def, if_neg (by rw [toB_no (.inr (.inr (.inl (of_decide_eq_false (nf (b := decide (m.kind = 3)) aQ)))))]; simp)] <;> rfl)
  | (rw [toldN_def, if_neg (by rw [toB_no (.inr (.inr (.inr (of_decide_eq_false (nf (b := decide (m.dst = x.view.id)) aQ)))))]; simp)] <;> rfl)
  | (have h1 := nt (show (!(x.up && nodeB x)) = false by with_reducible assumption)
     have h := toB_yes (k := 3) h1 (nt (show (!mayB m) = false by with_reducible assumption)) (of_decide_eq_true (nt (b := decide (m.kind = 3)) aQ)) (of_decide_eq_true (nt (b := decide (m.dst = x.view.id)) aQ))
     first
      | exact Ob.mk (node_log h1)
      | (rw [toldN_def, if_pos h] <;> rfl))
set_option maxHeartbeats 4000000 in
theorem k_refAnswer : Known Tryz.prog tau 72 (S2 dNode dMsg oAnswer) := by
 refine known2 hmix tau_ok (ctx_cons k_upMay (ctx_cons k_refMsg (ctx_cons k_refGet ctx_nil))) (fn := Tryz.f72) (by kernel_rfl) [] (by kernel_rfl) _ _ _ fun x m hfit => ⟨rfl, [], ?_⟩
 clear hfit
 refine V1 ?_; constructor <;> (first | (with_reducible exact TT.i) | (intros; (repeat (apply Wk.mk; intro Kv hN hX hR)); apply Wr.mk))
 all_goals (try simp only [etaNode, etaMsg, etaItem] at *)
 all_goals first
  | (rw [answerN_def, if_neg (by rw [toB_no (.inl (nf aQ))]; simp)] <;> rfl)
  | (rw [answerN_def, if_neg (by rw [toB_no (.inr (.inl (nf aQ)))]; simp)] <;> rfl)
  | (rw [answerN_def, if_neg (by rw [toB_no (.inr (.inr (.inl (of_decide_eq_false (nf (b := decide (m.kind = 2)) aQ)))))]; simp)] <;> rfl)
  | (rw [answerN_def, if_neg (by rw [toB_no (.inr (.inr (.inr (of_decide_eq_false (nf (b := decide (m.dst = x.view.id)) aQ)))))]; simp)] <;> rfl)
  | (have h1 := nt (show (!(x.up && nodeB x)) = false by with_reducible assumption)
     have h := toB_yes (k := 2) h1 (nt (show (!mayB m) = false by with_reducible assumption)) (of_decide_eq_true (nt (b := decide (m.kind = 2)) aQ)) (of_decide_eq_true (nt (b := decide (m.dst = x.view.id)) aQ))
     rw [answerN_def, if_pos h] <;> rfl)
end Go.Proofs.YtjjpakdlkjaigaaGreat

/- Contracts: the document's: one that is heard, one that is known. -/
namespace Go.Proofs.YtjjpakdlkjaigaaGreat
open Go.RowKit
set_option maxRecDepth 20000
noncomputable def wpL (l : List Int) (x : Int) (i : Nat) : List Int := Classical.choose (seal_ex ((l.take i).filter fun y => !decide (y = x)))
theorem wpL_def (l : List Int) (x : Int) (i : Nat) : wpL l x i = (l.take i).filter fun y => !decide (y = x) := Classical.choose_spec (seal_ex _)
theorem wpL_zero (l : List Int) (x : Int) : wpL l x 0 = [] := by rw [wpL_def]; rfl
theorem wpL_len (l : List Int) (x : Int) (i : Nat) : (wpL l x i).length ≤ l.length := by
 rw [wpL_def]
 exact Nat.le_trans (List.length_filter_le _ _) (by rw [List.length_take]; omega)
theorem wpL_yes {l : List Int} {x : Int} {i : Nat} (h : i < l.length) (hx : ¬ l.getD i 0 = x) : wpL l x (i + 1) = wpL l x i ++ [l.getD i 0] := by
 have e : l.getD i 0 = l[i] := by simp [List.getD_eq_getElem?_getD, h]
 rw [e] at hx
 rw [wpL_def, wpL_def, List.take_succ_eq_append_getElem h, List.filter_append, e]
 simp [hx]
theorem wpL_no {l : List Int} {x : Int} {i : Nat} (h : i < l.length) (hx : l.getD i 0 = x) : wpL l x (i + 1) = wpL l x i := by
 have e : l.getD i 0 = l[i] := by simp [List.getD_eq_getElem?_getD, h]
 rw [e] at hx
 rw [wpL_def, wpL_def, List.take_succ_eq_append_getElem h, List.filter_append]
 simp [hx]
theorem wpL_end {l : List Int} {x : Int} {i : Nat} (h : ¬ i < l.length) : wpL l x i = l.filter fun y => !decide (y = x) := by
 rw [wpL_def, List.take_of_length_le (by omega)]
set_option maxHeartbeats 4000000 in
theorem k_refWithoutP : Known Tryz.prog tau 174 (S2 dInts dInt oWithout) := by
 refine known2 hmix tau_ok (ctx_cons k_refPassMay (ctx_cons k_refPlace ctx_nil)) (fn := Tryz.f174) (by kernel_rfl) [] (by kernel_rfl) _ _ _ fun l x hfit => ⟨rfl,
  [(5, invA Nat [(6, 34, 0)] [6, 7, 16, 17, 18, 19, 20, 21, 22, 23, 24, 25, 26, 27, 28, 29, 30, 31, 32, 33, 34] [34] (fun i => i ≤ l.length) (fun i => fun st => withS [(7, .int .i64 i), (6, .own 34)] (withR [(34, .own (.ints (wpL l x i)))] st)) (fun i => l.length - i))], ?_⟩
 have hlen : l.length * 8 ≤ 140737488355328 := hfit.1
 clear hfit
 refine V2 ?_; constructor <;> (first | (with_reducible exact TT.i) | (intros; (repeat (apply Wk.mk; intro Kv hN hX hR)); apply Wr.mk))
 all_goals first
  | (rw [withoutP_no (.inl (nf aQ))] <;> rfl)
  | (rw [withoutP_no (.inr (nf aQ))] <;> rfl)
  | (refine ⟨0, Nat.zero_le _, ?_⟩
     have e0 := wpL_zero l x
     refine V1 ?_; constructor <;> (first | (with_reducible exact TT.i) | (intros; (repeat (apply Wk.mk; intro Kv hN hX hR)); apply Wr.mk))
     all_goals first
      | rfl
      | with_reducible exact congrArg Rw.ints e0.symm
      | (rw [e0]; rfl))
  | (with_reducible intro i hi
     have hi : i ≤ l.length := hi
     have h1 := nt (show (!passB l) = false by with_reducible assumption)
     have h2 := nt (show (!placeB x) = false by with_reducible assumption)
     refine V1 ?_; constructor <;> (first | (with_reducible exact TT.i) | (intros; (repeat (apply Wk.mk; intro Kv hN hX hR)); apply Wr.mk))
     all_goals (try simp only [Int.toNat_natCast] at *)
     all_goals first
      | exact Ob.mk ⟨by omega, of_decide_eq_true aQ⟩
      | (refine Ob.mk ?_
         have g1 := wpL_len l x i
         have h16 := (passB_iff.1 h1).1
         simp only [Rw.len, Rw.bts, Rw.kd, kdBytes, List.length_cons, List.length_nil]
         omega)
      | (have h := of_decide_eq_true (show decide ((i : Int) < (l.length : Nat)) = true by with_reducible assumption)
         first
          | (have hx := of_decide_eq_false (nf (b := decide (l.getD i 0 = x)) aQ)
             have e1 := wpL_yes (show i < l.length by omega) hx
             refine ⟨i + 1, by omega, by omega, ?_⟩
             refine V1 ?_; constructor <;> (first | (with_reducible exact TT.i) | (intros; (repeat (apply Wk.mk; intro Kv hN hX hR)); apply Wr.mk))
             all_goals first
              | exact wrapI (by omega) (by omega)
              | with_reducible exact congrArg Rw.ints e1.symm
              | rfl)
          | (have hx := of_decide_eq_true (nt (b := decide (l.getD i 0 = x)) aQ)
             have e1 := wpL_no (show i < l.length by omega) hx
             refine ⟨i + 1, by omega, by omega, ?_⟩
             refine V1 ?_; constructor <;> (first | (with_reducible exact TT.i) | (intros; (repeat (apply Wk.mk; intro Kv hN hX hR)); apply Wr.mk))
             all_goals first
              | exact wrapI (by omega) (by omega)
              | with_reducible exact congrArg Rw.ints e1.symm
              | rfl))
      | (have h := of_decide_eq_false (show decide ((i : Int) < (l.length : Nat)) = false by with_reducible assumption)
         first
          | (rw [wpL_end (by omega), withoutP_yes h1 h2] <;> rfl)
          | (rw [withoutP_yes h1 h2] <;> rfl)))
noncomputable def sH (b : Int) (l : List GPeer) (x : Int) : Nat := if hasP b l x = true then 1 else 0
noncomputable def outH (b : Int) (l : List GPeer) (x : Int) (i : Nat) : List GPeer := Classical.choose (seal_ex (insO l (l.countP fun p => decide (farI b p.id < farI b x)) [⟨x, 0⟩] (sH b l x) i))
theorem outH_def (b : Int) (l : List GPeer) (x : Int) (i : Nat) : outH b l x i = insO l (l.countP fun p => decide (farI b p.id < farI b x)) [⟨x, 0⟩] (sH b l x) i := Classical.choose_spec (seal_ex _)
theorem outH_zero (b : Int) (l : List GPeer) (x : Int) : outH b l x 0 = [] := by rw [outH_def]; exact insO_zero ..
theorem outH_len (b : Int) (l : List GPeer) (x : Int) (i : Nat) : (outH b l x i).length ≤ l.length + 1 := by
 have h1 := insO_len l (l.countP fun p => decide (farI b p.id < farI b x)) (sH b l x) i [(⟨x, 0⟩ : GPeer)]
 rw [outH_def]
 exact h1
section
variable {b : Int} {l : List GPeer} {x : Int} {i : Nat} (hs : RisingP b l) (hi : i < l.length)
include hs hi
theorem far_iff : farI b (l.getD i default).id < farI b x ↔ i < l.countP fun p => decide (farI b p.id < farI b x) := cnt_iff (fun p : GPeer => farI b p.id) (risingP_iff.1 hs) hi
theorem far_at (h : farI b (l.getD i default).id = farI b x) : hasP b l x = true ∧ l.countP (fun p => decide (farI b p.id < farI b x)) = i := by
 have h1 : hasP b l x = true := List.any_eq_true.2 ⟨_, getD_mem (d := default) hi, decide_eq_true h⟩
 obtain ⟨h2, h3⟩ := risingP_has hs h1
 refine ⟨h1, ?_⟩
 rcases Nat.lt_trichotomy (l.countP fun p => decide (farI b p.id < farI b x)) i with h4 | h4 | h4
 · have := hs _ i h4 hi
   omega
 · exact h4
 · have := hs i _ h4 h2
   omega
theorem outH_lt (h : farI b (l.getD i default).id < farI b x) : outH b l x (i + 1) = outH b l x i ++ [l.getD i default] := by
 rw [outH_def, outH_def]
 exact insO_lt ((far_iff hs hi).1 h) hi
theorem outH_gt (h : l.countP (fun p => decide (farI b p.id < farI b x)) < i) : outH b l x (i + 1) = outH b l x i ++ [l.getD i default] := by
 rw [outH_def, outH_def]
 exact insO_gt h (by unfold sH; split <;> omega) hi
theorem outH_eq (h : farI b (l.getD i default).id = farI b x) : outH b l x (i + 1) = outH b l x i ++ [⟨x, 0⟩] := by
 obtain ⟨h1, h2⟩ := far_at hs hi h
 rw [outH_def, outH_def]
 rw [show sH b l x = 1 by unfold sH; rw [if_pos h1]]
 subst h2
 exact insO_eq1 hi
theorem outH_new (h : farI b x < farI b (l.getD i default).id) (h2 : ¬ l.countP (fun p => decide (farI b p.id < farI b x)) < i) : outH b l x (i + 1) = outH b l x i ++ [⟨x, 0⟩] ++ [l.getD i default] ∧ l.countP (fun p => decide (farI b p.id < farI b x)) = i := by
 have h3 : ¬ i < l.countP (fun p => decide (farI b p.id < farI b x)) := fun h3 => by
  have := (far_iff hs hi).2 h3
  omega
 have h4 : l.countP (fun p => decide (farI b p.id < farI b x)) = i := by omega
 have h1 : hasP b l x = false := by
  cases h1 : hasP b l x with
  | false => rfl
  | true =>
    have := (risingP_has hs h1).2
    rw [h4] at this
    omega
 refine ⟨?_, h4⟩
 rw [outH_def, outH_def]
 rw [show sH b l x = 0 by unfold sH; rw [h1]; rfl]
 rw [h4]
 exact insO_eq0 hi
end
theorem outH_end {b : Int} {l : List GPeer} {x : Int} (h1 : peersB b l = true) (h2 : placeB x = true) : heardU b l x = if l.countP (fun p => decide (farI b p.id < farI b x)) < l.length then outH b l x l.length else outH b l x l.length ++ [⟨x, 0⟩] := by
 obtain ⟨hb, h16, hs, hm⟩ := peersB_iff.1 h1
 have hc : l.countP (fun p => decide (farI b p.id < farI b x)) ≤ l.length := List.countP_le_length
 rw [outH_def]
 unfold heardU
 cases hh : hasP b l x with
 | true =>
   obtain ⟨g2, g3⟩ := risingP_has hs hh
   have hp := hm _ (getD_mem (d := default) g2)
   have hid : (l.getD (l.countP fun p => decide (farI b p.id < farI b x)) default).id = x := by
    refine (far_inj hb ?_ h2).1 g3
    simp only [peerB, Bool.and_eq_true] at hp
    exact hp.1
   rw [if_pos rfl, if_pos g2, insO_end g2, show sH b l x = 1 by unfold sH; rw [hh]; rfl, hid, set_ins g2]
 | false =>
   rw [if_neg (by simp), show sH b l x = 0 by unfold sH; rw [hh]; rfl]
   split
   · rename_i g2
     rw [insO_end g2]
     rfl
   · rename_i g2
     rw [insO_no (by omega), List.drop_eq_nil_of_le (by omega), List.take_of_length_le (by omega), List.append_nil]
theorem heardU_len (b : Int) (l : List GPeer) (x : Int) : (heardU b l x).length = l.length + (if hasP b l x = true then 0 else 1) := by
 unfold heardU
 split
 · simp
 · rw [len_insK]
theorem heardP_len {b : Int} {l : List GPeer} {x : Int} (h1 : peersB b l = true) (h2 : placeB x = true) (h3 : x ≠ b) : heardP b l x = if 16 < (heardU b l x).length then ([], 701) else (heardU b l x, 0) := by
 have h16 := (peersB_iff.1 h1).2.1
 have hl := heardU_len b l x
 rw [heardP_def, if_pos ⟨h1, h2, h3⟩]
 cases hh : hasP b l x with
 | true =>
   rw [hh] at hl
   rw [if_pos rfl, if_neg (by rw [hl, if_pos rfl]; omega)]
 | false =>
   rw [hh] at hl
   rw [if_neg (by simp)]
   rw [if_neg (by simp)] at hl
   by_cases h3 : l.length = 16
   · rw [if_pos h3, if_pos (by omega)]
   · rw [if_neg h3, if_neg (by omega)]
end Go.Proofs.YtjjpakdlkjaigaaGreat

/- Contracts: the document's: one that is heard. -/
namespace Go.Proofs.YtjjpakdlkjaigaaGreat
open Go.RowKit
set_option maxRecDepth 20000
set_option maxHeartbeats 8000000 in
theorem k_refHeard : Known Tryz.prog tau 173 (S3 dInt dPeers dInt oHeard) := by
 refine known3 hmix tau_ok (ctx_cons k_refPeers (ctx_cons k_refPlace (ctx_cons k_reffar ctx_nil))) (fn := Tryz.f173) (by kernel_rfl) [] (by kernel_rfl) _ _ _ _ fun b l x hfit => ⟨rfl,
  [(6, invA Nat [(8, 50, 3)] (8 :: 9 :: 10 :: 25 :: 26 :: 27 :: 28 :: 29 :: 30 :: 31 :: 32 :: 33 :: 34 :: 35 :: 36 :: 37 :: 38 :: 39 :: 40 :: 41 :: 42 :: 43 :: 44 :: 45 :: 46 :: 47 :: 48 :: 49 :: 50 :: 51 :: 52 :: 53 :: 54 :: 55 :: 56 :: 57 :: 58 :: 59 :: 60 :: 61 :: 62 :: 63 :: 64 :: []) [50] (fun i => i ≤ l.length) (fun i => fun st => withS [(10, .int .i64 i), (9, .bool (decide (l.countP (fun p => decide (farI b p.id < farI b x)) < i))), (8, .own 50)] (withR [(50, .own (.peers (outH b l x i)))] st)) (fun i => l.length - i))], ?_⟩
 have hlen : l.length * 16 ≤ 140737488355328 := hfit.2.1
 clear hfit
 refine V2 ?_; constructor <;> (first | (with_reducible exact TT.i) | (intros; (repeat (apply Wk.mk; intro Kv hN hX hR)); apply Wr.mk))
 all_goals first
  | (rw [heardP_no (.inl (nf aQ))] <;> rfl)
  | (rw [heardP_no (.inr (.inl (nf aQ)))] <;> rfl)
  | (rw [heardP_no (.inr (.inr (of_decide_eq_true aQ)))] <;> rfl)
  | (refine ⟨0, Nat.zero_le _, ?_⟩
     have e0 := outH_zero b l x
     refine V1 ?_; constructor <;> (first | (with_reducible exact TT.i) | (intros; (repeat (apply Wk.mk; intro Kv hN hX hR)); apply Wr.mk))
     all_goals first
      | rfl
      | (rw [e0]; rfl))
  | (with_reducible intro i hi
     have hi : i ≤ l.length := hi
     have h1 := nt (show (!peersB b l) = false by with_reducible assumption)
     have h2 := nt (show (!placeB x) = false by with_reducible assumption)
     have h3 := of_decide_eq_false (show decide (x = b) = false by with_reducible assumption)
     obtain ⟨hb, h16, hs, hm⟩ := peersB_iff.1 h1
     have hpl : ∀ t, t < l.length → placeB (l.getD t default).id = true := fun t ht => by
      have hp := hm _ (getD_mem (d := default) ht)
      simp only [peerB, Bool.and_eq_true] at hp
      exact hp.1
     refine V1 ?_; constructor <;> (first | (with_reducible exact TT.i) | (intros; (repeat (apply Wk.mk; intro Kv hN hX hR)); apply Wr.mk))
     all_goals (try simp only [Int.toNat_natCast, decide_eq_true_eq, decide_eq_false_iff_not, Bool.not_eq_true', Bool.not_eq_false'] at *)
     all_goals first
      | exact Ob.mk ⟨by omega, by omega⟩
      | (with_reducible refine Ob.mk ?_
         have g1 := outH_len b l x i
         simp only [Rw.len, Rw.bts, Rw.kd, kdBytes, List.length_cons, List.length_nil, List.length_append]
         clear hs h1 h2
         omega)
      | (have hlt : i < l.length := by omega
         have hq := hpl i hlt
         have hfi := far_inj hb hq h2
         first
          | (have hk : ¬ l.countP (fun p => decide (farI b p.id < farI b x)) < i := by with_reducible assumption
             have hg : farI b x ≤ farI b (l.getD i default).id := by with_reducible assumption
             have hc : ¬ i < l.countP (fun p => decide (farI b p.id < farI b x)) := fun h => by
              have := (far_iff hs hlt).2 h
              omega
             have e3 : decide (l.countP (fun p => decide (farI b p.id < farI b x)) < i + 1) = true := decide_eq_true (by omega)
             first
              | (have hid : (l.getD i default).id = x := by with_reducible assumption
                 have e1 := outH_eq hs hlt (hfi.2 hid)
                 refine ⟨i + 1, by show i + 1 ≤ l.length; omega, by show l.length - (i + 1) < l.length - i; omega, ?_⟩
                 refine V1 ?_; constructor <;> (first | (with_reducible exact TT.i) | (intros; (repeat (apply Wk.mk; intro Kv hN hX hR)); apply Wr.mk))
                 all_goals first
                  | exact wrapI (by omega) (by omega)
                  | with_reducible exact congrArg Rw.peers e1.symm
                  | with_reducible exact e3
                  | with_reducible exact e3.symm
                  | rfl)
              | (have hid : ¬ (l.getD i default).id = x := by with_reducible assumption
                 have hne : farI b x < farI b (l.getD i default).id := by
                  have := fun h => hid (hfi.1 h)
                  omega
                 have e1 := (outH_new hs hlt hne hk).1
                 refine ⟨i + 1, by show i + 1 ≤ l.length; omega, by show l.length - (i + 1) < l.length - i; omega, ?_⟩
                 refine V1 ?_; constructor <;> (first | (with_reducible exact TT.i) | (intros; (repeat (apply Wk.mk; intro Kv hN hX hR)); apply Wr.mk))
                 all_goals first
                  | exact wrapI (by omega) (by omega)
                  | with_reducible exact congrArg Rw.peers e1.symm
                  | with_reducible exact e3
                  | with_reducible exact e3.symm
                  | rfl))
          | (have hk : ¬ l.countP (fun p => decide (farI b p.id < farI b x)) < i := by with_reducible assumption
             have hg : ¬ farI b x ≤ farI b (l.getD i default).id := by with_reducible assumption
             have hg2 : farI b (l.getD i default).id < farI b x := by omega
             have hc := (far_iff hs hlt).1 hg2
             have e1 := outH_lt hs hlt hg2
             have e3 : decide (l.countP (fun p => decide (farI b p.id < farI b x)) < i + 1) = false := decide_eq_false (by omega)
             have e4 : decide (l.countP (fun p => decide (farI b p.id < farI b x)) < i) = false := decide_eq_false hk
             first
              | (exfalso
                 have hid : (l.getD i default).id = x := by with_reducible assumption
                 have := hfi.2 hid
                 omega)
              | (refine ⟨i + 1, by show i + 1 ≤ l.length; omega, by show l.length - (i + 1) < l.length - i; omega, ?_⟩
                 refine V1 ?_; constructor <;> (first | (with_reducible exact TT.i) | (intros; (repeat (apply Wk.mk; intro Kv hN hX hR)); apply Wr.mk))
                 all_goals first
                  | exact wrapI (by omega) (by omega)
                  | with_reducible exact congrArg Rw.peers e1.symm
                  | with_reducible exact e3.trans e4.symm
                  | with_reducible exact e4.trans e3.symm
                  | with_reducible exact e3
                  | with_reducible exact e3.symm
                  | rfl))
          | (have hk : l.countP (fun p => decide (farI b p.id < farI b x)) < i := by with_reducible assumption
             have e1 := outH_gt hs hlt hk
             have e3 : decide (l.countP (fun p => decide (farI b p.id < farI b x)) < i + 1) = true := decide_eq_true (by omega)
             have e4 : decide (l.countP (fun p => decide (farI b p.id < farI b x)) < i) = true := decide_eq_true hk
             first
              | (exfalso
                 have hid : (l.getD i default).id = x := by with_reducible assumption
                 have := (far_at hs hlt (hfi.2 hid)).2
                 omega)
              | (refine ⟨i + 1, by show i + 1 ≤ l.length; omega, by show l.length - (i + 1) < l.length - i; omega, ?_⟩
                 refine V1 ?_; constructor <;> (first | (with_reducible exact TT.i) | (intros; (repeat (apply Wk.mk; intro Kv hN hX hR)); apply Wr.mk))
                 all_goals first
                  | exact wrapI (by omega) (by omega)
                  | with_reducible exact congrArg Rw.peers e1.symm
                  | with_reducible exact e3.trans e4.symm
                  | with_reducible exact e4.trans e3.symm
                  | with_reducible exact e3
                  | with_reducible exact e3.symm
                  | rfl)))
      | (have hge : i = l.length := by omega
         have e1 := outH_end h1 h2
         have e2 := heardP_len h1 h2 h3
         subst hge
         first
          | (have hc : l.countP (fun p => decide (farI b p.id < farI b x)) < l.length := by with_reducible assumption
             rw [if_pos hc] at e1
             rw [e1] at e2
             first
              | (have h5 : 16 < ((outH b l x l.length).length : Int) := by with_reducible assumption
                 rw [if_pos (by omega)] at e2
                 rw [e2] <;> rfl)
              | (have h5 : ¬ 16 < ((outH b l x l.length).length : Int) := by with_reducible assumption
                 rw [if_neg (by omega)] at e2
                 rw [e2] <;> rfl))
          | (have hc : ¬ l.countP (fun p => decide (farI b p.id < farI b x)) < l.length := by with_reducible assumption
             rw [if_neg hc] at e1
             rw [e1] at e2
             first
              | (have h5 : 16 < ((outH b l x l.length ++ [(⟨x, 0⟩ : GPeer)]).length : Int) := by with_reducible assumption
                 rw [if_pos (by omega)] at e2
                 rw [e2] <;> rfl)
              | (have h5 : ¬ 16 < ((outH b l x l.length ++ [(⟨x, 0⟩ : GPeer)]).length : Int) := by with_reducible assumption
                 rw [if_neg (by omega)] at e2
                 rw [e2] <;> rfl))))
end Go.Proofs.YtjjpakdlkjaigaaGreat

/- Contracts: the document's: a greeting. -/
namespace Go.Proofs.YtjjpakdlkjaigaaGreat
open Go.RowKit
set_option maxRecDepth 20000
theorem hasN {v : GView} {x : Int} (h : viewB v = true) (hx : placeB x = true) : hasI (namesP v.peers) x = hasP v.id v.peers x := by
 obtain ⟨hb, h16, hs, hm⟩ := peersB_iff.1 (viewB_iff.1 h).1
 unfold hasI hasP namesP
 rw [List.any_map]
 have key : ∀ p ∈ v.peers, decide (p.id = x) = decide (farI v.id p.id = farI v.id x) := fun p hp => by
  have hq := hm p hp
  simp only [peerB, Bool.and_eq_true] at hq
  exact decide_eq_decide.2 (far_inj hb hq.1 hx).symm
 rw [Bool.eq_iff_iff, List.any_eq_true, List.any_eq_true]
 constructor
 · rintro ⟨p, hp, e⟩
   exact ⟨p, hp, by rw [← key p hp]; exact e⟩
 · rintro ⟨p, hp, e⟩
   exact ⟨p, hp, by rw [← key p hp] at e; exact e⟩
noncomputable def oHeardL (b : Int) (l : List GPeer) (x : Int) : Out := .ok (.tup [.row .new (.peers (heardP b l x).1), .int .i64 (heardP b l x).2]) []
noncomputable def oWithoutL (l : List Int) (x : Int) : Out := .ok (.tup [.row .new (.ints (withoutP l x).1), .int .i64 (withoutP l x).2]) []
theorem k_refHeardL : Known Tryz.prog tau 173 (S3 dInt dPeers dInt oHeardL) := loose3 k_refHeard fun _ _ _ => rfl
theorem k_refWithoutPL : Known Tryz.prog tau 174 (S2 dInts dInt oWithoutL) := loose2 k_refWithoutP fun _ _ => rfl
theorem k_refNamesL : Known Tryz.prog tau 59 (S1 dPeers fun l => .ok (.row .new (.ints (namesP l))) []) := loose1 k_refNames fun _ => rfl
theorem k_refCopyView : Known Tryz.prog tau 123 (S1 dView fun v => .ok (.agg [.int .i64 v.id, .own 0, .own 1]) [.peers v.peers, .ints v.passive]) := by
 refine known1 hmix tau_ok ctx_nil (fn := Tryz.f123) (by kernel_rfl) [] (by kernel_rfl) _ _ fun v hfit => ⟨rfl, [], ?_⟩
 have hp3 : v.peers.length * 16 ≤ 140737488355328 := hfit.1.2.1
 have hp4 : v.passive.length * 8 ≤ 140737488355328 := hfit.1.2.2.1
 clear hfit
 refine V1 ?_; constructor <;> (first | (with_reducible exact TT.i) | (intros; (repeat (apply Wk.mk; intro Kv hN hX hR)); apply Wr.mk))
 all_goals first
  | (refine Ob.mk ?_
     simp only [Rw.len, Rw.bts, Rw.kd, kdBytes, List.length_nil]
     omega)
  | rfl
theorem k_refCopyViewL : Known Tryz.prog tau 123 (S1 dView fun v => .ok (.agg (vNew v)) []) := loose1 k_refCopyView fun _ => rfl
noncomputable abbrev rknownCtx : List (FuncId × Spec) := [(119, S2 dInts dInt fun l x => okB (hasI l x)), (59, S1 dPeers fun l => .ok (.row .new (.ints (namesP l))) []), (173, S3 dInt dPeers dInt oHeardL), (174, S2 dInts dInt oWithoutL)]
theorem t_rknown : TrKnown Tryz.prog tau 122 (inlT tau (mkCtx rknownCtx) [] [] Tryz.f122) := inl_ok hmix tau_ok (ctx_cons k_has (ctx_cons k_refNamesL (ctx_cons k_refHeardL (ctx_cons k_refWithoutPL ctx_nil)))) (by kernel_rfl) _ (by kernel_rfl) []
theorem known_yes {v : GView} {x : Int} (h : hasP v.id v.peers x = true ∨ hasI v.passive x = true ∨ v.peers.length + v.passive.length < 16) : knownV v x = ⟨v.id, (heardP v.id v.peers x).1, (withoutP v.passive x).1⟩ := by
 rw [knownV_def, if_neg]
 rintro ⟨h1, h2⟩
 unfold knownB at h1
 rcases h with h | h | h
 · rw [h] at h1; simp at h1
 · rw [h] at h1; simp at h1
 · omega
theorem known_no {v : GView} {x : Int} (h1 : hasP v.id v.peers x = false) (h2 : hasI v.passive x = false) (h3 : 16 ≤ v.peers.length + v.passive.length) : knownV v x = v := by
 rw [knownV_def, if_pos ⟨by unfold knownB; rw [h1, h2]; rfl, h3⟩]
theorem stepK_same {u : GView} {y : Int} (h : y = u.id ∨ hasP u.id u.peers y = true ∨ hasI u.passive y = true) : stepK u y = u := by
 unfold stepK
 rw [if_neg]
 rintro ⟨h1, h2⟩
 unfold knownB at h2
 rcases h with h | h | h
 · exact h1 h
 · rw [h] at h2; simp at h2
 · rw [h] at h2; simp at h2
theorem stepK_kn {u : GView} {y : Int} (h1 : ¬ y = u.id) (h2 : hasP u.id u.peers y = false) (h3 : hasI u.passive y = false) : stepK u y = knownV u y := by
 unfold stepK
 rw [if_pos ⟨h1, by unfold knownB; rw [h2, h3]; rfl⟩]
set_option maxHeartbeats 8000000 in
theorem k_refHello : Known Tryz.prog tau 69 (S3 dView dInt dInts oHello) := by
 refine knownX3 hmix tau_ok (fn := Tryz.f69) (by kernel_rfl) [(7, ((0, 0) :: (1, 0) :: (2, 3) :: (3, 4) :: (4, 0) :: (5, 16) :: (6, 40) :: (7, 64) :: (8, 128) :: (9, 384) :: (10, 128) :: (11, 128) :: (12, 3200) :: (13, 4224) :: (14, 8832) :: (15, 16512) :: (16, 32896) :: (17, 81920) :: (18, 131072) :: (19, 393216) :: (20, 655360) :: (21, 131072) :: (22, 131072) :: (23, 6422528) :: (24, 8519680) :: (25, 17956864) :: (26, 33685504) :: (27, 67239936) :: [])), (8, [(0, 0), (1, 0), (2, 0), (3, 6), (4, 8), (5, 17), (6, 63)])] (by kernel_rfl) _ _ _ _ fun v x ids hfit => ⟨rfl, _, ctx_tr t_rknown (ctx_cons k_refView (ctx_cons k_refPlace (ctx_cons k_refPlaces (ctx_cons k_refCopyViewL (ctx_cons k_refNamesL (ctx_cons k_has ctx_nil)))))),
  [(5, invX (Nat × GView) (9 :: 39 :: 40 :: 41 :: 42 :: 43 :: 44 :: 45 :: 46 :: 47 :: 48 :: 49 :: 50 :: 51 :: 52 :: 53 :: 54 :: 55 :: 56 :: 57 :: 58 :: 59 :: 60 :: 61 :: 62 :: 63 :: 64 :: 65 :: 66 :: 67 :: 68 :: 69 :: 70 :: 71 :: 72 :: 73 :: 74 :: 75 :: 76 :: 77 :: 78 :: []) [8, 10000002, 10000004] (fun g => g.1 ≤ ids.length ∧ viewB g.2 = true ∧ g.2.id = v.id ∧ foldK (knownV v x) ids = foldK g.2 (ids.drop g.1)) (fun g => match g with
    | (i, u) => fun st => withS [(9, .int .i64 i)] (withB [(8, (48, [.int .i64 u.id, .row .new (.peers u.peers), .row .new (.ints u.passive)]))] st)) (fun g => ids.length - g.1))], ?_⟩
 have hlen : ids.length * 8 ≤ 140737488355328 := hfit.2.2.1
 clear hfit
 refine V4 ?_; constructor <;> (first | (with_reducible exact TT.i) | (intros; (repeat (apply Wk.mk; intro Kv hN hX hR)); apply Wr.mk))
 all_goals (try simp only [etaView] at *)
 all_goals first
  | (rw [helloV_no (.inl (nf aQ))] <;> rfl)
  | (rw [helloV_no (.inr (.inl (nf aQ)))] <;> rfl)
  | (rw [helloV_no (.inr (.inr (.inl (of_decide_eq_true aQ))))] <;> rfl)
  | (have h := of_decide_eq_true (show decide ((16 : Int) < (ids.length : Nat)) = true by with_reducible assumption)
     rw [helloV_no (.inr (.inr (.inr (.inl (by omega)))))] <;> rfl)
  | (rw [helloV_no (.inr (.inr (.inr (.inr (nf aQ)))))] <;> rfl)
  | (have hB := nt (show (!viewB v) = false by with_reducible assumption)
     have hb := viewB_iff.1 hB
     have w1 : IntKind.i64.wrap ((v.peers.length : Int) + (v.passive.length : Int)) = (v.peers.length : Int) + (v.passive.length : Int) := wrapI (by omega) (by omega)
     have hX := nt (show (!placeB x) = false by with_reducible assumption)
     have hNe := of_decide_eq_false (show decide (x = v.id) = false by with_reducible assumption)
     have hk := known_ok hB hX hNe
     have hN := hasN hB hX
     first
      | (have e := known_no (v := v) (x := x) (hN.symm.trans (nf aQ)) (nf aQ) (by
          have h := of_decide_eq_true (show decide ((16 : Int) ≤ IntKind.i64.wrap ((v.peers.length : Int) + (v.passive.length : Int))) = true by with_reducible assumption)
          rw [w1] at h
          omega)
         refine ⟨(0, v), ⟨Nat.zero_le _, hB, rfl, by rw [e]; rfl⟩, ?_⟩
         clear hk hb hB hN w1
         refine V1 ?_; constructor <;> (first | (with_reducible exact TT.i) | (intros; (repeat (apply Wk.mk; intro Kv hN hX hR)); apply Wr.mk))
         all_goals rfl)
      | (have e : knownV v x = ⟨v.id, (heardP v.id v.peers x).1, (withoutP v.passive x).1⟩ := by
          first
           | exact known_yes (.inr (.inl (nt aQ)))
           | exact known_yes (.inl (hN.symm.trans (nt aQ)))
           | exact known_yes (.inr (.inr (by
              have h := of_decide_eq_false (show decide ((16 : Int) ≤ IntKind.i64.wrap ((v.peers.length : Int) + (v.passive.length : Int))) = false by with_reducible assumption)
              rw [w1] at h
              omega)))
         rw [e] at hk
         refine ⟨(0, ⟨v.id, (heardP v.id v.peers x).1, (withoutP v.passive x).1⟩), ⟨Nat.zero_le _, hk.1, rfl, by rw [e]; rfl⟩, ?_⟩
         clear hk hb hB hN w1
         refine V1 ?_; constructor <;> (first | (with_reducible exact TT.i) | (intros; (repeat (apply Wk.mk; intro Kv hN hX hR)); apply Wr.mk))
         all_goals rfl))
  | (rintro ⟨i, u⟩ ⟨hi, hu, hid, hf⟩
     dsimp only at hi hu hid hf
     have hB := nt (show (!viewB v) = false by with_reducible assumption)
     have hX := nt (show (!placeB x) = false by with_reducible assumption)
     have hNe := of_decide_eq_false (show decide (x = v.id) = false by with_reducible assumption)
     have h16 := of_decide_eq_false (show decide ((16 : Int) < (ids.length : Nat)) = false by with_reducible assumption)
     have hA := nt (show (!ids.all placeB) = false by with_reducible assumption)
     have hy := helloV_yes hB hX hNe (show ids.length ≤ 16 by omega) hA
     have hb := viewB_iff.1 hu
     have w2 : IntKind.i64.wrap ((u.peers.length : Int) + (u.passive.length : Int)) = (u.peers.length : Int) + (u.passive.length : Int) := wrapI (by omega) (by omega)
     clear hb
     refine V1 ?_; constructor <;> (first | (with_reducible exact TT.i) | (intros; (repeat (apply Wk.mk; intro Kv hN hX hR)); apply Wr.mk))
     all_goals (try simp only [Int.toNat_natCast, etaView] at *)
     all_goals first
      | exact Ob.mk ⟨by omega, of_decide_eq_true aQ⟩
      | (have h := of_decide_eq_true (show decide ((i : Int) < (ids.length : Nat)) = true by with_reducible assumption)
         have hx := List.all_eq_true.1 hA _ (getD_mem (l := ids) (i := i) (d := 0) (by omega))
         have hst := stepK_ok hu hx
         have hN := hasN hu hx
         have hn := hf.trans (foldK_next (v := u) (l := ids) (i := i) (by omega))
         first
          | (have e : stepK u (ids.getD i 0) = u := by
              first
               | exact stepK_same (.inl ((of_decide_eq_true (nt (b := decide (ids.getD i 0 = v.id)) aQ)).trans hid.symm))
               | exact stepK_same (.inr (.inl (hN.symm.trans (nt (b := hasI (namesP u.peers) (ids.getD i 0)) aQ))))
               | exact stepK_same (.inr (.inr (nt (b := hasI u.passive (ids.getD i 0)) aQ)))
               | exact (stepK_kn (fun h => of_decide_eq_false (nf (b := decide (ids.getD i 0 = v.id)) aQ) (h.trans hid)) (hN.symm.trans (nf aQ)) (nf aQ)).trans (known_no (hN.symm.trans (nf aQ)) (nf aQ) (by
                  have h := of_decide_eq_true (show decide ((16 : Int) ≤ IntKind.i64.wrap ((u.peers.length : Int) + (u.passive.length : Int))) = true by with_reducible assumption)
                  rw [w2] at h
                  omega))
             rw [e] at hn
             refine ⟨(i + 1, u), ⟨by show i + 1 ≤ ids.length; omega, hu, hid, hn⟩, by show ids.length - (i + 1) < ids.length - i; omega, ?_⟩
             refine V1 ?_; constructor <;> (first | (with_reducible exact TT.i) | (intros; (repeat (apply Wk.mk; intro Kv hN hX hR)); apply Wr.mk))
             all_goals first
              | exact wrapI (by omega) (by omega)
              | rfl)
          | (have e : stepK u (ids.getD i 0) = ⟨u.id, (heardP u.id u.peers (ids.getD i 0)).1, (withoutP u.passive (ids.getD i 0)).1⟩ :=
              (stepK_kn (fun h => of_decide_eq_false (nf (b := decide (ids.getD i 0 = v.id)) aQ) (h.trans hid)) (hN.symm.trans (nf aQ)) (nf aQ)).trans (known_yes (.inr (.inr (by
                  have h := of_decide_eq_false (show decide ((16 : Int) ≤ IntKind.i64.wrap ((u.peers.length : Int) + (u.passive.length : Int))) = false by with_reducible assumption)
                  rw [w2] at h
                  omega))))
             rw [e] at hn hst
             refine ⟨(i + 1, ⟨u.id, (heardP u.id u.peers (ids.getD i 0)).1, (withoutP u.passive (ids.getD i 0)).1⟩), ⟨by show i + 1 ≤ ids.length; omega, hst.1, hid, hn⟩, by show ids.length - (i + 1) < ids.length - i; omega, ?_⟩
             refine V1 ?_; constructor <;> (first | (with_reducible exact TT.i) | (intros; (repeat (apply Wk.mk; intro Kv hN hX hR)); apply Wr.mk))
             all_goals first
              | exact wrapI (by omega) (by omega)
              | rfl)
          | (exfalso
             have h1 := nf (b := hasI u.passive (ids.getD i 0)) aQ
             have h2 := nt (b := hasI u.passive (ids.getD i 0)) aQ
             rw [h1] at h2
             exact Bool.noConfusion h2)
          | (exfalso
             have h1 := nf (b := hasI (namesP u.peers) (ids.getD i 0)) aQ
             have h2 := nt (b := hasI (namesP u.peers) (ids.getD i 0)) aQ
             rw [h1] at h2
             exact Bool.noConfusion h2))
      | (have h := of_decide_eq_false (show decide ((i : Int) < (ids.length : Nat)) = false by with_reducible assumption)
         have e : foldK (knownV v x) ids = u := by rw [hf, foldK_end (by omega)]
         rw [e] at hy
         rw [hy] <;> rfl))
end Go.Proofs.YtjjpakdlkjaigaaGreat

/- Contracts: the document's: a message that comes. -/
namespace Go.Proofs.YtjjpakdlkjaigaaGreat
open Go.RowKit
set_option maxRecDepth 20000
set_option maxHeartbeats 4000000 in
theorem k_refHandle : Known Tryz.prog tau 27 (S2 dNode dMsg oHandle) := by
 refine known2 hmix tau_ok (ctx_cons k_upMay (ctx_cons k_refMsg (ctx_cons k_refHello (ctx_cons k_refCopyNode (ctx_cons k_refTakeN (ctx_cons k_refAnswer (ctx_cons k_refTold ctx_nil))))))) (fn := Tryz.f27) (by kernel_rfl) [] (by kernel_rfl) _ _ _ fun x m hfit => ⟨rfl, [], ?_⟩
 clear hfit
 refine V1 ?_; constructor <;> (first | (with_reducible exact TT.i) | (intros; (repeat (apply Wk.mk; intro Kv hN hX hR)); apply Wr.mk))
 all_goals (try simp only [etaNode, etaMsg, etaItem, etaView] at *)
 all_goals first
  | (rw [handleN_no (.inl (nf aQ))] <;> rfl)
  | (rw [handleN_no (.inr (.inl (nf aQ)))] <;> rfl)
  | (rw [handleN_no (.inr (.inr (of_decide_eq_false (nf (b := decide (m.dst = x.view.id)) aQ))))] <;> rfl)
  | (have h1 := nt (show (!(x.up && nodeB x)) = false by with_reducible assumption)
     have h2 := nt (show (!mayB m) = false by with_reducible assumption)
     have h3 := of_decide_eq_true (nt (b := decide (m.dst = x.view.id)) aQ)
     first
      | (rw [handle_0 h1 h2 h3 (of_decide_eq_true (show decide (m.kind = 0) = true by with_reducible assumption))] <;> rfl)
      | (rw [handle_1 h1 h2 h3 (of_decide_eq_true (show decide (m.kind = 1) = true by with_reducible assumption))] <;> rfl)
      | (rw [handle_2 h1 h2 h3 (of_decide_eq_true (show decide (m.kind = 2) = true by with_reducible assumption))] <;> rfl)
      | (have k0 := of_decide_eq_false (show decide (m.kind = 0) = false by with_reducible assumption)
         have k1 := of_decide_eq_false (show decide (m.kind = 1) = false by with_reducible assumption)
         have k2 := of_decide_eq_false (show decide (m.kind = 2) = false by with_reducible assumption)
         have k3 : m.kind = 3 := by
          rcases mayB_kind h2 with h | h | h | h
          · exact absurd h k0
          · exact absurd h k1
          · exact absurd h k2
          · exact h
         rw [handle_3 h1 h2 h3 k3] <;> rfl))
end Go.Proofs.YtjjpakdlkjaigaaGreat

/- Plain law: what is put at a node stands there, and is told when it is its own. -/
namespace Go.Proofs.YtjjpakdlkjaigaaGreat
open Go.RowKit
theorem getS_at {l : List GItem} {j : Nat} {k : Int} (hs : storeB l = true) (hj : j < l.length) (hk : (l.getD j default).key = k) : getS l k = (l.getD j default, true) := by
 have e2 : l.countP (fun q => decide (q.key < k)) = j := (key_eq (x := ⟨k, ⟨0, 0⟩, 0, false⟩) (storeB_iff.1 hs).2.1 hj hk).2
 rw [getS_yes hs (hasK_at hj hk), e2]
theorem put_get {l : List GItem} {x : GItem} (hs : storeB l = true) (hx : itemB x = true) (hc : (getS l x.key).1.ver.count < x.ver.count) (h0 : (putI l x).2 = 0) : getS (putI l x).1 x.key = (x, true) := by
 have hs2 := putI_ok hs hx h0
 cases hh : hasK l x.key with
 | true =>
   have hn := cntK_at (storeB_iff.1 hs).2.1 hh
   have hg : (getS l x.key).1 = l.getD (l.countP fun i => decide (i.key < x.key)) default := by rw [getS_yes hs hh]
   rw [hg] at hc
   have hm := (storeB_iff.1 hs).2.2 _ (getD_mem (d := default) hn.1)
   have hb : bestI (l.getD (l.countP fun i => decide (i.key < x.key)) default) x = (x, 0) := by
    rw [bestI_yes hm hx hn.2, if_neg]
    unfold betterB newerB
    rw [if_neg (by omega)]
    simp only [Bool.or_eq_true, Bool.and_eq_true, decide_eq_true_eq]
    omega
   rw [putI_has hs hx hh, hb] at hs2 ⊢
   dsimp only at hs2 ⊢
   have e : (l.set (l.countP fun i => decide (i.key < x.key)) x).getD (l.countP fun i => decide (i.key < x.key)) default = x := by
    simp [List.getD_eq_getElem?_getD, hn.1]
   have h := getS_at (j := l.countP fun i => decide (i.key < x.key)) (k := x.key) hs2 (by rw [List.length_set]; exact hn.1) (by rw [e])
   rw [h, e]
 | false =>
   by_cases h16 : l.length = 16
   · rw [putI_full hs hx hh h16] at h0
     simp at h0
   · rw [putI_yes hs hx hh h16] at hs2 ⊢
     dsimp only at hs2 ⊢
     have hle : l.countP (fun i => decide (i.key < x.key)) ≤ l.length := List.countP_le_length
     generalize l.countP (fun i => decide (i.key < x.key)) = c at *
     have e : (l.take c ++ [x] ++ l.drop c).getD c default = x := by
      rw [List.getD_eq_getElem?_getD, List.append_assoc, List.getElem?_append_right (by rw [List.length_take]; omega), List.length_take, Nat.min_eq_left hle, Nat.sub_self]
      rfl
     have h := getS_at (j := c) (k := x.key) hs2 (by simp; omega) (by rw [e])
     rw [h, e]
theorem wrote_get {x : GNode} {i : GItem} (hx : (x.up && nodeB x) = true) (hk : placeB i.key = true) (hv : placeB i.value = true) (hg : i.gone = true → i.value = 0) (h0 : (wroteN x i).2 = 0) :
  getS (wroteN x i).1.items i.key = (itW x i, true) ∧ (wroteN x i).1.log = x.log := by
 obtain ⟨hu, hb⟩ := up_iff.1 hx
 by_cases h1 : 65535 < (getS x.items i.key).1.ver.count + 1
 · rw [wroteN_big hx hk hv h1] at h0; simp at h0
 · by_cases h2 : (putI x.items (itW x i)).2 = 0
   · rw [wroteN_yes hx hk hv h1 h2]
     have hst := (nodeB_iff.1 hb).2.1
     have hi : itemB (itW x i) = true := by
      cases e : itemB (itW x i) with
      | true => rfl
      | false => rw [putI_no (.inr e)] at h2; simp at h2
     refine ⟨?_, rfl⟩
     exact put_get (x := itW x i) hst hi (show (getS x.items i.key).1.ver.count < (getS x.items i.key).1.ver.count + 1 by omega) h2
   · rw [wroteN_full hx hk hv h1 h2] at h0; simp at h0
section
variable {w : GWorld} {k : Nat} (hw : worldB w = true) (hk : k < w.nodes.length) {ky vl : Int} (h1 : placeB ky = true) (h2 : placeB vl = true)
include hw hk
theorem at_nd : RisingN w.nodes ∧ ndX w.nodes (w.nodes.getD k default).view.id = k ∧ isNd w.nodes (w.nodes.getD k default).view.id = true ∧ ndAt w.nodes (w.nodes.getD k default).view.id = w.nodes.getD k default := by
 have hr := base_rising (worldB_base.1 hw).1
 have hx : ndX w.nodes (w.nodes.getD k default).view.id = k := ndX_of hr hk
 exact ⟨hr, hx, isNd_mem (getD_mem hk), by unfold ndAt; rw [hx]⟩
include h1 h2
theorem put_act : actB w ⟨8, (w.nodes.getD k default).view.id, 0, 0, [], ky, vl⟩ = true := by
 have h := (at_nd hw hk).2.2.1
 unfold actB
 rw [if_neg (by simp), if_neg (by simp)]
 simp only [h, h1, h2, Bool.true_and]
 rfl
theorem put_no (h0 : ¬ (wroteN (w.nodes.getD k default) ⟨ky, ⟨0, 0⟩, vl, false⟩).2 = 0) : doW w ⟨8, (w.nodes.getD k default).view.id, 0, 0, [], ky, vl⟩ = (w, 0) := by
 have h := at_nd hw hk
 refine do8_no hw (put_act hw hk h1 h2) rfl ?_
 rw [h.2.2.2]
 exact h0
theorem put_yes (h0 : (wroteN (w.nodes.getD k default) ⟨ky, ⟨0, 0⟩, vl, false⟩).2 = 0) : doW w ⟨8, (w.nodes.getD k default).view.id, 0, 0, [], ky, vl⟩ = (⟨w.nodes.set k (wroteN (w.nodes.getD k default) ⟨ky, ⟨0, 0⟩, vl, false⟩).1, w.cuts, w.packets⟩, 0) ∧
  worldB ⟨w.nodes.set k (wroteN (w.nodes.getD k default) ⟨ky, ⟨0, 0⟩, vl, false⟩).1, w.cuts, w.packets⟩ = true := by
 have h := at_nd hw hk
 have ha := put_act hw hk h1 h2
 have e := do8_yes hw ha rfl (by rw [h.2.2.2]; exact h0)
 dsimp only at e
 rw [h.2.2.2] at e
 unfold setNd at e
 rw [h.2.1] at e
 have hm := step_may hw ha
 rw [doW_yes hw ha] at e
 have e2 := congrArg Prod.fst e
 dsimp only at e2
 rw [e2] at hm
 exact ⟨by rw [doW_yes hw ha, e2], hm⟩
end
theorem get_do {w : GWorld} {k : Nat} {ky : Int} (hw : worldB w = true) (hk : k < w.nodes.length) (h1 : placeB ky = true) (hu : (w.nodes.getD k default).up = true) :
  doW w ⟨10, (w.nodes.getD k default).view.id, 0, 0, [], ky, 0⟩ = (⟨w.nodes.set k (askN (w.nodes.getD k default) ky).1, w.cuts, w.packets ++ (askN (w.nodes.getD k default) ky).2.1.take (512 - w.packets.length)⟩, 0) := by
 obtain ⟨hr, hx, hid, hat⟩ := at_nd hw hk
 have ha : actB w ⟨10, (w.nodes.getD k default).view.id, 0, 0, [], ky, 0⟩ = true := by
  unfold actB
  rw [if_neg (by simp), if_neg (by simp)]
  simp only [hid, h1, Bool.true_and]
  rfl
 refine do_of hw ha ?_
 rw [actW_10 rfl]
 dsimp only
 rw [hat, if_pos hu]
 unfold turnW sendP setNd
 rw [hx]
theorem note_last {x : GNode} {k : Int} {i : GItem} (hl : x.log.length ≤ 64) (hg : i.gone = false) : (noteN x k i true).log = x.log.drop (x.log.length + 1 - 64) ++ [⟨k, true, i.value⟩] := by
 have e : toldT k i true = ⟨k, true, i.value⟩ := by
  unfold toldT
  rw [hg]
  rfl
 show (x.log ++ [toldT k i true]).drop (x.log.length + 1 - 64) = _
 rw [e, List.drop_append_of_le_length (by omega)]
theorem put_asked {x : GNode} {ky vl : Int} (hx : (x.up && nodeB x) = true) (h1 : placeB ky = true) (h2 : placeB vl = true) (h0 : (wroteN x ⟨ky, ⟨0, 0⟩, vl, false⟩).2 = 0) :
  ((askN (wroteN x ⟨ky, ⟨0, 0⟩, vl, false⟩).1 ky).2.1 = [] ∧ ∃ L, L.length ≤ 64 ∧ (askN (wroteN x ⟨ky, ⟨0, 0⟩, vl, false⟩).1 ky).1.log = L ++ [⟨ky, true, vl⟩]) ∨
  (∃ m, (askN (wroteN x ⟨ky, ⟨0, 0⟩, vl, false⟩).1 ky).2.1 = [m]) ∧ (askN (wroteN x ⟨ky, ⟨0, 0⟩, vl, false⟩).1 ky).1 = (wroteN x ⟨ky, ⟨0, 0⟩, vl, false⟩).1 := by
 obtain ⟨f1, f2, f3⟩ := wrote_facts (i := ⟨ky, ⟨0, 0⟩, vl, false⟩) hx h1 h2 (by simp) h0
 obtain ⟨g1, g2⟩ := wrote_get (i := ⟨ky, ⟨0, 0⟩, vl, false⟩) hx h1 h2 (by simp) h0
 have hy : ((wroteN x ⟨ky, ⟨0, 0⟩, vl, false⟩).1.up && nodeB (wroteN x ⟨ky, ⟨0, 0⟩, vl, false⟩).1) = true := up_iff.2 ⟨f3, f1⟩
 have hlog := node_log hy
 rw [askN_def, if_pos ⟨hy, h1⟩]
 split
 · left
   refine ⟨rfl, (wroteN x ⟨ky, ⟨0, 0⟩, vl, false⟩).1.log.drop ((wroteN x ⟨ky, ⟨0, 0⟩, vl, false⟩).1.log.length + 1 - 64), by rw [List.length_drop]; omega, ?_⟩
   dsimp only at g1 ⊢
   rw [g1]
   exact note_last hlog rfl
 · right
   exact ⟨⟨_, rfl⟩, rfl⟩
theorem set_at {l : List GNode} {k : Nat} (hk : k < l.length) (x : GNode) : (l.set k x).getD k default = x := by simp [List.getD_eq_getElem?_getD, hk]
theorem get_put {w : GWorld} {k : Nat} {ky vl : Int} (hw : worldB w = true) (hk : k < w.nodes.length) (h1 : placeB ky = true) (h2 : placeB vl = true) (h0 : (wroteN (w.nodes.getD k default) ⟨ky, ⟨0, 0⟩, vl, false⟩).2 = 0) :
  ∃ N P, doW ⟨w.nodes.set k (wroteN (w.nodes.getD k default) ⟨ky, ⟨0, 0⟩, vl, false⟩).1, w.cuts, w.packets⟩ ⟨10, (w.nodes.getD k default).view.id, 0, 0, [], ky, 0⟩ = (⟨w.nodes.set k N, w.cuts, P⟩, 0) ∧
   ((P = w.packets ∧ ∃ L, L.length ≤ 64 ∧ N.log = L ++ [⟨ky, true, vl⟩]) ∨ (N = (wroteN (w.nodes.getD k default) ⟨ky, ⟨0, 0⟩, vl, false⟩).1 ∧ (P.length = w.packets.length + 1 ∨ w.packets.length = 512))) := by
 obtain ⟨hr, hx, hid, hat⟩ := at_nd hw hk
 have hb := (nodesB_iff.1 (baseB_iff.1 (worldB_base.1 hw).1).1).2.2.2 _ (getD_mem (d := default) hk)
 have hup := wrote_up h0
 have hup2 := up_iff.2 ⟨hup, hb⟩
 obtain ⟨f1, f2, f3⟩ := wrote_facts (i := ⟨ky, ⟨0, 0⟩, vl, false⟩) hup2 h1 h2 (by simp) h0
 have hA := (put_yes hw hk h1 h2 h0).2
 have hs := set_at hk (wroteN (w.nodes.getD k default) ⟨ky, ⟨0, 0⟩, vl, false⟩).1
 have hg := get_do (k := k) (ky := ky) hA (by simpa using hk) h1 (by dsimp only; rw [hs]; exact f3)
 dsimp only at hg
 rw [hs, f2, List.set_set] at hg
 refine ⟨_, _, hg, ?_⟩
 rcases put_asked hup2 h1 h2 h0 with ⟨e1, e2⟩ | ⟨⟨m, e1⟩, e2⟩
 · left
   rw [e1]
   exact ⟨by simp, e2⟩
 · right
   refine ⟨e2, ?_⟩
   rw [e1]
   by_cases h5 : w.packets.length = 512
   · exact .inr h5
   · have := (worldB_base.1 hw).2.1
     left
     rw [List.take_of_length_le (by simp; omega)]
     simp
end Go.Proofs.YtjjpakdlkjaigaaGreat

/- Chapter 24: a packet that is lost, one that is doubled. -/
namespace Go.Proofs.YtjjpakdlkjaigaaGreat
open Go.RowKit
set_option maxRecDepth 20000
theorem pick24 (x : Int) : ∃ p : Nat, bits .and .i64 x 65535 = (p : Int) ∧ p ≤ 65535 := ⟨(x % 65536).toNat, by rw [and65535]; omega, by omega⟩
theorem actP {w : GWorld} {k : Int} {p : Nat} (hp : p ≤ 65535) (hk : k = 1 ∨ k = 2 ∨ k = 3) : actB w ⟨k, 0, 0, (p : Int), [], 0, 0⟩ = true := by
 unfold actB
 rw [if_pos hk]
 simp only [Bool.and_eq_true, decide_eq_true_eq]
 omega
theorem tmodN (p n : Nat) : (p : Int).tmod (n : Int) = ((p % n : Nat) : Int) := by
 rw [Int.tmod_eq_emod_of_nonneg (by omega)]
 omega
end Go.Proofs.YtjjpakdlkjaigaaGreat

/- Plain law: what comes over a cut is gone; healed it comes. -/
namespace Go.Proofs.YtjjpakdlkjaigaaGreat
open Go.RowKit
theorem mkCt_comm (a b : Int) : mkCt a b = mkCt b a := by
 unfold mkCt
 rw [GCut.mk.injEq]
 constructor
 · split <;> split <;> omega
 · split <;> split <;> omega
theorem with_has {l : List GCut} {a b : Int} (hm : mayCt l a b = true) (h32 : ¬ l.length = 32) : (withCt l a b).2 = 0 ∧ hasCt (withCt l a b).1 (mkCt a b) = true := by
 cases hh : hasCt l (mkCt a b) with
 | true =>
   rw [withCt_has hm hh]
   exact ⟨rfl, hh⟩
 | false =>
   rw [withCt_yes hm hh h32]
   exact ⟨rfl, List.any_eq_true.2 ⟨mkCt a b, mem_insK.2 (.inl rfl), decide_eq_true rfl⟩⟩
theorem out_not {l : List GCut} {a b : Int} (hm : mayCt l a b = true) : (outCt l a b).2 = 0 ∧ hasCt (outCt l a b).1 (mkCt a b) = false := by
 have hcb : cutsB l = true := by
  simp only [mayCt, Bool.and_eq_true] at hm
  exact hm.1
 have hp := cutsB_iff.1 hcb
 cases hh : hasCt l (mkCt a b) with
 | false =>
   rw [outCt_not hm hh]
   exact ⟨rfl, hh⟩
 | true =>
   rw [outCt_has hm hh]
   refine ⟨rfl, ?_⟩
   obtain ⟨h1, h2⟩ := cntCt_at (risingC_of hcb) hh
   have hr := (cuts_rise hp.2.2).1 (risingCt_iff.1 hp.2.1)
   have hc := cnt_splitK ctK (K := ctK (mkCt a b)) hr
   generalize l.countP (fun c => decide (ctK c < ctK (mkCt a b))) = c at *
   cases e : hasCt (l.take c ++ l.drop (c + 1)) (mkCt a b) with
   | false => rfl
   | true =>
     exfalso
     obtain ⟨y, hy, e2⟩ := List.any_eq_true.1 e
     have e2 := of_decide_eq_true e2
     rcases List.mem_append.1 hy with h3 | h3
     · have := hc.1 y h3
       omega
     · have hs : (l.drop c).Pairwise fun p q => ctK p < ctK q := hr.sublist (List.drop_sublist _ _)
       rw [List.drop_eq_getElem_cons h1] at hs
       have h4 := (List.pairwise_cons.1 hs).1 y h3
       have e3 : l.getD c default = l[c] := by simp [List.getD_eq_getElem?_getD, h1]
       rw [e3] at h2
       omega
theorem atN_eq {l : List GNode} {x : Int} (hs : RisingN l) (h : isNd l x = true) : atN l x = (ndX l x : Int) := by
 obtain ⟨h1, h2⟩ := ndX_at hs h
 unfold atN
 refine idxI_at (d := default) h1 (fun y hy => ?_) (decide_eq_true h2)
 obtain ⟨t, ht, rfl⟩ := List.mem_take_iff_getElem.1 hy
 have h3 := hs t (ndX l x) (by omega) h1
 have e : l.getD t default = l[t]'(by omega) := by simp [List.getD_eq_getElem?_getD, show t < l.length by omega]
 rw [e] at h3
 have h2 : (l.getD (ndX l x) default).view.id = x := h2
 exact decide_eq_false (by omega)
section
variable {w : GWorld} {p : Nat} (hw : worldB w = true) (hp : p ≤ 65535) (h0 : ¬ w.packets.length = 0) (h32 : ¬ w.cuts.length = 32)
include hw hp h0 h32
theorem cut_may : mayCt w.cuts (w.packets.getD (p % w.packets.length) default).src (w.packets.getD (p % w.packets.length) default).dst = true ∧ (w.packets.getD (p % w.packets.length) default).src ≠ (w.packets.getD (p % w.packets.length) default).dst := by
 obtain ⟨p1, p2, p3, p4⟩ := pack_facts hw (Nat.mod_lt p (show 0 < w.packets.length by omega))
 have hne : (w.packets.getD (p % w.packets.length) default).src ≠ (w.packets.getD (p % w.packets.length) default).dst := by
  simp only [mayB, Bool.and_eq_true] at p1
  simpa using p1.2.2.1
 exact ⟨mayCt_yes (world_cuts hw).1 (world_place hw p2) (world_place hw p3) hne, hne⟩
theorem cut_do : ∃ C, doW w ⟨4, (w.packets.getD (p % w.packets.length) default).src, (w.packets.getD (p % w.packets.length) default).dst, 0, [], 0, 0⟩ = (⟨w.nodes, C, w.packets⟩, 0) ∧
  doW ⟨w.nodes, C, w.packets⟩ ⟨1, 0, 0, (p : Int), [], 0, 0⟩ = (⟨w.nodes, C, w.packets.take (p % w.packets.length) ++ w.packets.drop (p % w.packets.length + 1)⟩, 0) ∧
  ∃ D, doW ⟨w.nodes, C, w.packets⟩ ⟨5, (w.packets.getD (p % w.packets.length) default).dst, (w.packets.getD (p % w.packets.length) default).src, 0, [], 0, 0⟩ = (⟨w.nodes, D, w.packets⟩, 0) ∧
  ∃ W, doW ⟨w.nodes, D, w.packets⟩ ⟨1, 0, 0, (p : Int), [], 0, 0⟩ = (W, 0) ∧ W.nodes.length = w.nodes.length ∧
   W.nodes.getD (ndX w.nodes (w.packets.getD (p % w.packets.length) default).dst) default = (if (w.nodes.getD (ndX w.nodes (w.packets.getD (p % w.packets.length) default).dst) default).up = true then (handleN (w.nodes.getD (ndX w.nodes (w.packets.getD (p % w.packets.length) default).dst) default) (w.packets.getD (p % w.packets.length) default)).1 else w.nodes.getD (ndX w.nodes (w.packets.getD (p % w.packets.length) default).dst) default) := by
 obtain ⟨hm, hne⟩ := cut_may hw hp h0 h32
 have hq := Nat.mod_lt p (show 0 < w.packets.length by omega)
 obtain ⟨p1, p2, p3, p4⟩ := pack_facts hw hq
 obtain ⟨c1, c2⟩ := with_has hm h32
 have hr := base_rising (worldB_base.1 hw).1
 obtain ⟨x1, x2⟩ := ndX_at hr p3
 generalize hM : w.packets.getD (p % w.packets.length) default = m at *
 have ha1 : actB w ⟨4, m.src, m.dst, 0, [], 0, 0⟩ = true := by
  unfold actB
  rw [if_neg (by simp), if_neg (by simp)]
  simp only [p2, p3, Bool.true_and]
  simpa using hne
 have d1 := do4_yes hw ha1 rfl c1
 dsimp only at d1
 have w1 := step_may hw ha1
 have e1 := doW_yes hw ha1
 rw [d1] at e1
 have e1' := congrArg Prod.fst e1
 dsimp only at e1'
 rw [← e1'] at w1
 refine ⟨_, d1, ?_, ?_⟩
 · have ha2 : actB ⟨w.nodes, (withCt w.cuts m.src m.dst).1, w.packets⟩ ⟨1, 0, 0, (p : Int), [], 0, 0⟩ = true := actP hp (by simp)
   have hc : (isCt (withCt w.cuts m.src m.dst).1 m.src m.dst).1 = true := by
    have hm2 : mayCt (withCt w.cuts m.src m.dst).1 m.src m.dst = true := mayCt_yes (world_cuts w1).1 (world_place hw p2) (world_place hw p3) hne
    rw [isCt_yes hm2]
    exact c2
   have d2 := do1_cut w1 ha2 rfl h0 (by
    show (isCt (withCt w.cuts m.src m.dst).1 (w.packets.getD (p % w.packets.length) default).src (w.packets.getD (p % w.packets.length) default).dst).1 = true
    rw [hM]
    exact hc)
   exact d2
 · have ha3 : actB ⟨w.nodes, (withCt w.cuts m.src m.dst).1, w.packets⟩ ⟨5, m.dst, m.src, 0, [], 0, 0⟩ = true := by
    unfold actB
    rw [if_neg (by simp), if_neg (by simp)]
    simp only [p2, p3, Bool.true_and]
    simpa using Ne.symm hne
   have d3 := do5 w1 ha3 rfl
   dsimp only at d3
   have w2 := step_may w1 ha3
   have e3 := doW_yes w1 ha3
   rw [d3] at e3
   have e3' := congrArg Prod.fst e3
   dsimp only at e3'
   rw [← e3'] at w2
   have hm3 : mayCt (withCt w.cuts m.src m.dst).1 m.dst m.src = true := mayCt_yes (world_cuts w1).1 (world_place hw p3) (world_place hw p2) (Ne.symm hne)
   have o2 := (out_not hm3).2
   refine ⟨_, d3, ?_⟩
   have ha4 : actB ⟨w.nodes, (outCt (withCt w.cuts m.src m.dst).1 m.dst m.src).1, w.packets⟩ ⟨1, 0, 0, (p : Int), [], 0, 0⟩ = true := actP hp (by simp)
   have hc : (isCt (outCt (withCt w.cuts m.src m.dst).1 m.dst m.src).1 m.src m.dst).1 = false := by
    have hm4 : mayCt (outCt (withCt w.cuts m.src m.dst).1 m.dst m.src).1 m.src m.dst = true := mayCt_yes (world_cuts w2).1 (world_place hw p2) (world_place hw p3) hne
    rw [isCt_yes hm4, mkCt_comm]
    exact o2
   refine ⟨_, doW_yes w2 ha4, ?_⟩
   rw [actW_1 rfl, if_neg h0]
   unfold delivW
   have ep : pickP ⟨w.nodes, (outCt (withCt w.cuts m.src m.dst).1 m.dst m.src).1, w.packets⟩ ⟨1, 0, 0, (p : Int), [], 0, 0⟩ = p % w.packets.length := rfl
   rw [ep]
   dsimp only
   rw [hM, if_neg (by rw [hc]; simp)]
   have eat : ndAt w.nodes m.dst = w.nodes.getD (ndX w.nodes m.dst) default := rfl
   rw [eat]
   by_cases hu : (w.nodes.getD (ndX w.nodes m.dst) default).up = true
   · rw [if_pos hu, if_pos hu]
     refine ⟨by show (setNd _ _ _).length = _; rw [setNd_len]; rfl, ?_⟩
     show (setNd w.nodes m.dst _).getD _ default = _
     unfold setNd
     rw [set_at x1]
   · rw [if_neg hu, if_neg hu]
     exact ⟨rfl, rfl⟩
theorem cut_hand (hu : (w.nodes.getD (ndX w.nodes (w.packets.getD (p % w.packets.length) default).dst) default).up = true) : (handleN (w.nodes.getD (ndX w.nodes (w.packets.getD (p % w.packets.length) default).dst) default) (w.packets.getD (p % w.packets.length) default)).2.2 = 0 := by
 obtain ⟨p1, p2, p3, p4⟩ := pack_facts hw (Nat.mod_lt p (show 0 < w.packets.length by omega))
 obtain ⟨hr, hx, hb, hi, hn⟩ := world_node hw p3
 exact (handle_up hb p1 hi.symm).2 hu
end
noncomputable def cutC (w : GWorld) (p : Nat) : List GCut := (doW w ⟨4, (w.packets.getD (p % w.packets.length) default).src, (w.packets.getD (p % w.packets.length) default).dst, 0, [], 0, 0⟩).1.cuts
noncomputable def cutD (w : GWorld) (p : Nat) : List GCut := (doW ⟨w.nodes, cutC w p, w.packets⟩ ⟨5, (w.packets.getD (p % w.packets.length) default).dst, (w.packets.getD (p % w.packets.length) default).src, 0, [], 0, 0⟩).1.cuts
noncomputable def cutW (w : GWorld) (p : Nat) : GWorld := (doW ⟨w.nodes, cutD w p, w.packets⟩ ⟨1, 0, 0, (p : Int), [], 0, 0⟩).1
section
variable {w : GWorld} {p : Nat} (hw : worldB w = true) (hp : p ≤ 65535) (h0 : ¬ w.packets.length = 0) (h32 : ¬ w.cuts.length = 32)
include hw hp h0 h32
theorem cut_1 : doW w ⟨4, (w.packets.getD (p % w.packets.length) default).src, (w.packets.getD (p % w.packets.length) default).dst, 0, [], 0, 0⟩ = (⟨w.nodes, cutC w p, w.packets⟩, 0) := by
 obtain ⟨C, d1, _⟩ := cut_do hw hp h0 h32
 unfold cutC
 rw [d1]
theorem cut_2 : doW ⟨w.nodes, cutC w p, w.packets⟩ ⟨1, 0, 0, (p : Int), [], 0, 0⟩ = (⟨w.nodes, cutC w p, w.packets.take (p % w.packets.length) ++ w.packets.drop (p % w.packets.length + 1)⟩, 0) := by
 obtain ⟨C, d1, d2, _⟩ := cut_do hw hp h0 h32
 have e : cutC w p = C := by unfold cutC; rw [d1]
 rw [e]
 exact d2
theorem cut_3 : doW ⟨w.nodes, cutC w p, w.packets⟩ ⟨5, (w.packets.getD (p % w.packets.length) default).dst, (w.packets.getD (p % w.packets.length) default).src, 0, [], 0, 0⟩ = (⟨w.nodes, cutD w p, w.packets⟩, 0) := by
 obtain ⟨C, d1, d2, D, d3, _⟩ := cut_do hw hp h0 h32
 have e : cutC w p = C := by unfold cutC; rw [d1]
 unfold cutD
 rw [e, d3]
theorem cut_4 : doW ⟨w.nodes, cutD w p, w.packets⟩ ⟨1, 0, 0, (p : Int), [], 0, 0⟩ = (cutW w p, 0) ∧ (cutW w p).nodes.length = w.nodes.length ∧
  (cutW w p).nodes.getD (ndX w.nodes (w.packets.getD (p % w.packets.length) default).dst) default = (if (w.nodes.getD (ndX w.nodes (w.packets.getD (p % w.packets.length) default).dst) default).up = true then (handleN (w.nodes.getD (ndX w.nodes (w.packets.getD (p % w.packets.length) default).dst) default) (w.packets.getD (p % w.packets.length) default)).1 else w.nodes.getD (ndX w.nodes (w.packets.getD (p % w.packets.length) default).dst) default) := by
 obtain ⟨C, d1, d2, D, d3, W, d4, d5, d6⟩ := cut_do hw hp h0 h32
 have e : cutC w p = C := by unfold cutC; rw [d1]
 have e2 : cutD w p = D := by unfold cutD; rw [e, d3]
 have e3 : cutW w p = W := by unfold cutW; rw [e2, d4]
 rw [e2, e3]
 exact ⟨d4, d5, d6⟩
end
theorem lost_len {l : List GMsg} {q : Nat} (h : q < l.length) : (l.take q ++ l.drop (q + 1)).length = l.length - 1 := by
 rw [List.length_append, List.length_take, List.length_drop]
 omega
end Go.Proofs.YtjjpakdlkjaigaaGreat

/- Chapter 24: what comes over a cut. -/
namespace Go.Proofs.YtjjpakdlkjaigaaGreat
open Go.RowKit
set_option maxRecDepth 20000
noncomputable def oHandleL (x : GNode) (m : GMsg) : Out := .ok (.tup [.agg (nNew6 (handleN x m).1), .row .new (.msgs (handleN x m).2.1), .int .i64 (handleN x m).2.2]) []
theorem k_refHandleL : Known Tryz.prog tau 27 (S2 dNode dMsg oHandleL) := loose2 k_refHandle fun _ _ => rfl
set_option maxHeartbeats 8000000 in
theorem k_ActCutOff : Known Tryz.prog tau 6 (S2 dWorld dInt fun w x => okB true) := by
 refine known2 hmix tau_ok (ctx_cons k_awake24 (ctx_cons k_refWorldMay (ctx_cons k_actDoL (ctx_cons k_refHandleL (ctx_cons k_At (ctx_cons k_Num (ctx_cons k_SameNode ctx_nil))))))) (fn := Tryz.f6) (by kernel_rfl) [(6, [(0, 0), (1, 1), (2, 0), (3, 0), (4, 8), (5, 16), (6, 36), (7, 66), (8, 128), (9, 0), (10, 1023)]), (14, [(0, 0), (1, 1), (2, 0), (3, 6), (4, 8), (5, 0), (6, 32), (7, 0), (8, 192), (9, 256), (10, 528), (11, 1024)]), (22, [(0, 0), (1, 1), (2, 0), (3, 6), (4, 8), (5, 0), (6, 32), (7, 0), (8, 192), (9, 256), (10, 528), (11, 2047)]), (23, [(0, 0), (1, 1), (2, 0), (3, 6), (4, 8), (5, 0), (6, 48), (7, 64), (8, 128), (9, 128), (10, 128), (11, 0), (12, 2559), (13, 7167), (14, 16383)]), (24, [(0, 0), (1, 1), (2, 2), (3, 4), (4, 12), (5, 4), (6, 52), (7, 68), (8, 4), (9, 388), (10, 516), (11, 2047)])] (by kernel_rfl) _ _ _ fun w x hfit => ⟨rfl,
  [(12, invN [4, 11, 92, 93, 94, 95, 96, 97, 98, 99, 100, 101, 102, 103, 104, 105, 106, 107, 108, 109, 110] (fun i => i ≤ w.nodes.length) (fun i => withS [(11, .int .i64 (i : Int))]) (fun i => w.nodes.length - i))], ?_⟩
 clear hfit
 by_cases hq : worldB w = true ∧ ¬ w.packets.length = 0 ∧ ¬ w.cuts.length = 32
 · obtain ⟨hw, h0, h32⟩ := hq
   obtain ⟨p, hp, hp2⟩ := pick24 x
   have l1 : w.packets.length ≤ 512 := (worldB_base.1 hw).2.1
   have hl2 : w.nodes.length ≤ 8 := (nodesB_iff.1 (baseB_iff.1 (worldB_base.1 hw).1).1).2.1
   have hm := Nat.mod_lt p (show 0 < w.packets.length by omega)
   have hh := cut_hand hw hp2 h0 h32
   obtain ⟨p1, p2, p3, p4⟩ := pack_facts hw hm
   have hr := base_rising (worldB_base.1 hw).1
   obtain ⟨x1, x2⟩ := ndX_at hr p3
   have w1 : IntKind.i64.wrap ((w.packets.length : Int) - 1) = ((w.packets.length - 1 : Nat) : Int) := by rw [wrapI (by omega) (by omega)]; omega
   have d6 := (cut_4 hw hp2 h0 h32).2.2
   refine V2 ?_; constructor <;> (first | (with_reducible exact TT.i) | (intros; (repeat (apply Wk.mk; intro Kv hN hX hR)); apply Wr.mk))
   all_goals (try simp only [etaWorld, etaMsg, etaNd, hp, tmodN, Int.toNat_natCast, Int.toNat_zero, cut_1 hw hp2 h0 h32, cut_2 hw hp2 h0 h32, cut_3 hw hp2 h0 h32, (cut_4 hw hp2 h0 h32).1, (cut_4 hw hp2 h0 h32).2.1, lost_len hm, w1] at *)
   all_goals first
    | exact absurd (show (!true) = true by with_reducible assumption) (by decide)
    | exact absurd (show (!decide True) = true by with_reducible assumption) (by decide)
    | (refine Ob.mk ?_; omega)
    | (refine Ob.mk ⟨?_, ?_⟩ <;> omega)
    | (exfalso
       have h := of_decide_eq_true (show decide ((w.packets.length : Int) = 0) = true by with_reducible assumption)
       omega)
    | (exfalso
       have h := of_decide_eq_true (show decide ((w.cuts.length : Int) = 32) = true by with_reducible assumption)
       omega)
    | (refine ⟨0, Nat.zero_le _, ?_⟩
       refine V1 ?_; constructor <;> (first | (with_reducible exact TT.i) | (intros; (repeat (apply Wk.mk; intro Kv hN hX hR)); apply Wr.mk))
       all_goals rfl)
    | (with_reducible intro i hi
       have hi : i ≤ w.nodes.length := hi
       have hul := (cut_4 hw hp2 h0 h32).2.1
       refine V2 ?_; constructor <;> (first | (with_reducible exact TT.i) | (intros; (repeat (apply Wk.mk; intro Kv hN hX hR)); apply Wr.mk))
       all_goals (try simp only [etaWorld, etaMsg, etaNd, hp, tmodN, Int.toNat_natCast, Int.toNat_zero, cut_1 hw hp2 h0 h32, cut_2 hw hp2 h0 h32, cut_3 hw hp2 h0 h32, (cut_4 hw hp2 h0 h32).1, (cut_4 hw hp2 h0 h32).2.1, lost_len hm, atN_eq hr p3] at *)
       all_goals first
        | exact absurd (show (!decide True) = true by with_reducible assumption) (by decide)
        | (have h := of_decide_eq_true (show decide ((i : Int) < (w.nodes.length : Nat)) = true by with_reducible assumption)
           first
            | (refine Ob.mk ⟨?_, ?_⟩ <;> omega)
            | (refine ⟨i + 1, by omega, by omega, ?_⟩
               refine V1 ?_; constructor <;> (first | (with_reducible exact TT.i) | (intros; (repeat (apply Wk.mk; intro Kv hN hX hR)); apply Wr.mk))
               all_goals first
                | exact wrapI (by omega) (by omega)
                | rfl))
        | (refine Ob.mk ⟨?_, ?_⟩ <;> omega)
        | (exfalso
           have h := of_decide_eq_true (show decide ((ndX w.nodes (w.packets.getD (p % w.packets.length) default).dst : Int) < 0) = true by with_reducible assumption)
           omega)
        | (have hn := nf (b := (w.nodes.getD (ndX w.nodes (w.packets.getD (p % w.packets.length) default).dst) default).up) aQ
           rw [(cut_4 hw hp2 h0 h32).2.2, if_neg (by rw [hn]; simp)]
           exact decide_eq_true rfl)
        | (have hn := nt (b := (w.nodes.getD (ndX w.nodes (w.packets.getD (p % w.packets.length) default).dst) default).up) aQ
           first
            | (rw [(cut_4 hw hp2 h0 h32).2.2, if_pos hn]
               exact decide_eq_true rfl)
            | (exfalso
               have h := of_decide_eq_false (show decide ((handleN (w.nodes.getD (ndX w.nodes (w.packets.getD (p % w.packets.length) default).dst) default) (w.packets.getD (p % w.packets.length) default)).2.2 = 0) = false by with_reducible assumption)
               exact h (cut_hand hw hp2 h0 h32 hn)))
        | rfl)
    | rfl
 · refine V2 ?_; constructor <;> (first | (with_reducible exact TT.i) | (intros; (repeat (apply Wk.mk; intro Kv hN hX hR)); apply Wr.mk))
   all_goals (try simp only [etaWorld] at *)
   all_goals first
    | exact absurd (show (!true) = true by with_reducible assumption) (by decide)
    | rfl
    | (exfalso
       refine hq ⟨nt (show (!worldB w) = false by with_reducible assumption), ?_, ?_⟩
       · have h := of_decide_eq_false (show decide ((w.packets.length : Int) = 0) = false by with_reducible assumption)
         omega
       · have h := of_decide_eq_false (show decide ((w.cuts.length : Int) = 32) = false by with_reducible assumption)
         omega)
end Go.Proofs.YtjjpakdlkjaigaaGreat
