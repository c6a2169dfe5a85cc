/- A symbolic executor for loaded Go code: drawn regions: what reads alone; places and edges. -/
import Derived.Test.YtmgccphapkmmeaaVW
import Derived.Orders
namespace Go.Proofs.Ytmgccphapkmmeaa
open Go.RowKit

section
variable {P : Program} {τ : Tys} {w0 : World} {E : Env} {as : List (Array Value)} {a : Act} {w : World} {s : St} {o : Oper}
/-! ### 1. What reads alone -/
theorem evR_good (hτ : TysOk P τ) (hd : Den τ w0 E s (a.tmps :: as) w) : (evR τ s o).good (Yld P o a w E s.rows) := by
  obtain ⟨fr, stk, bx, rw', dep⟩ := s
  unfold evR
  split
  · rename_i x ho; exact move_ok hτ hd x (.inl ho)
  · rename_i x ho; exact move_ok hτ hd x (.inr ho)
  · rename_i c x y ho; simp only [SV.force_eq]; exact pick_ok hd c x y ho
  · rename_i T x ho; rw [SV.force_eq]; exact loadOp_ok hτ hd T x ho
  · rename_i x ho; rw [SV.force_eq]; exact check_ok hd x ho
  · rename_i op T x y T' ho; simp only [SV.force_eq]; exact bin_ok hτ hd op T T' x y ho
  · rename_i op T x ho; simp only [SV.force_eq]; exact un_ok hd op T x ho
  · rename_i b c x ho; simp only [SV.force_eq]; exact conv_ok hτ hd b c x ho
  · rename_i fn b c ho; exact func_ok hd fn b c ho
  · rename_i S x j ho; rw [SV.force_eq]; exact fieldAddr_ok hτ hd S x j ho
  · rename_i S x j ho; rw [SV.force_eq]; exact field_ok hτ hd S x j ho
  · rename_i T x i ho; simp only [SV.force_eq]; exact indexAddr_ok hτ hd T x i ho
  · rename_i T x i ho; simp only [SV.force_eq]; exact index_ok hτ hd T x i ho
  · rename_i x j ho; rw [SV.force_eq]; exact extract_ok hd x j ho
  · rename_i T ps ho; exact build_ok hτ hd T ps ho
  · rename_i c ho
    split
    · rename_i hb
      split
      · rename_i x T hx hT
        rw [SV.force_eq]
        split
        · rename_i n b hn htd hs
          exact len_ok hτ hd c x T ho hb hx hT hn (.inl ⟨htd, b, hs⟩)
        · rename_i n e t r hn htd hs
          exact len_ok hτ hd c x T ho hb hx hT hn (.inr ⟨⟨_, htd⟩, fun b => by rw [hs]; simp⟩)
        · rename_i n e k hn htd hs
          exact len_ok hτ hd c x T ho hb hx hT hn (.inr ⟨⟨_, htd⟩, fun b => by rw [hs]; simp⟩)
        · rename_i n e r hn htd hs
          exact len_ok hτ hd c x T ho hb hx hT hn (.inr ⟨⟨_, htd⟩, fun b => by rw [hs]; simp⟩)
        · trivial
      · trivial
    · rename_i hb
      split
      · rename_i x y hx
        rw [SV.force_eq, SV.force_eq]
        exact min_ok hd c x y .min (.inl rfl) ho hb hx
      · trivial
    · rename_i hb
      split
      · rename_i x y hx
        rw [SV.force_eq, SV.force_eq]
        exact min_ok hd c x y .max (.inr rfl) ho hb hx
      · trivial
    · trivial
  · trivial
end

/-! ### 2. Sets as numbers -/
theorem inM_iff (j m : Nat) : inM j m = m.testBit j := by
  have h : ∀ n : Nat, Nat.beq n 1 = decide (n = 1) := fun n => by
    cases hb : Nat.beq n 1 with
    | true => simp [Nat.eq_of_beq_eq_true hb]
    | false => simp [Nat.ne_of_beq_eq_false hb]
  unfold inM
  rw [h]
  show decide ((m >>> j) &&& 1 = 1) = _
  unfold Nat.testBit
  rw [Nat.and_comm 1]
  rcases Nat.mod_two_eq_zero_or_one (m >>> j) with h2 | h2 <;> simp [Nat.and_one_is_mod, h2]
theorem inM_add (i j m : Nat) : inM i (addM j m) = (inM i m || decide (i = j)) := by
  simp only [inM_iff]
  show (m ||| (1 <<< j)).testBit i = _
  rw [Nat.testBit_or, Nat.shiftLeft_eq, Nat.one_mul, Nat.testBit_two_pow]
  congr 1
  simp [eq_comm]
theorem inM_zero (i : Nat) : inM i 0 = false := by simp [inM_iff]
theorem inM_or (i a b : Nat) : inM i (Nat.lor a b) = (inM i a || inM i b) := by
  simp only [inM_iff]
  exact Nat.testBit_or a b i
theorem subM_iff (a b : Nat) : subM a b = true ↔ ∀ i, inM i a = true → inM i b = true := by
  unfold subM
  constructor
  · intro h i hi
    have h : Nat.land a b = a := Nat.eq_of_beq_eq_true h
    rw [inM_iff] at hi ⊢
    have : (a &&& b).testBit i = true := by rw [show a &&& b = a from h]; exact hi
    rw [Nat.testBit_and] at this
    simp at this
    exact this.2
  · intro h
    have : a &&& b = a := by
      apply Nat.eq_of_testBit_eq
      intro i
      rw [Nat.testBit_and]
      have := h i
      simp only [inM_iff] at this
      cases ha : a.testBit i with
      | false => simp
      | true => simp [this ha]
    show Nat.beq (a &&& b) a = true
    rw [this]
    exact Nat.beq_refl a

/-! ### 3. What a region's check says -/
section
variable {ops : Array Oper} {tab : List (Nat × Nat)}
theorem bindsB_eq (e : Edge) : bindsB e = Region.binds .any e := by
  obtain ⟨on, g⟩ := e
  cases g <;> rfl
theorem inM_edgeM (i : Nat) : ∀ (l : List Edge) (m : Nat), inM i (edgeM l m) = true ↔ inM i m = true ∨ ∃ e ∈ l, bindsB e = true ∧ e.on = i
  | [], m => by simp [edgeM]
  | e :: l, m => by
    simp only [edgeM]
    split
    · rename_i hb
      rw [inM_edgeM i l, inM_add]
      simp only [Bool.or_eq_true, decide_eq_true_eq, List.mem_cons]
      constructor
      · rintro ((h | h) | ⟨e', h1, h2⟩)
        · exact .inl h
        · exact .inr ⟨e, .inl rfl, hb, h.symm⟩
        · exact .inr ⟨e', .inr h1, h2⟩
      · rintro (h | ⟨e', rfl | h1, h2⟩)
        · exact .inl (.inl h)
        · exact .inl (.inr h2.2.symm)
        · exact .inr ⟨e', h1, h2⟩
    · rename_i hb
      rw [inM_edgeM i l]
      simp only [List.mem_cons]
      constructor
      · rintro (h | ⟨e', h1, h2⟩)
        · exact .inl h
        · exact .inr ⟨e', .inr h1, h2⟩
      · rintro (h | ⟨e', rfl | h1, h2⟩)
        · exact .inl h
        · rw [hb] at h2; exact absurd h2.1 (by simp)
        · exact .inr ⟨e', h1, h2⟩
/-- i is one that j waits for. -/
def Waits (ops : Array Oper) (i j : Nat) : Prop := ∃ o, ops[j]? = some o ∧ ∃ e ∈ o.after, bindsB e = true ∧ e.on = i
structure DrawD (ops : Array Oper) (tb : List (Nat × Nat)) : Prop where
  len : tb.length = ops.size
  tab : ∀ (j : Nat) (o : Oper), ops[j]? = some o → tb[j]? = some (j, edgeM o.after.toList 0)
  back : ∀ i j, Waits ops i j → i < j
  dst : ∀ (i j : Nat) (o q : Oper) (t : Tmp), ops[j]? = some o → ops[i]? = some q → i ≠ j → q.dst = some t → o.dst ≠ some t
  reads : ∀ (i j : Nat) (o q : Oper) (t : Tmp), ops[j]? = some o → ops[i]? = some q → i ≠ j → q.dst = some t → t ∈ looks ops.toList o → Waits ops i j ∨ Waits ops j i
  sel : ∀ (j : Nat) (o : Oper) cs b, ops[j]? = some o → o.op ≠ .select cs b
theorem tabOk_spec : ∀ (os : List Oper) (tab : List (Nat × Nat)) (n : Nat), tabOk os tab n = true → tab.length = os.length ∧ ∀ (j : Nat) o, os[j]? = some o → tab[j]? = some (n + j, edgeM o.after.toList 0) ∧ ∀ e ∈ o.after, bindsB e = true → e.on < n + j
  | [], [], n, _ => ⟨rfl, fun j o h => by simp at h⟩
  | o :: os, (k, b) :: tab, n, h => by
    simp only [tabOk, Bool.and_eq_true] at h
    obtain ⟨⟨⟨h1, h2⟩, h3⟩, h4⟩ := h
    obtain ⟨g1, g2⟩ := tabOk_spec os tab (n + 1) h4
    refine ⟨by simp [g1], fun j q hq => ?_⟩
    cases j with
    | zero =>
      simp at hq
      subst hq
      refine ⟨by simp [Nat.eq_of_beq_eq_true h1, Nat.eq_of_beq_eq_true h2], fun e he hb => ?_⟩
      have := List.all_eq_true.1 h3 e (by simpa using he)
      simp only [hb, Bool.not_true, Bool.or_false] at this
      exact Nat.lt_of_succ_le (Nat.le_of_ble_eq_true this)
    | succ j =>
      obtain ⟨g3, g4⟩ := g2 j q (by simpa using hq)
      refine ⟨by simpa [Nat.add_assoc, Nat.add_comm 1] using g3, fun e he hb => by have := g4 e he hb; omega⟩
  | [], _ :: _, n, h => by simp [tabOk] at h
  | _ :: _, [], n, h => by simp [tabOk] at h
theorem pairsOk_spec {all : List Oper} {T : List (Nat × Nat)} {j b : Nat} {o : Oper} : ∀ {qs : List Oper} {t : List (Nat × Nat)}, pairsOk all T j b o qs t = true → t.length = qs.length → ∀ (i : Nat) q p, qs[i]? = some q → t[i]? = some p → pairOk all j b o p.1 p.2 q = true
  | [], t, _, _, i, q, p, hq, _ => by simp at hq
  | q' :: qs, (k, c) :: t, h, hl, i, q, p, hq, hp => by
    simp only [pairsOk, Bool.and_eq_true] at h
    cases i with
    | zero => simp at hq hp; subst hq; subst hp; exact h.1
    | succ i => exact pairsOk_spec h.2 (by simpa using hl) i q p (by simpa using hq) (by simpa using hp)
  | _ :: _, [], _, hl, i, q, p, hq, _ => by simp at hl
theorem allPairs_spec {all : List Oper} {T : List (Nat × Nat)} : ∀ {os : List Oper} {t : List (Nat × Nat)}, allPairs all T os t = true → t.length = os.length → ∀ (j : Nat) o p, os[j]? = some o → t[j]? = some p → pairsOk all T p.1 p.2 o all T = true
  | [], t, _, _, i, q, p, hq, _ => by simp at hq
  | q' :: qs, (k, c) :: t, h, hl, i, q, p, hq, hp => by
    simp only [allPairs, Bool.and_eq_true] at h
    cases i with
    | zero => simp at hq hp; subst hq; subst hp; exact h.1
    | succ i => exact allPairs_spec h.2 (by simpa using hl) i q p (by simpa using hq) (by simpa using hp)
  | _ :: _, [], _, hl, i, q, p, hq, _ => by simp at hl
theorem memT_iff (t : Nat) : ∀ l : List Nat, pairOk.memT t l = true ↔ t ∈ l
  | [] => by simp [pairOk.memT]
  | x :: l => by
    simp only [pairOk.memT, Bool.or_eq_true, memT_iff t l, List.mem_cons]
    constructor
    · rintro (h | h)
      · exact .inl (Nat.eq_of_beq_eq_true h).symm
      · exact .inr h
    · rintro (rfl | h)
      · exact .inl (Nat.beq_refl _)
      · exact .inr h
theorem noSel_spec : ∀ {os : List Oper}, noSel os = true → ∀ o ∈ os, ∀ cs b, o.op ≠ .select cs b
  | [], _, o, ho => by simp at ho
  | q :: os, h, o, ho => by
    unfold noSel at h
    split at h
    · simp at h
    · rename_i hne
      rcases List.mem_cons.1 ho with rfl | ho
      · exact fun cs b e => hne cs b e
      · exact noSel_spec h o ho
theorem waits_inM {i j : Nat} {o : Oper} (h : ops[j]? = some o) : inM i (edgeM o.after.toList 0) = true ↔ Waits ops i j := by
  rw [inM_edgeM]
  simp only [inM_zero, Bool.false_eq_true, false_or]
  constructor
  · rintro ⟨e, he, h1⟩; exact ⟨o, h, e, by simpa using he, h1⟩
  · rintro ⟨o', h', e, he, h1⟩
    rw [h] at h'
    injection h' with h'
    subst h'
    exact ⟨e, by simpa using he, h1⟩
theorem drawOk_spec (h : drawOk ops.toList tab = true) : DrawD ops tab := by
  simp only [drawOk, Bool.and_eq_true] at h
  obtain ⟨⟨h1, h2⟩, h3⟩ := h
  obtain ⟨g1, g2⟩ := tabOk_spec _ _ _ h1
  have ht : ∀ (j : Nat) (o : Oper), ops[j]? = some o → tab[j]? = some (j, edgeM o.after.toList 0) := fun j o ho => by simpa using (g2 j o (by simpa using ho)).1
  have pr : ∀ (i j : Nat) (o q : Oper), ops[j]? = some o → ops[i]? = some q → pairOk ops.toList j (edgeM o.after.toList 0) o i (edgeM q.after.toList 0) q = true := by
    intro i j o q ho hq
    have a1 := allPairs_spec h2 g1 j o _ (by simpa using ho) (ht j o ho)
    exact pairsOk_spec a1 g1 i q _ (by simpa using hq) (ht i q hq)
  refine ⟨by simpa using g1, ht, ?_, ?_, ?_, ?_⟩
  · rintro i j ⟨o, ho, e, he, hb, rfl⟩
    simpa using (g2 j o (by simpa using ho)).2 e he hb
  · intro i j o q t ho hq hne hd hod
    have := pr i j o q ho hq
    unfold pairOk at this
    rw [hd] at this
    simp only at this
    split at this
    · rename_i hij; exact hne (Nat.eq_of_beq_eq_true hij)
    · rw [hod] at this; simp at this
  · intro i j o q t ho hq hne hd hl
    have := pr i j o q ho hq
    unfold pairOk at this
    rw [hd] at this
    simp only at this
    split at this
    · rename_i hij; exact absurd (Nat.eq_of_beq_eq_true hij) hne
    · simp only [Bool.and_eq_true, Bool.or_eq_true, Bool.not_eq_true'] at this
      rcases this.2 with h | h | h
      · have := (memT_iff t _).2 hl; rw [h] at this; exact absurd this (by simp)
      · exact .inl ((waits_inM ho).1 h)
      · exact .inr ((waits_inM hq).1 h)
  · intro j o cs b ho
    exact noSel_spec h3 o (by
      have : ops.toList[j]? = some o := by simpa using ho
      exact List.mem_of_getElem? this) cs b

/-! ### 4. A frame in which some of them have run -/
structure Fills (ops : Array Oper) (S : Nat → Prop) (z : Nat → Value) (a0 x : Array Value) : Prop where
  size : x.size = a0.size
  at_ : ∀ t, (∃ j o, ops[j]? = some o ∧ o.dst = some t ∧ S j ∧ x.getD t undef = z j) ∨ ((∀ j o, ops[j]? = some o → o.dst = some t → ¬ S j) ∧ x.getD t undef = a0.getD t undef)
variable {S S' : Nat → Prop} {z : Nat → Value} {a0 : Array Value} {x y : Act}
theorem getD_put (a : Act) (d : Option Tmp) (v : Value) (t : Nat) : (a.put d v).tmps.getD t undef = if d = some t ∧ t < a.tmps.size then v else a.tmps.getD t undef := by
  cases d with
  | none => simp [Act.put]
  | some d =>
    simp only [Act.put, Array.getD_eq_getD_getElem?, Option.some.injEq]
    by_cases h : d = t
    · subst h
      by_cases hl : d < a.tmps.size
      · simp [hl]
      · simp [hl]
    · simp [h, Array.getElem?_setIfInBounds_ne h]
theorem Fills.get (h : Fills ops S z a0 x.tmps) (D : DrawD ops tab) {j : Nat} {o : Oper} {t : Nat} (ho : ops[j]? = some o) (hd : o.dst = some t) (hS : S j) : x.tmps.getD t undef = z j := by
  rcases h.at_ t with ⟨i, q, hq, hqd, hSi, hv⟩ | ⟨hn, _⟩
  · by_cases e : i = j
    · subst e; exact hv
    · exact absurd hd (D.dst i j o q t ho hq e hqd)
  · exact absurd hS (hn j o ho hd)
theorem Fills.put (h : Fills ops S z a0 x.tmps) (D : DrawD ops tab) {j : Nat} {o : Oper} (ho : ops[j]? = some o) (hlt : ∀ t, o.dst = some t → t < x.tmps.size) (hS' : ∀ i, S' i ↔ S i ∨ i = j) : Fills ops S' z a0 (x.put o.dst (z j)).tmps := by
  refine ⟨by rw [(put_size _ _ _).1]; exact h.size, fun t => ?_⟩
  rw [getD_put]
  by_cases hd : o.dst = some t
  · rw [if_pos ⟨hd, hlt t hd⟩]
    exact .inl ⟨j, o, ho, hd, (hS' j).2 (.inr rfl), rfl⟩
  · rw [if_neg (fun h => hd h.1)]
    rcases h.at_ t with ⟨i, q, hq, hqd, hSi, hv⟩ | ⟨hn, hv⟩
    · exact .inl ⟨i, q, hq, hqd, (hS' i).2 (.inl hSi), hv⟩
    · refine .inr ⟨fun i q hq hqd hSi => ?_, hv⟩
      rcases (hS' i).1 hSi with h1 | rfl
      · exact hn i q hq hqd h1
      · rw [ho] at hq; injection hq with hq; subst hq; exact hd hqd
theorem Fills.congr {z' : Nat → Value} (h : Fills ops S z a0 x.tmps) (hS : ∀ i, S i ↔ S' i) (hz : ∀ i, S i → z' i = z i) : Fills ops S' z' a0 x.tmps := by
  refine ⟨h.size, fun t => ?_⟩
  rcases h.at_ t with ⟨i, q, hq, hqd, hSi, hv⟩ | ⟨hn, hv⟩
  · exact .inl ⟨i, q, hq, hqd, (hS i).1 hSi, by rw [hz i hSi]; exact hv⟩
  · exact .inr ⟨fun i q hq hqd hSi => hn i q hq hqd ((hS i).2 hSi), hv⟩
/-- What an operation looks at is the same in both. -/
theorem Fills.agree (h : Fills ops S z a0 x.tmps) (h' : Fills ops S' z a0 y.tmps) (D : DrawD ops tab) {j : Nat} {o : Oper} (ho : ops[j]? = some o) (hp : ∀ i, Waits ops i j → S i ∧ S' i) (hq : ∀ i, Waits ops j i → ¬ S i ∧ ¬ S' i) (hS : ¬ S j) (hS' : ¬ S' j) :
    ∀ t ∈ looks ops.toList o, x.tmps.getD t undef = y.tmps.getD t undef := by
  intro t ht
  have key : ∀ {S1 S2 : Nat → Prop} {i : Nat} {q : Oper}, (∀ i, Waits ops i j → S1 i ∧ S2 i) → (∀ i, Waits ops j i → ¬ S1 i ∧ ¬ S2 i) → ¬ S1 j → ops[i]? = some q → q.dst = some t → S1 i → S2 i := by
    intro S1 S2 i q h1 h2 h3 hiq hd hSi
    have hne : i ≠ j := fun e => by subst e; exact h3 hSi
    rcases D.reads i j o q t ho hiq hne hd ht with hw | hw
    · exact (h1 i hw).2
    · exact absurd hSi (h2 i hw).1
  rcases h.at_ t with ⟨i, q, hiq, hqd, hSi, hv⟩ | ⟨hn, hv⟩
  · rw [hv, h'.get D hiq hqd (key hp hq hS hiq hqd hSi)]
  · rcases h'.at_ t with ⟨i, q, hiq, hqd, hSi, hv'⟩ | ⟨_, hv'⟩
    · exact absurd (key (fun i hi => (hp i hi).symm) (fun i hi => (hq i hi).symm) hS' hiq hqd hSi) (hn i q hiq hqd)
    · rw [hv, hv']
theorem tmpsOf_mem : ∀ {l : List Operand} {t : Nat}, Operand.tmp t ∈ l → t ∈ tmpsOf l
  | [], t, h => by simp at h
  | x :: l, t, h => by
    rcases List.mem_cons.1 h with rfl | h
    · simp [tmpsOf]
    · have := tmpsOf_mem h
      unfold tmpsOf
      split <;> first | (rename_i h1; simp at h1; done) | skip
      · rename_i h1; injection h1 with h1 h2; subst h2; exact List.mem_cons_of_mem _ this
      · rename_i h1; injection h1 with h1 h2; subst h2; exact this
theorem looks_tmps {o : Oper} {t : Nat} (h : t ∈ tmpsOf o.op.operands.toList) : t ∈ looks ops.toList o := by
  unfold looks
  split
  · split
    · exact List.mem_cons_of_mem _ h
    · exact h
  · exact h
/-- Then it does the same in both, and is run in both, or in neither. -/
theorem same_op (D : DrawD ops tab) {j : Nat} {o : Oper} (ho : ops[j]? = some o) (hs : x.tmps.size = y.tmps.size) (h : ∀ t ∈ looks ops.toList o, x.tmps.getD t undef = y.tmps.getD t undef) :
    execOp x.eval o = execOp y.eval o ∧ Region.wanted o (yielded ops x.tmps) = Region.wanted o (yielded ops y.tmps) := by
  constructor
  · refine execOp_congr o (fun cs b => D.sel j o cs b ho) fun u hu => ?_
    cases u with
    | tmp t => exact h t (looks_tmps (tmpsOf_mem (by simpa using hu)))
    | _ => rfl
  · unfold Region.wanted
    cases hg : o.guard with
    | none => rfl
    | some gw =>
      obtain ⟨g, want⟩ := gw
      have : yielded ops x.tmps g = yielded ops y.tmps g := by
        unfold yielded
        cases hd : (ops[g]?).bind (·.dst) with
        | none => rfl
        | some t =>
          have ht : t ∈ looks ops.toList o := by
            unfold looks
            rw [hg]
            have : gslot ops.toList g = some t := by
              unfold gslot
              rw [nth_eq]
              cases hq : ops[g]? with
              | none => rw [hq] at hd; simp at hd
              | some q => rw [hq] at hd; simp at hd; simp [hq, hd]
            simp [this]
          have hv := h t ht
          have : x.tmps[t]? = y.tmps[t]? := by
            by_cases hl : t < x.tmps.size
            · have hl' : t < y.tmps.size := hs ▸ hl
              simp only [Array.getD_eq_getD_getElem?, Array.getElem?_eq_getElem hl, Array.getElem?_eq_getElem hl', Option.getD_some] at hv ⊢
              rw [hv]
            · have hl' : ¬ t < y.tmps.size := hs ▸ hl
              rw [Array.getElem?_eq_none (Nat.le_of_not_lt hl), Array.getElem?_eq_none (Nat.le_of_not_lt hl')]
          simp [this]
      simp only [this]
end
end Go.Proofs.Ytmgccphapkmmeaa
