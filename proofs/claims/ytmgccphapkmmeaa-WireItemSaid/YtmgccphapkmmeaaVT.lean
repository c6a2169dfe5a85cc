/- A symbolic executor for loaded Go code: a call's arguments, and what it hands back. -/
import Derived.Test.YtmgccphapkmmeaaVR
namespace Go.Proofs.Ytmgccphapkmmeaa
open Go.RowKit

section
variable {P : Program} {τ : Tys} {w0 : World} {E : Env} {as : List (Array Value)} {a : Act} {w : World}
variable {s : St} {bs : List (Array Value)} {o : Oper}
variable {fr : List (Nat × SV)} {stk : List (List (Nat × SV))} {bx : List (Nat × (TypeId × List SV))} {rw' : List (Nat × Ent)} {dep : Nat}

/-! ### 1. Arguments, on -/
theorem vdf_of_vd0 {x : SV} {u : Value} (h : vd0 E rw' w x u) : vdf E rw' w x u := by cases x <;> first | exact h | exact h.elim
theorem vd3_of_vd0 {x : SV} {u : Value} (h : vd0 E rw' w x u) : vd3 E rw' w x u := by cases x <;> first | exact h | exact h.elim
theorem vd3_of_vdf {x : SV} {u : Value} (h : vdf E rw' w x u) : vd3 E rw' w x u := by
  cases x with
  | agg cs => obtain ⟨us, rfl, hl⟩ := h; exact ⟨us, rfl, hl.mono fun x u _ hp => by cases x <;> first | exact hp | exact hp.elim⟩
  | tup _ => exact h.elim
  | clo _ _ _ => exact h.elim
  | _ => exact h
theorem resF_vd (hd : Den τ w0 E s bs w) {x : SV} {u : Value} (h : vd3 E s.rows w x u) : vdf E0 [] w (resF s x) u := by
  cases x with
  | agg cs => obtain ⟨us, rfl, hl⟩ := h; exact ⟨us, rfl, plainL_vd hd hl⟩
  | _ => exact vdf_of_vd0 (resP_vd hd h)
theorem mapP_vd {p q : SV → Value → Prop} {f : SV → SV} (hf : ∀ x u, p x u → q (f x) u) {l : List SV} {us : List Value} (h : L0 p l us) : L0 q (mapP f l) us := by
  induction l generalizing us with
  | nil => obtain rfl := h.inv_nil; exact L0.nil
  | cons x l ih => obtain ⟨u, us', rfl, h1, h2⟩ := h.inv_cons; exact .cons (hf x u h1) (ih h2)
theorem resA_vd (hd : Den τ w0 E s bs w) {x : SV} {u : Value} (h : vd3 E s.rows w x u) : vd3 E0 [] w (resA s x) u := by
  cases x with
  | clo f b c =>
    obtain ⟨us, vs, rfl, h1, h2⟩ := h
    exact ⟨us, vs, rfl, mapP_vd (fun x u h => resF_vd hd (vd3_of_vdf h)) h1, mapP_vd (fun x u h => resP_vd hd (vd3_of_vd0 h)) h2⟩
  | _ => exact vd3_of_vdf (resF_vd hd h)
theorem args_vd (hd : Den τ w0 E s bs w) {xs : List SV} {us : List Value} (h : L0 (vd3 E s.rows w) xs us) : L0 (vd3 E0 [] w) (mapP (resA s) xs) us := mapP_vd (fun _ _ h => resA_vd hd h) h

/-! ### 2. Results -/
def idx (kb k : Nat) : Option Nat := if kb ≤ k ∧ (k - kb) % 100000 = 0 then some ((k - kb) / 100000) else none
theorem idx_iff (kb k i : Nat) : idx kb k = some i ↔ k = kb + 100000 * i := by
  unfold idx
  split
  · rename_i h; simp; omega
  · rename_i h; simp; omega
theorem lk_addRows (kb : Nat) : ∀ (rows : List Rw) (R : List (Nat × Ent)) (n k : Nat), lk (addRows R kb rows n) k = match idx kb k with
    | some i => if n ≤ i then (match rows[i - n]? with
      | some r => some (.own r)
      | none => lk R k) else lk R k
    | none => lk R k
  | [], R, n, k => by
    simp only [addRows]
    cases idx kb k <;> simp
  | r :: rows, R, n, k => by
    simp only [addRows]
    rw [lk_addRows kb rows _ (n + 1) k]
    have hu := lk_upd R (kb + 100000 * n) (.own r) k
    cases hi : idx kb k with
    | none =>
      simp only [hu]
      rw [if_neg]
      intro h
      rw [(idx_iff kb k n).2 h] at hi
      simp at hi
    | some i =>
      have hk := (idx_iff kb k i).1 hi
      simp only [hu]
      by_cases h1 : n + 1 ≤ i
      · have : ¬ k = kb + 100000 * n := by omega
        simp only [if_pos h1, if_pos (show n ≤ i by omega), if_neg this]
        obtain ⟨j, rfl⟩ : ∃ j, i = n + 1 + j := ⟨i - (n + 1), by omega⟩
        rw [show n + 1 + j - (n + 1) = j by omega, show n + 1 + j - n = j + 1 by omega]
        simp
      · simp only [if_neg h1]
        by_cases h2 : n = i
        · subst h2; simp [hk]
        · rw [if_neg (show ¬ k = kb + 100000 * n by omega), if_neg (show ¬ n ≤ i by omega)]
theorem lk_resRows : ∀ (rows : List Rw) (n i : Nat), lk (resRows rows n) i = if n ≤ i then (rows[i - n]?).map Ent.own else none
  | [], n, i => by simp [resRows, lk]
  | r :: rows, n, i => by
    simp only [resRows, lk]
    rw [lk_resRows rows (n + 1) i]
    split
    · rename_i h
      have := Nat.eq_of_beq_eq_true h
      subst this
      simp
    · rename_i h
      have hne : n ≠ i := fun e => by subst e; simp at h
      by_cases h1 : n + 1 ≤ i
      · rw [if_pos h1, if_pos (by omega)]
        obtain ⟨j, rfl⟩ : ∃ j, i = n + 1 + j := ⟨i - (n + 1), by omega⟩
        rw [show n + 1 + j - (n + 1) = j by omega, show n + 1 + j - n = j + 1 by omega]
        simp
      · rw [if_neg h1, if_neg (by omega)]
/-- One's own, and what a call has handed over. -/
def Env.join (E Er : Env) (kb n : Nat) : Env := ⟨E.base, E.M, E.bs, fun k => match idx kb k with
  | some i => if i < n then Er.hs i else E.hs k
  | none => E.hs k, fun g => E.ow g ∨ Er.ow g⟩
theorem keysFree_no {kb : Nat} : ∀ {n : Nat}, keysFree s kb n = true → ∀ i, i < n → s.has (own0 (kb + 100000 * i)) = false
  | 0, _, i, hi => by omega
  | n + 1, h, i, hi => by
    simp only [keysFree] at h
    split at h
    · simp at h
    · rename_i h1
      by_cases e : i = n
      · subst e; exact h1
      · exact keysFree_no h i (by omega)
theorem join_hs {Er : Env} {kb n i : Nat} (hi : i < n) : (E.join Er kb n).hs (kb + 100000 * i) = Er.hs i := by
  simp [Env.join, (idx_iff kb _ i).2 rfl, hi]
theorem join_F {Er : Env} {kb n : Nat} {B : Nat} (hB : Er.M = B) (hM : E.M ≤ B) (hE : ∀ g, E.ow g → g < B) {g : Nat} (h : Er.F .new g) : (E.join Er kb n).F .new g := by
  obtain ⟨h1, h2⟩ := h
  have h2 : Er.M ≤ g := h2
  refine ⟨?_, Nat.le_trans hM (by omega)⟩
  rintro (h3 | h3)
  · have := hE g h3; omega
  · exact h1 h3
theorem anyL_false_mem {p : SV → Bool} {l : List SV} (h : anyL p l = false) {x : SV} (hx : x ∈ l) : p x = false := by
  cases hp : p x with
  | false => rfl
  | true => rw [anyL_of_mem hx hp] at h; exact absurd h (by simp)
theorem renum0_vd {Er : Env} {kb : Nat} {rows : List Rw} {w' : World} (hB : Er.M = w.heap.size) (hM : E.M ≤ w.heap.size) (hE : ∀ g, E.ow g → g < w.heap.size) {R : List (Nat × Ent)} {x : SV} {u : Value}
    (ho : resOk0 rows.length x = true) (h : vd0 Er (resRows rows 0) w' x u) : vd0 (E.join Er kb rows.length) (addRows R kb rows 0) w' (renum0 kb x) u := by
  cases x with
  | own i =>
    simp only [resOk0] at ho
    have hi : i < rows.length := Nat.le_of_ble_eq_true ho
    simp only [vd0, renum0] at h ⊢
    rw [lk_resRows, if_pos (Nat.zero_le _), Nat.sub_zero, List.getElem?_eq_getElem hi] at h
    rw [lk_addRows, (idx_iff kb _ i).2 rfl]
    simp only [Nat.zero_le, if_true, Nat.sub_zero, List.getElem?_eq_getElem hi]
    rw [join_hs hi]
    exact h
  | row t r =>
    cases t <;> simp [resOk0, Tag.isNew] at ho
    exact RowDen.mono h fun g hg _ => ⟨rfl, join_F hB hM hE hg⟩
  | int k n => exact h
  | bool b => exact h
  | lit b => exact h
  | str s => exact h
  | nilS r => exact h
  | _ => simp [resOk0] at ho
theorem renumL_vd {p q : SV → Value → Prop} {ok : SV → Bool} {f : SV → SV} (hf : ∀ x u, ok x = true → p x u → q (f x) u) {l : List SV} {us : List Value} (ho : allB ok l = true) (h : L0 p l us) : L0 q (renumL f l) us := by
  induction l generalizing us with
  | nil => obtain rfl := h.inv_nil; exact L0.nil
  | cons x l ih =>
    obtain ⟨u, us', rfl, h1, h2⟩ := h.inv_cons
    simp only [allB] at ho
    split at ho
    · rename_i hx; exact .cons (hf x u hx h1) (ih ho h2)
    · simp at ho
theorem renum1_vd {Er : Env} {kb : Nat} {rows : List Rw} {w' : World} (hB : Er.M = w.heap.size) (hM : E.M ≤ w.heap.size) (hE : ∀ g, E.ow g → g < w.heap.size) {R : List (Nat × Ent)} {x : SV} {u : Value}
    (ho : resOk1 rows.length x = true) (h : vd2 Er (resRows rows 0) w' x u) : vd2 (E.join Er kb rows.length) (addRows R kb rows 0) w' (renum1 kb x) u := by
  have key : ∀ y v, resOk0 rows.length y = true → vd1 Er (resRows rows 0) w' y v → vd1 (E.join Er kb rows.length) (addRows R kb rows 0) w' (renum0 kb y) v := by
    intro y v hy hv
    have := renum0_vd (kb := kb) (R := R) hB hM hE hy (u := v) (w' := w') (by cases y <;> first | exact hv | simp [resOk0] at hy)
    cases y <;> first | exact this | simp [resOk0] at hy
  cases x with
  | agg cs =>
    obtain ⟨us, rfl, hl⟩ := h
    exact ⟨us, rfl, renumL_vd key ho hl⟩
  | tup vs => simp [resOk1, resOk0] at ho
  | clo f b c => simp [resOk1, resOk0] at ho
  | int k n => exact key (.int k n) u ho h
  | bool b => exact key (.bool b) u ho h
  | lit b => exact key (.lit b) u ho h
  | str s => exact key (.str s) u ho h
  | row t r => exact key (.row t r) u ho h
  | nilS r => exact key (.nilS r) u ho h
  | own i => exact key (.own i) u ho h
  | box k off => exact key (.box k off) u ho h
  | pt t c => exact key (.pt t c) u ho h
  | oel k i off => exact key (.oel k i off) u ho h
  | junk => exact key (.junk) u ho h
theorem renum2_vd {Er : Env} {kb : Nat} {rows : List Rw} {w' : World} (hB : Er.M = w.heap.size) (hM : E.M ≤ w.heap.size) (hE : ∀ g, E.ow g → g < w.heap.size) {R : List (Nat × Ent)} {x : SV} {u : Value}
    (ho : resOk2 rows.length x = true) (h : vd3 Er (resRows rows 0) w' x u) : vd3 (E.join Er kb rows.length) (addRows R kb rows 0) w' (renum2 kb x) u := by
  cases x with
  | tup vs =>
    obtain ⟨us, rfl, hl⟩ := h
    exact ⟨us, rfl, renumL_vd (fun y v hy hv => renum1_vd hB hM hE hy hv) ho hl⟩
  | agg cs => exact renum1_vd (kb := kb) (rows := rows) (w' := w') (R := R) hB hM hE (x := .agg cs) (u := u) ho h
  | clo f b c => simp [resOk2, resOk1, resOk0] at ho
  | int k n => exact renum1_vd (kb := kb) (rows := rows) (w' := w') (R := R) hB hM hE (x := .int k n) (u := u) ho h
  | bool b => exact renum1_vd (kb := kb) (rows := rows) (w' := w') (R := R) hB hM hE (x := .bool b) (u := u) ho h
  | lit b => exact renum1_vd (kb := kb) (rows := rows) (w' := w') (R := R) hB hM hE (x := .lit b) (u := u) ho h
  | str s => exact renum1_vd (kb := kb) (rows := rows) (w' := w') (R := R) hB hM hE (x := .str s) (u := u) ho h
  | row t r => exact renum1_vd (kb := kb) (rows := rows) (w' := w') (R := R) hB hM hE (x := .row t r) (u := u) ho h
  | nilS r => exact renum1_vd (kb := kb) (rows := rows) (w' := w') (R := R) hB hM hE (x := .nilS r) (u := u) ho h
  | own i => exact renum1_vd (kb := kb) (rows := rows) (w' := w') (R := R) hB hM hE (x := .own i) (u := u) ho h
  | box k off => exact renum1_vd (kb := kb) (rows := rows) (w' := w') (R := R) hB hM hE (x := .box k off) (u := u) ho h
  | pt t c => exact renum1_vd (kb := kb) (rows := rows) (w' := w') (R := R) hB hM hE (x := .pt t c) (u := u) ho h
  | oel k i off => exact renum1_vd (kb := kb) (rows := rows) (w' := w') (R := R) hB hM hE (x := .oel k i off) (u := u) ho h
  | junk => exact renum1_vd (kb := kb) (rows := rows) (w' := w') (R := R) hB hM hE (x := .junk) (u := u) ho h
/-- What a call hands over joins what one has. -/
theorem Den.join (h : Den τ w0 E ⟨fr, stk, bx, rw', dep⟩ bs w) {Er : Env} {kb : Nat} {rows : List Rw} {w' : World} (hw : Below w.heap.size w w') (hB : Er.M = w.heap.size)
    (how : ∀ g, Er.ow g → w.heap.size ≤ g ∧ g < w'.heap.size) (hown : ∀ i r, rows[i]? = some r → OwnD τ Er w' i r.len r)
    (hrr : ∀ i j ri rj g, rows[i]? = some ri → rows[j]? = some rj → i ≠ j → (Er.hs i).ownBlock = some g → (Er.hs j).ownBlock ≠ some g)
    (hfree : keysFree ⟨fr, stk, bx, rw', dep⟩ kb rows.length = true) :
    Den τ w0 (E.join Er kb rows.length) ⟨fr, stk, bx, addRows rw' kb rows 0, dep⟩ bs w' := by
  have hM := h.Mh
  have hEo : ∀ g, E.ow g → g < w.heap.size := fun g hg => (h.owb g hg).2
  have hk : Keeps E (E.join Er kb rows.length) w w' := ⟨rfl, hw.size, fun g _ hg => hw.block g hg, fun g hg => hg.elim .inl fun hg => .inr (how g hg).1⟩
  -- which rows there are
  have hl : ∀ k e lo r, lk (addRows rw' kb rows 0) k = some e → e.mine = some (lo, r) →
      (∃ i ri, k = kb + 100000 * i ∧ rows[i]? = some ri ∧ e = .own ri ∧ (E.join Er kb rows.length).hs k = Er.hs i) ∨
      (lk rw' k = some e ∧ (E.join Er kb rows.length).hs k = E.hs k) := by
    intro k e lo r hk hm
    rw [lk_addRows] at hk
    cases hi : idx kb k with
    | none =>
      rw [hi] at hk
      exact .inr ⟨hk, by simp [Env.join, hi]⟩
    | some i =>
      rw [hi] at hk
      simp only [Nat.zero_le, if_true, Nat.sub_zero] at hk
      cases hri : rows[i]? with
      | none =>
        rw [hri] at hk
        refine .inr ⟨hk, ?_⟩
        have : ¬ i < rows.length := by intro hlt; rw [List.getElem?_eq_getElem hlt] at hri; simp at hri
        simp [Env.join, hi, this]
      | some ri =>
        rw [hri] at hk
        have hlt : i < rows.length := (List.getElem?_eq_some_iff.1 hri).1
        refine .inl ⟨i, ri, (idx_iff kb k i).1 hi, hri, ?_, ?_⟩
        · simpa using hk.symm
        · simp [Env.join, hi, hlt]
  have hblk : ∀ i ri g, rows[i]? = some ri → (Er.hs i).ownBlock = some g → w.heap.size ≤ g ∧ g < w'.heap.size := fun i ri g hi hg => how g ((hown i ri hi).ow g hg)
  have hold : ∀ k e m g, lk rw' k = some e → e.mine = some m → (E.hs k).ownBlock = some g → g < w.heap.size := fun k e m g h1 h2 h3 => (h.own k e m.1 m.2 h1 h2).lt h.owb h3
  refine h.move hk rfl (hw.mono (Nat.le_trans h.bM hM)) ?_ rfl rfl ?_ ?_ ?_ ?_ ?_ ?_
  · refine ⟨fun k hk => ?_, fun _ _ => rfl⟩
    have hno : ∀ i, i < rows.length → k ≠ kb + 100000 * i := fun i hi e => by rw [e, keysFree_no hfree i hi] at hk; exact absurd hk (by simp)
    dsimp only
    rw [lk_addRows]
    cases hi : idx kb k with
    | none => exact ⟨by simp [Env.join, hi], entLike.refl _ _ _ _⟩
    | some i =>
      have : ¬ i < rows.length := fun hlt => hno i hlt ((idx_iff kb k i).1 hi)
      simp only [Nat.zero_le, if_true, Nat.sub_zero, List.getElem?_eq_none (Nat.le_of_not_lt this)]
      exact ⟨by simp [Env.join, hi, this], entLike.refl _ _ _ _⟩
  · rintro g (hg | hg)
    · exact ⟨(h.owb g hg).1, Nat.lt_of_lt_of_le (h.owb g hg).2 hw.size⟩
    · exact ⟨Nat.le_trans h.bM (Nat.le_trans hM (how g hg).1), (how g hg).2⟩
  · intro k T cs hb
    obtain ⟨ho, us, hheap, hcs⟩ := h.box k T cs hb
    refine ⟨.inl ho, us, ?_, ?_⟩
    · show w'.heap[E.bs k]? = _
      rw [hw.block _ (h.owb _ ho).2]
      exact hheap
    · refine hcs.mono fun x u hx hp => vd1.keeps hk (fun j hj => ?_) (fun j hj => rfl) hp
      have hj' : St.has (own0 j) ⟨fr, stk, bx, rw', dep⟩ = true := has_box hb hx hj
      have hno : ∀ i, i < rows.length → j ≠ kb + 100000 * i := fun i hi e => by rw [e, keysFree_no hfree i hi] at hj'; exact absurd hj' (by simp)
      dsimp only
      rw [lk_addRows]
      cases hi : idx kb j with
      | none => exact ⟨by simp [Env.join, hi], entLike.refl _ _ _ _⟩
      | some i =>
        have : ¬ i < rows.length := fun hlt => hno i hlt ((idx_iff kb j i).1 hi)
        simp only [Nat.zero_le, if_true, Nat.sub_zero, List.getElem?_eq_none (Nat.le_of_not_lt this)]
        exact ⟨by simp [Env.join, hi, this], entLike.refl _ _ _ _⟩
  · intro k e lo r hk' hm
    rcases hl k e lo r hk' hm with ⟨i, ri, rfl, hri, rfl, hh⟩ | ⟨ho, hh⟩
    · simp [Ent.mine] at hm
      obtain ⟨rfl, rfl⟩ := hm
      obtain ⟨h1, h2, us, h3, h4⟩ := hown i ri hri
      refine ⟨fun g hg => .inr (h1 g (hh ▸ hg)), h2, us, ?_, ?_⟩
      · rw [hh]
        refine ⟨h3.1, ?_⟩
        rcases h3.2 with h5 | ⟨g, cap, cur, hv, hg, h5⟩
        · exact .inl h5
        · exact .inr ⟨g, cap, cur, hv, Nat.le_trans hM (by omega), h5⟩
      · intro i' j x hi' hx
        obtain ⟨u, hu, hc⟩ := h4 i' j x hi' hx
        rw [if_pos hi'] at hc ⊢
        exact ⟨u, hu, cd1.mono hc fun g hg _ => ⟨rfl, join_F hB hM hEo hg⟩⟩
    · exact (h.own k e lo r ho hm).keeps hk hh rfl (fun g hg => .inl ((h.own k e lo r ho hm).ow g hg)) fun g hg => hw.block g (hold k e _ g ho hm hg)
  · exact h.bb
  · intro k k' b e m hb he hm
    rcases hl k' e m.1 m.2 he hm with ⟨i, ri, rfl, hri, rfl, hh⟩ | ⟨ho, hh⟩
    · rw [hh]
      intro hg
      have h1 := (hblk i ri _ hri hg).1
      have h2 := h.box_lt hb
      exact absurd h2 (Nat.not_lt.2 h1)
    · rw [hh]; exact h.br k k' b e m hb ho hm
  · intro k k' e e' m m' g he he' hm hm' hne hg
    rcases hl k e m.1 m.2 he hm with ⟨i, ri, rfl, hri, rfl, hh⟩ | ⟨ho, hh⟩
    · rw [hh] at hg
      rcases hl k' e' m'.1 m'.2 he' hm' with ⟨i', ri', rfl, hri', rfl, hh'⟩ | ⟨ho', hh'⟩
      · rw [hh']
        exact hrr i i' ri ri' g hri hri' (fun e => hne (by rw [e])) hg
      · rw [hh']
        intro hg'
        have h1 := (hblk i ri _ hri hg).1
        have h2 := hold k' e' m' g ho' hm' hg'
        omega
    · rw [hh] at hg
      rcases hl k' e' m'.1 m'.2 he' hm' with ⟨i', ri', rfl, hri', rfl, hh'⟩ | ⟨ho', hh'⟩
      · rw [hh']
        intro hg'
        have h1 := (hblk i' ri' _ hri' hg').1
        have h2 := hold k e m g ho hm hg
        omega
      · rw [hh']; exact h.rr k k' e e' m m' g ho ho' hm hm' hne hg
end
end Go.Proofs.Ytmgccphapkmmeaa
