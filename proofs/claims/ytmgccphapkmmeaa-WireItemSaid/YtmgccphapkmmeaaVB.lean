/- A symbolic executor for loaded Go code: what its states say of the machine's. -/
import Derived.Test.YtmgccphapkmmeaaVA
namespace Go.Proofs.Ytmgccphapkmmeaa
open Go.RowKit

/-! ### 1. What a row in memory reads as -/
structure Env where
  base : Nat
  M : Nat
  bs : Nat → Nat
  hs : Nat → Value
  ow : Nat → Prop
/-- Which blocks a row with that tag may lie in. -/
def Env.F (E : Env) (t : Tag) (g : Nat) : Prop := ¬ E.ow g ∧ match t with
  | .old => g < E.M
  | .new => E.M ≤ g
  | .any => True
/-- Cells without rows. -/
def sc : SV → Value → Prop
  | .int k n, v => v = .int k n
  | .bool b, v => v = .bool b
  | .lit b, v => v = .bool b
  | .str s, v => v = .string s
  | _, _ => False
def RowD (cd : SV → Value → Prop) (w : World) (F : Nat → Prop) (r : Rw) (v : Value) : Prop :=
  r.len * r.bts ≤ 140737488355328 ∧ ∃ A c, v = .slice A r.len c ∧ r.len ≤ c ∧
    (0 < r.len → ∃ ad : Addr, A = some ad ∧ ad.spot = none ∧ F ad.block ∧
      ∀ (i j : Nat) x, i < r.len → (r.cell .any i)[j]? = some x → ∃ u, w.cell? (ad.add (i * r.sz + j)) = some u ∧ cd x u)
/-- Cells: a row among them is one of such blocks. -/
def cd1 (w : World) (F : Nat → Prop) : SV → Value → Prop
  | .row _ r, u => RowD sc w F r u
  | x, u => sc x u
def RowDen (w : World) (F : Nat → Prop) (r : Rw) (v : Value) : Prop := RowD (cd1 w F) w F r v
/-- Cells behind a pointer. -/
def cd2 (w : World) (F : Nat → Prop) : SV → Value → Prop
  | .row _ r, u => RowDen w F r u
  | x, u => sc x u
/-- A list of values, one by one. -/
def L0 (p : SV → Value → Prop) (cs : List SV) (us : List Value) : Prop := cs.length = us.length ∧ ∀ (j : Nat) x, cs[j]? = some x → ∃ u, us[j]? = some u ∧ p x u
theorem L0.mono {p q : SV → Value → Prop} {cs : List SV} {us : List Value} (h : L0 p cs us) (hq : ∀ x u, x ∈ cs → p x u → q x u) : L0 q cs us :=
  ⟨h.1, fun j x hx => let ⟨u, hu, hp⟩ := h.2 j x hx; ⟨u, hu, hq x u (List.mem_of_getElem? hx) hp⟩⟩
theorem L0.nil {p : SV → Value → Prop} : L0 p [] [] := ⟨rfl, fun j x h => by simp at h⟩
theorem L0.cons {p : SV → Value → Prop} {x : SV} {u : Value} {cs : List SV} {us : List Value} (h : p x u) (hl : L0 p cs us) : L0 p (x :: cs) (u :: us) := by
  refine ⟨by simp [hl.1], fun j y hy => ?_⟩
  cases j with
  | zero => simp at hy; subst hy; exact ⟨u, by simp, h⟩
  | succ j => simpa using hl.2 j y (by simpa using hy)
theorem L0.inv_cons {p : SV → Value → Prop} {x : SV} {cs : List SV} {us : List Value} (h : L0 p (x :: cs) us) : ∃ u us', us = u :: us' ∧ p x u ∧ L0 p cs us' := by
  cases us with
  | nil => have := h.1; simp at this
  | cons u us =>
    refine ⟨u, us, rfl, ?_, ?_⟩
    · obtain ⟨u', hu, hp⟩ := h.2 0 x (by simp)
      simp at hu; subst hu; exact hp
    · exact ⟨by have := h.1; simpa using this, fun j y hy => by simpa using h.2 (j + 1) y (by simpa using hy)⟩
theorem L0.inv_nil {p : SV → Value → Prop} {us : List Value} (h : L0 p [] us) : us = [] := by
  have := h.1; simp at this; exact List.eq_nil_of_length_eq_zero this.symm
theorem L0.drop {p : SV → Value → Prop} {cs : List SV} {us : List Value} (h : L0 p cs us) (n : Nat) : L0 p (cs.drop n) (us.drop n) :=
  ⟨by simp [h.1], fun j x hx => by
    rw [List.getElem?_drop] at hx ⊢
    exact h.2 _ x hx⟩
theorem L0.take {p : SV → Value → Prop} {cs : List SV} {us : List Value} (h : L0 p cs us) (n : Nat) : L0 p (cs.take n) (us.take n) :=
  ⟨by simp [h.1], fun j x hx => by
    rw [List.getElem?_take] at hx ⊢
    split at hx
    · rename_i hj; rw [if_pos hj]; exact h.2 _ x hx
    · simp at hx⟩
theorem L0.append {p : SV → Value → Prop} {cs cs' : List SV} {us us' : List Value} (h : L0 p cs us) (h' : L0 p cs' us') : L0 p (cs ++ cs') (us ++ us') := by
  refine ⟨by simp [h.1, h'.1], fun j x hx => ?_⟩
  by_cases hj : j < cs.length
  · rw [List.getElem?_append_left hj] at hx
    rw [List.getElem?_append_left (by rw [← h.1]; exact hj)]
    exact h.2 j x hx
  · rw [List.getElem?_append_right (by omega)] at hx
    rw [List.getElem?_append_right (by rw [← h.1]; omega), ← h.1]
    exact h'.2 _ x hx

/-! ### 2. What a value says -/
/-- The row behind an entry that is written, and how many of its first elements lead to new rows alone. -/
def Ent.mine : Ent → Option (Nat × Rw)
  | .own r => some (r.len, r)
  | .part lo r => some (lo, r)
  | .shared _ _ => none
def vd0 (E : Env) (R : List (Nat × Ent)) (w : World) : SV → Value → Prop
  | .int k n, v => v = .int k n
  | .bool b, v => v = .bool b
  | .lit b, v => v = .bool b
  | .str s, v => v = .string s
  | .row t r, v => RowDen w (E.F t) r v
  | .nilS r, v => v = .slice none 0 0 ∧ r.len = 0
  | .own k, v => match lk R k with
    | some (.own _) => v = E.hs k
    | some (.part _ _) => v = E.hs k
    | some (.shared t r) => RowDen w (E.F t) r v
    | none => True
  | .box k off, v => v = .pointer (some ⟨E.bs k, off, none⟩)
  | .pt t cs, v => ∃ ad : Addr, v = .pointer (some ad) ∧ ad.spot = none ∧ ad.block < w.heap.size ∧ E.F t ad.block ∧ ∀ (j : Nat) x, cs[j]? = some x → ∃ u, w.cell? (ad.add j) = some u ∧ cd2 w (E.F t) x u
  | .oel k i off, v => match lk R k with
    | some (.own r) => ∃ g n c, E.hs k = .slice (some ⟨g, 0, none⟩) n c ∧ 0 ≤ i ∧ i < r.len ∧ v = .pointer (some ⟨g, i.toNat * r.sz + off, none⟩)
    | some (.part _ r) => ∃ g n c, E.hs k = .slice (some ⟨g, 0, none⟩) n c ∧ 0 ≤ i ∧ i < r.len ∧ v = .pointer (some ⟨g, i.toNat * r.sz + off, none⟩)
    | _ => True
  | .junk, _ => True
  | _, _ => False
def vdf (E : Env) (R : List (Nat × Ent)) (w : World) : SV → Value → Prop
  | .agg cs, v => ∃ us, v = .agg (us : List Value).toArray ∧ L0 (vd0 E R w) cs us
  | x, v => vd0 E R w x v
def vd1 (E : Env) (R : List (Nat × Ent)) (w : World) : SV → Value → Prop
  | .clo f a c, v => ∃ us vs, v = .func (.func f) (us : List Value).toArray (vs : List Value).toArray ∧ L0 (vdf E R w) a us ∧ L0 (vd0 E R w) c vs
  | x, v => vd0 E R w x v
def vd2 (E : Env) (R : List (Nat × Ent)) (w : World) : SV → Value → Prop
  | .agg cs, v => ∃ us, v = .agg (us : List Value).toArray ∧ L0 (vd1 E R w) cs us
  | x, v => vd1 E R w x v
def vd3 (E : Env) (R : List (Nat × Ent)) (w : World) : SV → Value → Prop
  | .tup vs, v => ∃ us, v = .tuple (us : List Value).toArray ∧ L0 (vd2 E R w) vs us
  | x, v => vd2 E R w x v

/-! ### 3. What a state says -/
def FrD (E : Env) (R : List (Nat × Ent)) (w : World) (f : List (Nat × SV)) (a : Array Value) : Prop := ∀ t, vd3 E R w (lkv f t) (a.getD t undef)
structure BoxD (E : Env) (R : List (Nat × Ent)) (w : World) (k : Nat) (T : TypeId) (cs : List SV) : Prop where
  ow : E.ow (E.bs k)
  cells : ∃ us : List Value, w.heap[E.bs k]? = some (.cells us.toArray T (0, 0)) ∧ L0 (vd1 E R w) cs us
structure OwnD (τ : Tys) (E : Env) (w : World) (k lo : Nat) (r : Rw) : Prop where
  ow : ∀ g, (E.hs k).ownBlock = some g → E.ow g
  fits : r.len * r.bts ≤ 140737488355328
  row : ∃ us : List Value, w.ownsRow E.M (τ.et r.kd) r.sz (E.hs k) r.len us ∧
    ∀ (i j : Nat) x, i < r.len → (r.cell .any i)[j]? = some x → ∃ u, us[i * r.sz + j]? = some u ∧ cd1 w (E.F (if i < lo then .new else .any)) x u
structure Den (τ : Tys) (w0 : World) (E : Env) (s : St) (as : List (Array Value)) (w : World) : Prop where
  below : Below E.base w0 w
  bM : E.base ≤ E.M
  Mh : E.M ≤ w.heap.size
  owb : ∀ g, E.ow g → E.base ≤ g ∧ g < w.heap.size
  fr : ∀ (i : Nat) f, (s.fr :: s.stk)[i]? = some f → ∃ a, as[i]? = some a ∧ FrD E s.rows w f a
  box : ∀ k T cs, lk s.boxes k = some (T, cs) → BoxD E s.rows w k T cs
  own : ∀ k e lo r, lk s.rows k = some e → e.mine = some (lo, r) → OwnD τ E w k lo r
  bb : ∀ k k' b b', lk s.boxes k = some b → lk s.boxes k' = some b' → k ≠ k' → E.bs k ≠ E.bs k'
  br : ∀ k k' b e m, lk s.boxes k = some b → lk s.rows k' = some e → e.mine = some m → (E.hs k').ownBlock ≠ some (E.bs k)
  rr : ∀ k k' e e' m m' g, lk s.rows k = some e → lk s.rows k' = some e' → e.mine = some m → e'.mine = some m' → k ≠ k' → (E.hs k).ownBlock = some g → (E.hs k').ownBlock ≠ some g

/-! ### 4. Reading on in another world -/
theorem cell_of_heap {w w' : World} {a : Addr} {u : Value} (h : w.cell? a = some u) (he : w'.heap[a.block]? = w.heap[a.block]?) : w'.cell? a = some u := (World.cell?_of_block he).trans h
theorem RowD.mono {cd cd' : SV → Value → Prop} {w w' : World} {F F' : Nat → Prop} {r : Rw} {v : Value} (h : RowD cd w F r v)
    (hw : ∀ g, F g → g < w.heap.size → w'.heap[g]? = w.heap[g]? ∧ F' g) (hc : ∀ x u, cd x u → cd' x u) : RowD cd' w' F' r v := by
  obtain ⟨h0, A, c, hv, hn, h⟩ := h
  refine ⟨h0, A, c, hv, hn, fun hp => ?_⟩
  obtain ⟨ad, hA, hs, hF, hcell⟩ := h hp
  -- a row with an element has a cell where its elements have cells
  by_cases hex : ∃ (i j : Nat) (x : SV), i < r.len ∧ (r.cell .any i)[j]? = some x
  · obtain ⟨i, j, x, hi, hx⟩ := hex
    obtain ⟨u, hu, _⟩ := hcell i j x hi hx
    have hlt : (ad.add (i * r.sz + j)).block < w.heap.size := World.block_lt_of_cell? w _ hu
    have hb : (ad.add (i * r.sz + j)).block = ad.block := by unfold Addr.add; split <;> rfl
    rw [hb] at hlt
    obtain ⟨he, hF'⟩ := hw _ hF hlt
    refine ⟨ad, hA, hs, hF', fun i j x hi hx => ?_⟩
    obtain ⟨u, hu, hd⟩ := hcell i j x hi hx
    have hb : (ad.add (i * r.sz + j)).block = ad.block := by unfold Addr.add; split <;> rfl
    exact ⟨u, cell_of_heap hu (by rw [hb]; exact he), hc x u hd⟩
  · exfalso
    apply hex
    refine ⟨0, 0, ((r.cell .any 0)[0]?).getD .junk, hp, ?_⟩
    cases r <;> rfl
theorem cd1.mono {w w' : World} {F F' : Nat → Prop} {x : SV} {u : Value} (h : cd1 w F x u) (hw : ∀ g, F g → g < w.heap.size → w'.heap[g]? = w.heap[g]? ∧ F' g) : cd1 w' F' x u := by
  cases x <;> first
    | exact h
    | exact RowD.mono h hw fun _ _ h => h
theorem RowDen.mono {w w' : World} {F F' : Nat → Prop} {r : Rw} {v : Value} (h : RowDen w F r v) (hw : ∀ g, F g → g < w.heap.size → w'.heap[g]? = w.heap[g]? ∧ F' g) : RowDen w' F' r v :=
  RowD.mono h hw fun _ _ h => cd1.mono h hw
theorem cd2.mono {w w' : World} {F F' : Nat → Prop} {x : SV} {u : Value} (h : cd2 w F x u) (hw : ∀ g, F g → g < w.heap.size → w'.heap[g]? = w.heap[g]? ∧ F' g) : cd2 w' F' x u := by
  cases x <;> first
    | exact h
    | exact RowDen.mono h hw
/-- One's own blocks apart, all is as it was; what is one's own since then is new. -/
structure Keeps (E E' : Env) (w w' : World) : Prop where
  M : E'.M = E.M
  size : w.heap.size ≤ w'.heap.size
  heap : ∀ g, ¬ E.ow g → g < w.heap.size → w'.heap[g]? = w.heap[g]?
  ow : ∀ g, E'.ow g → E.ow g ∨ w.heap.size ≤ g
theorem Keeps.refl (E : Env) (w : World) : Keeps E E w w := ⟨rfl, Nat.le_refl _, fun _ _ _ => rfl, fun _ h => .inl h⟩
theorem Keeps.F {E E' : Env} {w w' : World} (h : Keeps E E' w w') (t : Tag) : ∀ g, E.F t g → g < w.heap.size → w'.heap[g]? = w.heap[g]? ∧ E'.F t g := by
  intro g hF hlt
  refine ⟨h.heap g hF.1 hlt, ?_, ?_⟩
  · intro ho
    rcases h.ow g ho with h1 | h1
    · exact hF.1 h1
    · omega
  · have := hF.2
    rw [h.M]
    exact this
theorem RowDen.keeps {E E' : Env} {w w' : World} {t : Tag} {r : Rw} {v : Value} (h : RowDen w (E.F t) r v) (hk : Keeps E E' w w') : RowDen w' (E'.F t) r v := h.mono (hk.F t)
/-- An entry that says of a header what another one said: or it is written no more, and read as a row. -/
def Ent.like (w' : World) (E' : Env) (v : Value) (e e' : Ent) : Prop := e = e' ∨ (∃ lo lo' r r', e.mine = some (lo, r) ∧ e'.mine = some (lo', r') ∧ r.kd = r'.kd ∧ r.len = r'.len) ∨
  ∃ lo r t, e.mine = some (lo, r) ∧ e' = .shared t r ∧ RowDen w' (E'.F t) r v
def entLike (w' : World) (E' : Env) (v : Value) (e e' : Option Ent) : Prop := match e, e' with
  | some e, some e' => e.like w' E' v e'
  | none, none => True
  | _, _ => False
theorem entLike.refl (w' : World) (E' : Env) (v : Value) (e : Option Ent) : entLike w' E' v e e := by cases e <;> simp [entLike, Ent.like]
/-- The names in a value mean what they meant. -/
structure Names (E E' : Env) (R R' : List (Nat × Ent)) (w' : World) (v : SV) : Prop where
  own : ∀ k, deep3 (own0 k) v = true → E'.hs k = E.hs k ∧ entLike w' E' (E.hs k) (lk R k) (lk R' k)
  box : ∀ k, deep3 (box0 k) v = true → E'.bs k = E.bs k
theorem Rw.sz_of_kd {r r' : Rw} (h : r.kd = r'.kd) : r.sz = r'.sz := by unfold Rw.sz; rw [h]
theorem vd0.keeps {E E' : Env} {R R' : List (Nat × Ent)} {w w' : World} (hk : Keeps E E' w w') {x : SV} {v : Value}
    (ho : ∀ k, own0 k x = true → E'.hs k = E.hs k ∧ entLike w' E' (E.hs k) (lk R k) (lk R' k)) (hb : ∀ k, box0 k x = true → E'.bs k = E.bs k) (h : vd0 E R w x v) : vd0 E' R' w' x v := by
  cases x with
  | row t r => exact RowDen.keeps h hk
  | own k =>
    obtain ⟨h1, h2⟩ := ho k (by simp [own0])
    simp only [vd0] at h ⊢
    cases hR : lk R k with
    | none => rw [hR] at h2; cases hR' : lk R' k with
      | none => trivial
      | some e' => rw [hR'] at h2; exact h2.elim
    | some e =>
      rw [hR] at h h2
      cases hR' : lk R' k with
      | none => rw [hR'] at h2; exact h2.elim
      | some e' =>
        rw [hR'] at h2
        rcases h2 with h2 | ⟨lo, lo', r, r', m, m', _, _⟩ | ⟨lo, r, t, m, rfl, hd⟩
        · subst h2
          cases e with
          | own r => rw [h1]; exact h
          | part lo r => rw [h1]; exact h
          | shared t r => exact RowDen.keeps h hk
        · cases e <;> cases e' <;> simp_all [Ent.mine]
        · cases e with
          | own r => rw [show v = _ from h]; exact hd
          | part lo r => rw [show v = _ from h]; exact hd
          | shared t r => simp [Ent.mine] at m
  | box k off =>
    have := hb k (by simp [box0])
    simp only [vd0] at h ⊢
    rw [this]; exact h
  | pt t cs =>
    obtain ⟨ad, hv, hs, hlt, hF, hc⟩ := h
    have hb' : ∀ j, (ad.add j).block = ad.block := fun j => by unfold Addr.add; split <;> rfl
    obtain ⟨he, hF'⟩ := hk.F t _ hF hlt
    refine ⟨ad, hv, hs, Nat.lt_of_lt_of_le hlt hk.size, hF', fun j x hx => ?_⟩
    obtain ⟨u, hu, hd⟩ := hc j x hx
    exact ⟨u, cell_of_heap hu (by rw [hb']; exact he), cd2.mono hd (hk.F t)⟩
  | oel k i off =>
    obtain ⟨h1, h2⟩ := ho k (by simp [own0])
    simp only [vd0] at h ⊢
    cases hR : lk R k with
    | none => rw [hR] at h2; cases hR' : lk R' k with
      | none => trivial
      | some e' => rw [hR'] at h2; exact h2.elim
    | some e =>
      rw [hR] at h h2
      cases hR' : lk R' k with
      | none => rw [hR'] at h2; exact h2.elim
      | some e' =>
        rw [hR'] at h2
        rcases h2 with h2 | ⟨lo, lo', r, r', m, m', hkd, hlen⟩ | ⟨lo, r, t, m, rfl, hd⟩
        · subst h2
          cases e <;> first
            | trivial
            | (rw [h1]; exact h)
        · have hsz := Rw.sz_of_kd hkd
          cases e <;> cases e' <;> simp_all [Ent.mine]
        · trivial
  | _ => exact h
theorem anyL_of_mem {p : SV → Bool} {x : SV} {l : List SV} (h : x ∈ l) (hp : p x = true) : anyL p l = true := by
  induction l with
  | nil => simp at h
  | cons y l ih =>
    simp only [anyL]
    rcases List.mem_cons.1 h with rfl | h
    · rw [hp]
    · split
      · rfl
      · exact ih h
theorem anyL_none {p : SV → Bool} {x : SV} {l : List SV} (h : anyL p l = false) (hx : x ∈ l) : p x = false := by
  cases hp : p x with
  | false => rfl
  | true => rw [anyL_of_mem hx hp] at h; exact absurd h (by simp)
theorem vdf.keeps {E E' : Env} {R R' : List (Nat × Ent)} {w w' : World} (hk : Keeps E E' w w') {x : SV} {v : Value}
    (ho : ∀ k, deepf (own0 k) x = true → E'.hs k = E.hs k ∧ entLike w' E' (E.hs k) (lk R k) (lk R' k))
    (hb : ∀ k, deepf (box0 k) x = true → E'.bs k = E.bs k) (h : vdf E R w x v) : vdf E' R' w' x v := by
  cases x with
  | agg cs =>
    obtain ⟨us, hv, hl⟩ := h
    exact ⟨us, hv, hl.mono fun y u hy hp => vd0.keeps hk (fun k hy' => ho k (anyL_of_mem hy hy')) (fun k hy' => hb k (anyL_of_mem hy hy')) hp⟩
  | _ =>
    first
    | exact vd0.keeps (x := SV.int _ _) (v := v) hk ho hb h
    | exact vd0.keeps (x := SV.bool _) (v := v) hk ho hb h
    | exact vd0.keeps (x := SV.lit _) (v := v) hk ho hb h
    | exact vd0.keeps (x := SV.str _) (v := v) hk ho hb h
    | exact vd0.keeps (x := SV.row _ _) (v := v) hk ho hb h
    | exact vd0.keeps (x := SV.nilS _) (v := v) hk ho hb h
    | exact vd0.keeps (x := SV.own _) (v := v) hk ho hb h
    | exact vd0.keeps (x := SV.box _ _) (v := v) hk ho hb h
    | exact vd0.keeps (x := SV.pt _ _) (v := v) hk ho hb h
    | exact vd0.keeps (x := SV.oel _ _ _) (v := v) hk ho hb h
    | exact vd0.keeps (x := SV.agg _) (v := v) hk ho hb h
    | exact vd0.keeps (x := SV.tup _) (v := v) hk ho hb h
    | exact vd0.keeps (x := SV.clo _ _ _) (v := v) hk ho hb h
    | exact vd0.keeps (x := SV.junk) (v := v) hk ho hb h
    | exact False.elim h
theorem vd1.keeps {E E' : Env} {R R' : List (Nat × Ent)} {w w' : World} (hk : Keeps E E' w w') {x : SV} {v : Value}
    (ho : ∀ k, deep1 (own0 k) x = true → E'.hs k = E.hs k ∧ entLike w' E' (E.hs k) (lk R k) (lk R' k)) (hb : ∀ k, deep1 (box0 k) x = true → E'.bs k = E.bs k) (h : vd1 E R w x v) : vd1 E' R' w' x v := by
  cases x with
  | clo f a c =>
    obtain ⟨us, vs, hv, ha, hc⟩ := h
    refine ⟨us, vs, hv, ha.mono fun y u hy hp => vdf.keeps hk (fun k hy' => ho k ?_) (fun k hy' => hb k ?_) hp, hc.mono fun y u hy hp => vd0.keeps hk (fun k hy' => ho k ?_) (fun k hy' => hb k ?_) hp⟩
    · have := anyL_of_mem hy hy'
      simp only [deep1, this]
    · have := anyL_of_mem hy hy'
      simp only [deep1, this]
    · have := anyL_of_mem hy hy'
      simp only [deep1, this]; split <;> rfl
    · have := anyL_of_mem hy hy'
      simp only [deep1, this]; split <;> rfl
  | _ =>
    first
    | exact vd0.keeps (x := SV.int _ _) (v := v) hk ho hb h
    | exact vd0.keeps (x := SV.bool _) (v := v) hk ho hb h
    | exact vd0.keeps (x := SV.lit _) (v := v) hk ho hb h
    | exact vd0.keeps (x := SV.str _) (v := v) hk ho hb h
    | exact vd0.keeps (x := SV.row _ _) (v := v) hk ho hb h
    | exact vd0.keeps (x := SV.nilS _) (v := v) hk ho hb h
    | exact vd0.keeps (x := SV.own _) (v := v) hk ho hb h
    | exact vd0.keeps (x := SV.box _ _) (v := v) hk ho hb h
    | exact vd0.keeps (x := SV.pt _ _) (v := v) hk ho hb h
    | exact vd0.keeps (x := SV.oel _ _ _) (v := v) hk ho hb h
    | exact vd0.keeps (x := SV.agg _) (v := v) hk ho hb h
    | exact vd0.keeps (x := SV.tup _) (v := v) hk ho hb h
    | exact vd0.keeps (x := SV.clo _ _ _) (v := v) hk ho hb h
    | exact vd0.keeps (x := SV.junk) (v := v) hk ho hb h
    | exact False.elim h
theorem vd2.keeps {E E' : Env} {R R' : List (Nat × Ent)} {w w' : World} (hk : Keeps E E' w w') {x : SV} {v : Value}
    (ho : ∀ k, deep2 (own0 k) x = true → E'.hs k = E.hs k ∧ entLike w' E' (E.hs k) (lk R k) (lk R' k)) (hb : ∀ k, deep2 (box0 k) x = true → E'.bs k = E.bs k) (h : vd2 E R w x v) : vd2 E' R' w' x v := by
  cases x with
  | agg cs =>
    obtain ⟨us, hv, hl⟩ := h
    exact ⟨us, hv, hl.mono fun y u hy hp => vd1.keeps hk (fun k hy' => ho k (anyL_of_mem hy hy')) (fun k hy' => hb k (anyL_of_mem hy hy')) hp⟩
  | _ =>
    first
    | exact vd1.keeps (x := SV.int _ _) (v := v) hk ho hb h
    | exact vd1.keeps (x := SV.bool _) (v := v) hk ho hb h
    | exact vd1.keeps (x := SV.lit _) (v := v) hk ho hb h
    | exact vd1.keeps (x := SV.str _) (v := v) hk ho hb h
    | exact vd1.keeps (x := SV.row _ _) (v := v) hk ho hb h
    | exact vd1.keeps (x := SV.nilS _) (v := v) hk ho hb h
    | exact vd1.keeps (x := SV.own _) (v := v) hk ho hb h
    | exact vd1.keeps (x := SV.box _ _) (v := v) hk ho hb h
    | exact vd1.keeps (x := SV.pt _ _) (v := v) hk ho hb h
    | exact vd1.keeps (x := SV.oel _ _ _) (v := v) hk ho hb h
    | exact vd1.keeps (x := SV.agg _) (v := v) hk ho hb h
    | exact vd1.keeps (x := SV.tup _) (v := v) hk ho hb h
    | exact vd1.keeps (x := SV.clo _ _ _) (v := v) hk ho hb h
    | exact vd1.keeps (x := SV.junk) (v := v) hk ho hb h
    | exact False.elim h
theorem vd3.keeps {E E' : Env} {R R' : List (Nat × Ent)} {w w' : World} (hk : Keeps E E' w w') {x : SV} {v : Value} (hn : Names E E' R R' w' x) (h : vd3 E R w x v) : vd3 E' R' w' x v := by
  cases x with
  | tup vs =>
    obtain ⟨us, hv, hl⟩ := h
    exact ⟨us, hv, hl.mono fun y u hy hp => vd2.keeps hk (fun k hy' => hn.own k (anyL_of_mem hy hy')) (fun k hy' => hn.box k (anyL_of_mem hy hy')) hp⟩
  | _ =>
    first
    | exact vd2.keeps (x := SV.int _ _) (v := v) hk hn.own hn.box h
    | exact vd2.keeps (x := SV.bool _) (v := v) hk hn.own hn.box h
    | exact vd2.keeps (x := SV.lit _) (v := v) hk hn.own hn.box h
    | exact vd2.keeps (x := SV.str _) (v := v) hk hn.own hn.box h
    | exact vd2.keeps (x := SV.row _ _) (v := v) hk hn.own hn.box h
    | exact vd2.keeps (x := SV.nilS _) (v := v) hk hn.own hn.box h
    | exact vd2.keeps (x := SV.own _) (v := v) hk hn.own hn.box h
    | exact vd2.keeps (x := SV.box _ _) (v := v) hk hn.own hn.box h
    | exact vd2.keeps (x := SV.pt _ _) (v := v) hk hn.own hn.box h
    | exact vd2.keeps (x := SV.oel _ _ _) (v := v) hk hn.own hn.box h
    | exact vd2.keeps (x := SV.agg _) (v := v) hk hn.own hn.box h
    | exact vd2.keeps (x := SV.tup _) (v := v) hk hn.own hn.box h
    | exact vd2.keeps (x := SV.clo _ _ _) (v := v) hk hn.own hn.box h
    | exact vd2.keeps (x := SV.junk) (v := v) hk hn.own hn.box h
    | exact False.elim h
/-- Where all names mean what they meant. -/
theorem Names.all {E E' : Env} {R R' : List (Nat × Ent)} {w' : World} {v : SV} (ho : ∀ k, E'.hs k = E.hs k ∧ entLike w' E' (E.hs k) (lk R k) (lk R' k)) (hb : ∀ k, E'.bs k = E.bs k) : Names E E' R R' w' v := ⟨fun k _ => ho k, fun k _ => hb k⟩
theorem Names.refl (E : Env) (R : List (Nat × Ent)) (w' : World) (v : SV) : Names E E R R w' v := ⟨fun _ _ => ⟨rfl, entLike.refl _ _ _ _⟩, fun _ _ => rfl⟩

/-! ### 5. Frames -/
theorem lkv_junk_of_has {p : SV → Bool} {f : List (Nat × SV)} (h : frHas p f = false) (t : Nat) (hj : p .junk = false) : deep3 p (lkv f t) = false := by
  induction f with
  | nil => simpa [lkv, deep3, deep2, deep1] using hj
  | cons x f ih =>
    obtain ⟨k, v⟩ := x
    simp only [frHas] at h
    simp only [lkv]
    split
    · split at h
      · simp at h
      · rename_i hv; simpa using hv
    · split at h
      · simp at h
      · exact ih h
theorem FrD.keeps {E E' : Env} {R R' : List (Nat × Ent)} {w w' : World} (hk : Keeps E E' w w') {f : List (Nat × SV)} {a : Array Value} (h : FrD E R w f a) (hn : ∀ t, Names E E' R R' w' (lkv f t)) : FrD E' R' w' f a :=
  fun t => vd3.keeps hk (hn t) (h t)
theorem lkv_kill (k : Nat) (f : List (Nat × SV)) (t : Nat) : lkv (killF k f) t = killV k (lkv f t) := by
  induction f with
  | nil => simp [killF, lkv, killV, deep3, deep2, deep1, own0]
  | cons x f ih =>
    obtain ⟨j, v⟩ := x
    simp only [killF, lkv]
    split
    · rfl
    · exact ih
theorem killV_own (k : Nat) (v : SV) : deep3 (own0 k) (killV k v) = false := by
  unfold killV
  split
  · simp [deep3, deep2, deep1, own0]
  · rename_i h; exact h
theorem killV_other (k j : Nat) (v : SV) (h : deep3 (own0 j) (killV k v) = true) : deep3 (own0 j) v = true := by
  unfold killV at h
  split at h
  · simp [deep3, deep2, deep1, own0] at h
  · exact h
theorem killV_box (k j : Nat) (v : SV) (h : deep3 (box0 j) (killV k v) = true) : deep3 (box0 j) v = true := by
  unfold killV at h
  split at h
  · simp [deep3, deep2, deep1, box0] at h
  · exact h
theorem vd3.kill {E : Env} {R : List (Nat × Ent)} {w : World} {x : SV} {v : Value} (k : Nat) (h : vd3 E R w x v) : vd3 E R w (killV k x) v := by
  unfold killV
  split
  · trivial
  · exact h
theorem FrD.kill {E : Env} {R : List (Nat × Ent)} {w : World} {f : List (Nat × SV)} {a : Array Value} (k : Nat) (h : FrD E R w f a) : FrD E R w (killF k f) a := by
  intro t
  rw [lkv_kill]
  exact (h t).kill k
theorem FrD.put {E : Env} {R : List (Nat × Ent)} {w : World} {f : List (Nat × SV)} {a : Act} {d : Nat} {x : SV} {v : Value} (h : FrD E R w f a.tmps) (hx : vd3 E R w x v) (hd : d < a.tmps.size) :
    FrD E R w ((d, x) :: f) (a.put (some d) v).tmps := by
  intro t
  simp only [lkv, Act.put]
  by_cases ht : d = t
  · subst ht
    rw [show Nat.beq d d = true from Nat.beq_refl d]
    simp only [Array.getD_eq_getD_getElem?, Array.getElem?_setIfInBounds_self_of_lt hd]
    exact hx
  · have : Nat.beq d t = false := by
      cases hb : Nat.beq d t with
      | false => rfl
      | true => exact absurd (Nat.eq_of_beq_eq_true hb) ht
    rw [this]
    have := h t
    simpa only [Array.getD_eq_getD_getElem?, Array.getElem?_setIfInBounds_ne ht] using this
theorem FrD.skip {E : Env} {R : List (Nat × Ent)} {w : World} {f : List (Nat × SV)} {a : Act} {v : Value} (h : FrD E R w f a.tmps) : FrD E R w f (a.put none v).tmps := h
/-- That cell may stand for this one. -/
def Fit : SV → SV → Prop
  | .int k n, .int k' n' => k = k' ∧ n = n'
  | .bool b, .bool b' => b = b'
  | .lit b, .bool b' => b = b'
  | .str s, .str s' => s = s'
  | .row _ r, .row _ r' => r = r' ∧ r.flat = true
  | .nilS r, .row _ r' => r = r' ∧ r.flat = true
  | _, _ => False
def FitL (c c' : List SV) : Prop := c.length = c'.length ∧ ∀ (j : Nat) x, c'[j]? = some x → ∃ y, c[j]? = some y ∧ Fit y x
theorem FitL.nil : FitL [] [] := ⟨rfl, fun j x h => by simp at h⟩
theorem FitL.cons {x y : SV} {c c' : List SV} (h : Fit y x) (hl : FitL c c') : FitL (y :: c) (x :: c') := by
  refine ⟨by simp [hl.1], fun j z hz => ?_⟩
  cases j with
  | zero => simp at hz; subst hz; exact ⟨y, by simp, h⟩
  | succ j => simpa using hl.2 j z (by simpa using hz)
end Go.Proofs.Ytmgccphapkmmeaa
