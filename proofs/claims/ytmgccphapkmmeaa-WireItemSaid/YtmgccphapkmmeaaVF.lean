/- A symbolic executor for loaded Go code: a row that is written no more; loads, stores, literals, appends. -/
import Derived.Test.YtmgccphapkmmeaaVE
namespace Go.Proofs.Ytmgccphapkmmeaa
open Go.RowKit

section
variable {P : Program} {τ : Tys} {w0 : World} {E : Env} {as : List (Array Value)} {a : Act} {w : World}
variable {k lo : Nat} {r : Rw} {s : St} {bs : List (Array Value)}
variable {fr : List (Nat × SV)} {stk : List (List (Nat × SV))} {bx : List (Nat × (TypeId × List SV))} {rw' : List (Nat × Ent)} {dep : Nat}

/-! ### 1. Rows -/
theorem cell_len (t : Tag) (r : Rw) (i : Nat) : (r.cell t i).length = r.sz := by cases r <;> rfl
theorem sz_pos (r : Rw) : 0 < r.sz := by cases r <;> simp [Rw.sz, Rw.kd, kdSz]
theorem flat_cells (t t' : Tag) (r : Rw) (h : r.flat = true) (i : Nat) : r.cell t i = r.cell t' i := by cases r <;> first | rfl | simp [Rw.flat] at h
/-- The tag of the rows within doesn't count for what a cell says of one set of blocks. -/
theorem cell_tag (t t' : Tag) (r : Rw) (i j : Nat) (x : SV) (h : (r.cell t i)[j]? = some x) : ∃ y, (r.cell t' i)[j]? = some y ∧ ∀ (w : World) (F : Nat → Prop) (u : Value), cd1 w F x u ↔ cd1 w F y u := by
  cases r with
  | msgs xs =>
    simp only [Rw.cell, GMsg.cells] at h ⊢
    match j, h with
    | 0, h | 1, h | 2, h | 4, h | 5, h | 6, h | 7, h | 8, h | 9, h | 10, h => simp at h; subst h; exact ⟨_, rfl, fun _ _ _ => Iff.rfl⟩
    | 3, h => simp at h; subst h; exact ⟨_, rfl, fun _ _ _ => Iff.rfl⟩
    | j + 11, h => simp at h
  | nodes xs =>
    simp only [Rw.cell, GNode.cells] at h ⊢
    match j, h with
    | 0, h | 1, h | 2, h | 3, h | 4, h | 5, h => simp at h; subst h; exact ⟨_, rfl, fun _ _ _ => Iff.rfl⟩
    | j + 6, h => simp at h
  | acts xs =>
    simp only [Rw.cell, GAct.cells] at h ⊢
    match j, h with
    | 0, h | 1, h | 2, h | 3, h | 4, h | 5, h | 6, h => simp at h; subst h; exact ⟨_, rfl, fun _ _ _ => Iff.rfl⟩
    | j + 7, h => simp at h
  | _ => exact ⟨x, h, fun _ _ _ => Iff.rfl⟩
theorem flat_sc {t : Tag} {r : Rw} (h : r.flat = true) {i j : Nat} {x : SV} (hx : (r.cell t i)[j]? = some x) (w w' : World) (F F' : Nat → Prop) (u : Value) : cd1 w F x u ↔ cd1 w' F' x u := by
  have : ∀ x ∈ r.cell t i, ∀ t r, x ≠ .row t r := by
    cases r <;> first
      | (simp [Rw.flat] at h; done)
      | simp [Rw.cell, GItem.cells, GPeer.cells, GTold.cells, GCut.cells]
  have hne := this x (List.mem_of_getElem? hx)
  cases x with
  | row t r => exact absurd rfl (hne t r)
  | _ => exact Iff.rfl
theorem F_any {E : Env} {t : Tag} {g : Nat} (h : E.F t g) : E.F .any g := ⟨h.1, trivial⟩
theorem cd1.any {w : World} {E : Env} {t : Tag} {x : SV} {u : Value} (h : cd1 w (E.F t) x u) : cd1 w (E.F .any) x u := by
  cases x <;> first
    | exact h
    | exact RowD.mono h (fun g hg _ => ⟨rfl, F_any hg⟩) fun _ _ h => h
theorem RowDen.any {w : World} {E : Env} {t : Tag} {r : Rw} {v : Value} (h : RowDen w (E.F t) r v) : RowDen w (E.F .any) r v := h.mono fun g hg _ => ⟨rfl, F_any hg⟩
/-- What an own row's header reads as: in the blocks of its own, and of what it leads to. -/
theorem OwnD.read {F' : Nat → Prop} (h : OwnD τ E w k lo r) (hb : ∀ g, (E.hs k).ownBlock = some g → F' g) (hc : ∀ t g, E.F t g → (t = .new ∨ ¬ r.len ≤ lo) → F' g) : RowDen w F' r (E.hs k) := by
  obtain ⟨us, hrow, hcell⟩ := h.row
  obtain ⟨hl, hrow⟩ := hrow
  have hcd : ∀ i j x, i < r.len → (r.cell .any i)[j]? = some x → ∃ u, us[i * r.sz + j]? = some u ∧ cd1 w F' x u := by
    intro i j x hi hx
    obtain ⟨u, hu, hd⟩ := hcell i j x hi hx
    refine ⟨u, hu, cd1.mono hd fun g hg _ => ⟨rfl, hc _ g hg ?_⟩⟩
    split
    · exact .inl rfl
    · exact .inr (by omega)
  refine ⟨h.fits, ?_⟩
  rcases hrow with ⟨hv, h0⟩ | ⟨g, cap, cur, hv, hg, hheap, hnc, hcap, hcs, htake⟩
  · exact ⟨none, 0, by rw [hv, h0], by omega, fun hp => by omega⟩
  · refine ⟨some ⟨g, 0, none⟩, cap, hv, hnc, fun hp => ⟨⟨g, 0, none⟩, rfl, rfl, hb g (by rw [hv]; rfl), fun i j x hi hx => ?_⟩⟩
    obtain ⟨u, hu, hd⟩ := hcd i j x hi hx
    refine ⟨u, ?_, hd⟩
    rw [Addr.add_lit, cell_of_row w g _ cur _ (0, 0) hheap]
    rw [← htake, List.getElem?_take] at hu
    split at hu
    · simpa using hu
    · simp at hu
/-! ### 2. A row that is written no more -/
theorem Ent.row_mine {e : Ent} {lo : Nat} {r : Rw} (h : e.mine = some (lo, r)) : e.row.2 = r := by cases e <;> simp [Ent.mine] at h <;> simp [Ent.row, h]
theorem Den.demote (h : Den τ w0 E ⟨fr, stk, bx, rw', dep⟩ as w) (k : Nat) : ∃ E', E'.base = E.base ∧ E'.M = E.M ∧ E'.bs = E.bs ∧ E'.hs = E.hs ∧ Keeps E E' w w ∧ Shift E E' ⟨fr, stk, bx, rw', dep⟩ ⟨fr, stk, bx, demote1 rw' k, dep⟩ w ∧
    (∀ j, entLike w E' (E.hs j) (lk rw' j) (lk (demote1 rw' k) j)) ∧ Den τ w0 E' ⟨fr, stk, bx, demote1 rw' k, dep⟩ as w := by
  unfold demote1
  cases hk : lk rw' k with
  | none =>
    exact ⟨E, rfl, rfl, rfl, rfl, Keeps.refl E w, Shift.refl E _ _ w rfl, fun j => entLike.refl _ _ _ _, h⟩
  | some e =>
    simp only
    cases hm : e.mine with
    | none =>
      cases e with
      | own r => simp [Ent.mine] at hm
      | part lo r => simp [Ent.mine] at hm
      | shared t r =>
        have hl : ∀ j, lk (upd rw' k (Ent.shared t r)) j = lk rw' j := by
          intro j
          rw [lk_upd]
          split
          · rename_i e; rw [e, hk]
          · rfl
        refine ⟨E, rfl, rfl, rfl, rfl, Keeps.refl E w, ⟨fun j _ => ⟨rfl, ?_⟩, fun _ _ => rfl⟩, fun j => ?_, ?_⟩
        · simp only [Ent.row]; rw [hl]; exact entLike.refl _ _ _ _
        · simp only [Ent.row]; rw [hl]; exact entLike.refl _ _ _ _
        · have hs : Shift E E ⟨fr, stk, bx, rw', dep⟩ ⟨fr, stk, bx, upd rw' k (Ent.shared t r), dep⟩ w := ⟨fun j _ => ⟨rfl, by simp only; rw [hl]; exact entLike.refl _ _ _ _⟩, fun _ _ => rfl⟩
          simp only [Ent.row]
          refine h.move (Keeps.refl E w) rfl (Below.refl _ _) hs rfl rfl h.owb ?_ ?_ h.bb ?_ ?_
          · intro j T cs hj
            obtain ⟨h1, us, h2, h3⟩ := h.box j T cs hj
            exact ⟨h1, us, h2, hs.cells (Keeps.refl E w) hj h3⟩
          · intro j e lo r' hj hm'
            simp only [hl] at hj
            exact h.own j e lo r' hj hm'
          · intro j j' b e m hj hj' hm'
            simp only [hl] at hj'
            exact h.br j j' b e m hj hj' hm'
          · intro j j' e e' m m' g hj hj'
            simp only [hl] at hj hj'
            exact h.rr j j' e e' m m' g hj hj'
    | some m =>
      obtain ⟨lo, r⟩ := m
      have hO := h.own k e lo r hk hm
      let E' : Env := { E with ow := fun g => E.ow g ∧ (E.hs k).ownBlock ≠ some g }
      have hkp : Keeps E E' w w := ⟨rfl, Nat.le_refl _, fun _ _ _ => rfl, fun g hg => .inl hg.1⟩
      have hF : ∀ t g, E.F t g → E'.F t g := fun t g hg => ⟨fun ho => hg.1 ho.1, hg.2⟩
      have hrd : RowDen w (E'.F e.row.1) e.row.2 (E.hs k) := by
        rw [Ent.row_mine hm]
        obtain ⟨us, hrow, _⟩ := hO.row
        have hbM : ∀ g, (E.hs k).ownBlock = some g → E'.M ≤ g := fun g hg => (hrow.lt g hg).1
        have hb : ∀ g, (E.hs k).ownBlock = some g → E'.F .new g := fun g hg => ⟨fun ho => ho.2 hg, hbM g hg⟩
        cases e with
        | own r' =>
          simp [Ent.mine] at hm
          obtain ⟨rfl, rfl⟩ := hm
          exact hO.read hb fun t g hg ht => by
            rcases ht with rfl | ht
            · exact hF _ g hg
            · omega
        | part lo' r' =>
          simp [Ent.mine] at hm
          obtain ⟨rfl, rfl⟩ := hm
          simp only [Ent.row]
          cases hfl : r'.flat with
          | true =>
            simp only
            -- a flat row leads nowhere
            have hO' : OwnD τ E w k r'.len r' := by
              obtain ⟨us, hrow, hcell⟩ := hO.row
              refine ⟨hO.ow, hO.fits, us, hrow, fun i j x hi hx => ?_⟩
              obtain ⟨u, hu, hd⟩ := hcell i j x hi hx
              exact ⟨u, hu, (flat_sc hfl hx _ _ _ _ u).1 hd⟩
            exact hO'.read hb fun t g hg ht => by
              rcases ht with rfl | ht
              · exact hF _ g hg
              · omega
          | false =>
            simp only
            exact hO.read (fun g hg => F_any (hb g hg)) fun t g hg _ => F_any (hF t g hg)
        | shared t r' => simp [Ent.mine] at hm
      have hl : ∀ j, entLike w E' (E.hs j) (lk rw' j) (lk (upd rw' k (.shared e.row.1 e.row.2)) j) := by
        intro j
        rw [lk_upd]
        split
        · rename_i e1
          subst e1
          rw [hk]
          exact .inr (.inr ⟨lo, r, e.row.1, hm, by rw [Ent.row_mine hm], by rw [Ent.row_mine hm] at hrd; exact hrd⟩)
        · exact entLike.refl _ _ _ _
      have hs : Shift E E' ⟨fr, stk, bx, rw', dep⟩ ⟨fr, stk, bx, upd rw' k (.shared e.row.1 e.row.2), dep⟩ w := ⟨fun j _ => ⟨rfl, hl j⟩, fun _ _ => rfl⟩
      refine ⟨E', rfl, rfl, rfl, rfl, hkp, hs, hl, ?_⟩
      refine h.move hkp rfl (Below.refl _ _) hs rfl rfl (fun g hg => h.owb g hg.1) ?_ ?_ h.bb ?_ ?_
      · intro j T cs hj
        obtain ⟨h1, us, h2, h3⟩ := h.box j T cs hj
        exact ⟨⟨h1, fun hg => h.br j k _ e _ hj hk hm hg⟩, us, h2, hs.cells hkp hj h3⟩
      · intro j e' lo' r' hj hm'
        simp only [lk_upd] at hj
        split at hj
        · injection hj with hj; subst hj; simp [Ent.mine] at hm'
        · rename_i e1
          exact (h.own j e' lo' r' hj hm').keeps hkp rfl rfl (fun g hg => ⟨(h.own j e' lo' r' hj hm').ow g hg, fun hg' => h.rr j k e' e _ _ g hj hk hm' hm e1 hg hg'⟩) fun _ _ => rfl
      · intro j j' b e' m hj hj' hm'
        simp only [lk_upd] at hj'
        split at hj'
        · injection hj' with hj'; subst hj'; simp [Ent.mine] at hm'
        · exact h.br j j' b e' m hj hj' hm'
      · intro j j' e1 e2 m1 m2 g hj hj' h1 h2
        simp only [lk_upd] at hj hj'
        split at hj
        · injection hj with hj; subst hj; simp [Ent.mine] at h1
        · split at hj'
          · injection hj' with hj'; subst hj'; simp [Ent.mine] at h2
          · exact h.rr j j' e1 e2 m1 m2 g hj hj' h1 h2
end
end Go.Proofs.Ytmgccphapkmmeaa
