/- A symbolic executor for loaded Go code: rows of one's own. -/
import Derived.Test.YtmgccphapkmmeaaVD
namespace Go.Proofs.Ytmgccphapkmmeaa
open Go.RowKit

section
variable {P : Program} {τ : Tys} {w0 : World} {E : Env} {as : List (Array Value)} {a : Act} {w : World}
variable {k lo : Nat} {r : Rw} {s : St} {bs : List (Array Value)}
variable {fr : List (Nat × SV)} {stk : List (List (Nat × SV))} {bx : List (Nat × (TypeId × List SV))} {rw' : List (Nat × Ent)} {dep : Nat}
/-- One's own blocks, and one more, if a header leads to one. -/
def Env.add (E : Env) (k : Nat) (v : Value) : Env := { E with hs := fun j => if j = k then v else E.hs j, ow := fun g => E.ow g ∨ v.ownBlock = some g }
theorem grown_keeps {E' : Env} {w' : World} {row : Option Nat} (hg : w.grownBy w' row) (hr : ∀ g, row = some g → E.ow g) (hM : E'.M = E.M) (how : ∀ g, E'.ow g → E.ow g ∨ w.heap.size ≤ g) : Keeps E E' w w' :=
  ⟨hM, hg.size, fun g hn hl => hg.block g hl (fun e => hn (hr g e.symm)), how⟩
theorem grown_below {w' : World} {row : Option Nat} (h : Den τ w0 E s bs w) (hg : w.grownBy w' row) (hr : ∀ g, row = some g → E.ow g) : Below E.base w w' :=
  (Below.refl _ _).grown hg (Nat.le_trans h.bM h.Mh) (fun g e => (h.owb g (hr g e)).1)
theorem Den.box_lt (h : Den τ w0 E s bs w) {k : Nat} {b : TypeId × List SV} (hk : lk s.boxes k = some b) : E.bs k < w.heap.size := (h.owb _ (h.box k b.1 b.2 hk).ow).2
/-- A header at a key: a new row, or an old one grown or written. What named the key is either forgotten or says what it said. -/
theorem Den.setRow (h : Den τ w0 E ⟨fr, stk, bx, rw', dep⟩ as w) (k : Nat) (fr' : List (Nat × SV)) (stk' : List (List (Nat × SV))) (bx' : List (Nat × (TypeId × List SV))) (w' : World) (row : Option Nat) (hg : w.grownBy w' row)
    (hrow : ∀ g, row = some g → ∃ e m, lk rw' k = some e ∧ e.mine = some m ∧ (E.hs k).ownBlock = some g)
    (v : Value) (e : Ent) (lo : Nat) (r : Rw) (hm : e.mine = some (lo, r)) (us : List Value)
    (hblk : ∀ g, v.ownBlock = some g → (w.heap.size ≤ g ∨ some g = row) ∧ g < w'.heap.size)
    (hfits : r.len * r.bts ≤ 140737488355328) (hown : w'.ownsRow E.M (τ.et r.kd) r.sz v r.len us)
    (hc : ∀ i j x, i < r.len → (r.cell .any i)[j]? = some x → ∃ u, us[i * r.sz + j]? = some u ∧ cd1 w' ((E.add k v).F (if i < lo then .new else .any)) x u)
    (hfr : ∀ (i : Nat) f, (fr' :: stk')[i]? = some f → ∃ b, as[i]? = some b ∧ FrD (E.add k v) (upd rw' k e) w' f b)
    (hbx : ∀ j T cs, lk bx' j = some (T, cs) → ∃ cs', lk bx j = some (T, cs') ∧ ∀ us, L0 (vd1 E rw' w) cs' us → L0 (vd1 (E.add k v) (upd rw' k e) w') cs us) :
    Den τ w0 (E.add k v) ⟨fr', stk', bx', upd rw' k e, dep⟩ as w' := by
  have hrow' : ∀ g, row = some g → E.ow g := fun g hg => by
    obtain ⟨e', m, h1, h2, h3⟩ := hrow g hg
    exact (h.own k e' m.1 m.2 h1 h2).ow g h3
  have how : ∀ g, (E.add k v).ow g → E.ow g ∨ w.heap.size ≤ g := by
    rintro g (hg | hg)
    · exact .inl hg
    · rcases (hblk g hg).1 with h1 | h1
      · exact .inr h1
      · exact .inl (hrow' g h1.symm)
  have hk : Keeps E (E.add k v) w w' := grown_keeps hg hrow' rfl how
  -- a row under another key, a box: they don't lie where this one lies
  have hsep : ∀ j e' m g, j ≠ k → lk rw' j = some e' → e'.mine = some m → (E.hs j).ownBlock = some g → v.ownBlock ≠ some g ∧ some g ≠ row := by
    intro j e' m g hj h1 h2 h3
    have hlt := (h.own j e' m.1 m.2 h1 h2).lt h.owb h3
    refine ⟨fun e1 => ?_, fun e1 => ?_⟩
    · rcases (hblk g e1).1 with h4 | h4
      · omega
      · obtain ⟨e2, m2, h5, h6, h7⟩ := hrow g h4.symm
        exact h.rr j k e' e2 m m2 g h1 h5 h2 h6 hj h3 h7
    · obtain ⟨e2, m2, h5, h6, h7⟩ := hrow g e1.symm
      exact h.rr j k e' e2 m m2 g h1 h5 h2 h6 hj h3 h7
  have hsepb : ∀ j b, lk bx j = some b → v.ownBlock ≠ some (E.bs j) ∧ some (E.bs j) ≠ row := by
    intro j b hj
    have hlt := h.box_lt hj
    refine ⟨fun e1 => ?_, fun e1 => ?_⟩
    · rcases (hblk _ e1).1 with h4 | h4
      · exact absurd hlt (Nat.not_lt.2 h4)
      · obtain ⟨e2, m2, h5, h6, h7⟩ := hrow _ h4.symm
        exact h.br j k b e2 m2 hj h5 h6 h7
    · obtain ⟨e2, m2, h5, h6, h7⟩ := hrow _ e1.symm
      exact h.br j k b e2 m2 hj h5 h6 h7
  refine ⟨h.below.trans (grown_below h hg hrow'), h.bM, Nat.le_trans h.Mh hg.size, ?_, hfr, ?_, ?_, ?_, ?_, ?_⟩
  · rintro g (hg' | hg')
    · exact ⟨(h.owb g hg').1, Nat.lt_of_lt_of_le (h.owb g hg').2 hg.size⟩
    · rcases hblk g hg' with ⟨h1 | h1, h2⟩
      · exact ⟨Nat.le_trans (Nat.le_trans h.bM h.Mh) h1, h2⟩
      · exact ⟨(h.owb g (hrow' g h1.symm)).1, h2⟩
  · intro j T cs hj
    obtain ⟨cs', hj', hcs⟩ := hbx j T cs hj
    obtain ⟨h1, us', h2, h3⟩ := h.box j T cs' hj'
    refine ⟨.inl h1, us', ?_, hcs us' h3⟩
    have := hg.block _ (h.box_lt hj') (hsepb j _ hj').2
    exact this.trans h2
  · intro j e' lo' r' hj hm'
    simp only [lk_upd] at hj
    split at hj
    · rename_i e1
      subst e1
      injection hj with hj
      subst hj
      rw [hm] at hm'
      injection hm' with hm'
      obtain ⟨rfl, rfl⟩ : lo = lo' ∧ r = r' := by simpa using hm'
      refine ⟨fun g hg' => .inr (by simpa [Env.add] using hg'), hfits, us, by simpa [Env.add] using hown, hc⟩
    · rename_i e1
      refine (h.own j e' lo' r' hj hm').keeps hk (by simp [Env.add, e1]) rfl (fun g hg' => .inl ((h.own j e' lo' r' hj hm').ow g hg')) fun g hg' => ?_
      exact hg.block g ((h.own j e' lo' r' hj hm').lt h.owb hg') (hsep j e' _ g e1 hj hm' hg').2
  · intro j j' b b' hj hj' hne
    obtain ⟨c, hc, _⟩ := hbx j b.1 b.2 hj
    obtain ⟨c', hc', _⟩ := hbx j' b'.1 b'.2 hj'
    exact h.bb j j' _ _ hc hc' hne
  · intro j j' b e' m hj hj' hm'
    obtain ⟨c, hcj, _⟩ := hbx j b.1 b.2 hj
    simp only [lk_upd] at hj'
    split at hj'
    · rename_i e1
      subst e1
      simp only [Env.add, if_true]
      exact (hsepb j _ hcj).1
    · rename_i e1
      simp only [Env.add, e1, if_false]
      exact h.br j j' _ e' m hcj hj' hm'
  · intro j j' e1 e2 m1 m2 g hj hj' h1 h2 hne hb
    simp only [lk_upd] at hj hj'
    split at hj <;> split at hj'
    · omega
    · rename_i e3 e4
      subst e3
      simp only [Env.add, if_true] at hb
      simp only [Env.add, e4, if_false]
      intro hb'
      exact (hsep j' e2 m2 g e4 hj' h2 hb').1 hb
    · rename_i e3 e4
      subst e4
      simp only [Env.add, e3, if_false] at hb
      simp only [Env.add, if_true]
      intro hb'
      exact (hsep j e1 m1 g e3 hj h1 hb).1 hb'
    · rename_i e3 e4
      simp only [Env.add, e3, if_false] at hb
      simp only [Env.add, e4, if_false]
      exact h.rr j j' e1 e2 m1 m2 g hj hj' h1 h2 hne hb
/-- Where nothing named the key. -/
theorem shift_new {w' : World} (k : Nat) (v : Value) (e : Ent) (hno : St.has (own0 k) ⟨fr, stk, bx, rw', dep⟩ = false) : Shift E (E.add k v) ⟨fr, stk, bx, rw', dep⟩ ⟨fr, stk, bx, upd rw' k e, dep⟩ w' := by
  refine ⟨fun j hj => ?_, fun _ _ => rfl⟩
  have : j ≠ k := fun e => by subst e; rw [hno] at hj; exact absurd hj (by simp)
  refine ⟨by simp [Env.add, this], ?_⟩
  simp only [lk_upd, this, if_false]
  exact entLike.refl _ _ _ _
/-- A new row. -/
theorem Den.newRow (h : Den τ w0 E ⟨fr, stk, bx, rw', dep⟩ as w) (k : Nat) (hno : St.has (own0 k) ⟨fr, stk, bx, rw', dep⟩ = false) (w' : World) (hg : w.grownBy w' none)
    (v : Value) (e : Ent) (lo : Nat) (r : Rw) (hm : e.mine = some (lo, r)) (us : List Value) (hblk : ∀ g, v.ownBlock = some g → w.heap.size ≤ g ∧ g < w'.heap.size)
    (hfits : r.len * r.bts ≤ 140737488355328) (hown : w'.ownsRow E.M (τ.et r.kd) r.sz v r.len us)
    (hc : ∀ i j x, i < r.len → (r.cell .any i)[j]? = some x → ∃ u, us[i * r.sz + j]? = some u ∧ cd1 w' ((E.add k v).F (if i < lo then .new else .any)) x u) :
    Den τ w0 (E.add k v) ⟨fr, stk, bx, upd rw' k e, dep⟩ as w' := by
  have hk : Keeps E (E.add k v) w w' := grown_keeps hg (fun g hg => by simp at hg) rfl (by
    rintro g (hg | hg)
    · exact .inl hg
    · exact .inr (hblk g hg).1)
  have hs := shift_new (E := E) (w' := w') k v e hno
  refine h.setRow k fr stk bx w' none hg (fun g hg => by simp at hg) v e lo r hm us (fun g hg => ⟨.inl (hblk g hg).1, (hblk g hg).2⟩) hfits hown hc ?_ ?_
  · intro i f hf
    obtain ⟨b, hb, hd⟩ := h.fr i f hf
    exact ⟨b, hb, hs.frD hk hf hd⟩
  · intro j T cs hj
    exact ⟨cs, hj, fun us hd => hs.cells hk hj hd⟩
theorem L0.kill {E : Env} {R : List (Nat × Ent)} {w : World} {cs : List SV} {us : List Value} (k : Nat) (h : L0 (vd1 E R w) cs us) : L0 (vd1 E R w) (killC k cs) us := by
  induction cs generalizing us with
  | nil => exact h
  | cons x cs ih =>
    obtain ⟨u, us', rfl, h1, h2⟩ := h.inv_cons
    refine L0.cons ?_ (ih h2)
    unfold killV
    split
    · trivial
    · exact h1
theorem killC_own (k : Nat) (cs : List SV) : anyL (deep1 (own0 k)) (killC k cs) = false := by
  induction cs with
  | nil => rfl
  | cons x cs ih =>
    have : deep1 (own0 k) (killV k x) = false := by
      have := killV_own k x
      cases hx : killV k x with
      | tup vs => simp [deep1, own0]
      | agg cs => simp [deep1, own0]
      | _ => rw [hx] at this; exact this
    simp only [killC, anyL, this]
    exact ih
theorem killC_other {p : SV → Bool} (hp : ∀ v, deep3 p v = deep3 p v) (k : Nat) (hj : p .junk = false) (cs : List SV) (h : anyL (deep1 p) (killC k cs) = true) : anyL (deep1 p) cs = true := by
  induction cs with
  | nil => exact h
  | cons x cs ih =>
    simp only [killC, anyL] at h ⊢
    split
    · rfl
    · rename_i hx
      split at h
      · rename_i hx'
        unfold killV at hx'
        split at hx'
        · simp [deep1, hj] at hx'
        · rw [hx] at hx'; exact absurd hx' (by simp)
      · exact ih h
theorem lk_killB (k : Nat) : ∀ (l : List (Nat × (TypeId × List SV))) (j : Nat), lk (killB k l) j = (lk l j).map fun b => (b.1, killC k b.2)
  | [], j => rfl
  | (i, (T, cs)) :: l, j => by
    simp only [killB, lk]
    split
    · rfl
    · exact lk_killB k l j
theorem killS_get (k : Nat) : ∀ (l : List (List (Nat × SV))) (i : Nat), (killS k l)[i]? = (l[i]?).map (killF k)
  | [], i => by simp [killS]
  | f :: l, 0 => by simp [killS]
  | f :: l, i + 1 => by simpa [killS] using killS_get k l i
/-- A row that is grown: what named it is forgotten. -/
theorem Den.growRow (h : Den τ w0 E ⟨fr, stk, bx, rw', dep⟩ as w) (k : Nat) (w' : World) (hg : w.grownBy w' (E.hs k).ownBlock) {e0 : Ent} {m0 : Nat × Rw} (he0 : lk rw' k = some e0) (hm0 : e0.mine = some m0)
    (v : Value) (e : Ent) (lo : Nat) (r : Rw) (hm : e.mine = some (lo, r)) (us : List Value) (hblk : ∀ g, v.ownBlock = some g → (w.heap.size ≤ g ∨ some g = (E.hs k).ownBlock) ∧ g < w'.heap.size)
    (hfits : r.len * r.bts ≤ 140737488355328) (hown : w'.ownsRow E.M (τ.et r.kd) r.sz v r.len us)
    (hc : ∀ i j x, i < r.len → (r.cell .any i)[j]? = some x → ∃ u, us[i * r.sz + j]? = some u ∧ cd1 w' ((E.add k v).F (if i < lo then .new else .any)) x u) :
    Den τ w0 (E.add k v) ⟨killF k fr, killS k stk, killB k bx, upd rw' k e, dep⟩ as w' := by
  have hrow' : ∀ g, (E.hs k).ownBlock = some g → E.ow g := (h.own k e0 m0.1 m0.2 he0 hm0).ow
  have hk : Keeps E (E.add k v) w w' := grown_keeps hg hrow' rfl (by
    rintro g (hg | hg)
    · exact .inl hg
    · rcases (hblk g hg).1 with h1 | h1
      · exact .inr h1
      · exact .inl (hrow' g h1.symm))
  have hn : ∀ j, j ≠ k → (E.add k v).hs j = E.hs j ∧ entLike w' (E.add k v) (E.hs j) (lk rw' j) (lk (upd rw' k e) j) := by
    intro j hj
    refine ⟨by simp [Env.add, hj], ?_⟩
    simp only [lk_upd, hj, if_false]
    exact entLike.refl _ _ _ _
  refine h.setRow k _ _ _ w' _ hg (fun g hg => ⟨e0, m0, he0, hm0, hg⟩) v e lo r hm us hblk hfits hown hc ?_ ?_
  · intro i f hf
    have : ∃ f0, (fr :: stk)[i]? = some f0 ∧ f = killF k f0 := by
      cases i with
      | zero => simp at hf; exact ⟨fr, by simp, hf.symm⟩
      | succ i =>
        simp only [List.getElem?_cons_succ, killS_get, Option.map_eq_some_iff] at hf
        obtain ⟨f0, h1, h2⟩ := hf
        exact ⟨f0, by simpa using h1, h2.symm⟩
    obtain ⟨f0, hf0, rfl⟩ := this
    obtain ⟨b, hb, hd⟩ := h.fr i f0 hf0
    refine ⟨b, hb, (hd.kill k).keeps hk fun t => ⟨fun j hj => hn j ?_, fun _ _ => rfl⟩⟩
    rintro rfl
    rw [lkv_kill, killV_own] at hj
    exact absurd hj (by simp)
  · intro j T cs hj
    rw [lk_killB, Option.map_eq_some_iff] at hj
    obtain ⟨⟨T', cs'⟩, h1, h2⟩ := hj
    simp only [Prod.mk.injEq] at h2
    obtain ⟨rfl, rfl⟩ := h2
    refine ⟨cs', h1, fun us hd => (hd.kill k).mono fun x u hx hp => vd1.keeps hk (fun i hi => hn i ?_) (fun _ _ => rfl) hp⟩
    rintro rfl
    have := anyL_of_mem hx hi
    rw [killC_own] at this
    exact absurd this (by simp)
/-- A row that is written in place. -/
theorem Den.writeRow (h : Den τ w0 E ⟨fr, stk, bx, rw', dep⟩ as w) (k : Nat) (w' : World) (hg : w.grownBy w' (E.hs k).ownBlock) {e0 : Ent} {m0 : Nat × Rw} (he0 : lk rw' k = some e0) (hm0 : e0.mine = some m0)
    (e : Ent) (lo : Nat) (r : Rw) (hm : e.mine = some (lo, r)) (hkd : m0.2.kd = r.kd) (hlen : m0.2.len = r.len) (us : List Value) (hown : w'.ownsRow E.M (τ.et r.kd) r.sz (E.hs k) r.len us)
    (hc : ∀ i j x, i < r.len → (r.cell .any i)[j]? = some x → ∃ u, us[i * r.sz + j]? = some u ∧ cd1 w' (E.F (if i < lo then .new else .any)) x u) :
    Den τ w0 E ⟨fr, stk, bx, upd rw' k e, dep⟩ as w' := by
  have hrow' : ∀ g, (E.hs k).ownBlock = some g → E.ow g := (h.own k e0 m0.1 m0.2 he0 hm0).ow
  have heq : E.add k (E.hs k) = E := by
    have h1 : (fun j => if j = k then E.hs k else E.hs j) = E.hs := by
      funext j
      split
      · rename_i e; rw [e]
      · rfl
    have h2 : (fun g => E.ow g ∨ (E.hs k).ownBlock = some g) = E.ow := by
      funext g
      exact propext ⟨fun h => h.elim id (hrow' g), .inl⟩
    unfold Env.add
    rw [h1, h2]
  have hk : Keeps E E w w' := grown_keeps hg hrow' rfl fun g hg => .inl hg
  have hs : Shift E E ⟨fr, stk, bx, rw', dep⟩ ⟨fr, stk, bx, upd rw' k e, dep⟩ w' := by
    refine ⟨fun j _ => ⟨rfl, ?_⟩, fun _ _ => rfl⟩
    simp only [lk_upd]
    split
    · rename_i e1
      subst e1
      rw [he0]
      exact .inr (.inl ⟨m0.1, lo, m0.2, r, hm0, hm, hkd, hlen⟩)
    · exact entLike.refl _ _ _ _
  have hf0 := (h.own k e0 m0.1 m0.2 he0 hm0).fits
  have := h.setRow k fr stk bx w' _ hg (fun g hg => ⟨e0, m0, he0, hm0, hg⟩) (E.hs k) e lo r hm us (fun g hg' => ⟨.inr hg'.symm, Nat.lt_of_lt_of_le (h.owb g (hrow' g hg')).2 hg.size⟩)
    (by rw [← hlen]; unfold Rw.bts at hf0 ⊢; rw [← hkd]; exact hf0) hown (by rw [heq]; exact hc) ?_ ?_
  · rw [heq] at this; exact this
  · intro i f hf
    obtain ⟨b, hb, hd⟩ := h.fr i f hf
    rw [heq]
    exact ⟨b, hb, hs.frD hk hf hd⟩
  · intro j T cs hj
    rw [heq]
    exact ⟨cs, hj, fun us hd => hs.cells hk hj hd⟩
end
end Go.Proofs.Ytmgccphapkmmeaa
