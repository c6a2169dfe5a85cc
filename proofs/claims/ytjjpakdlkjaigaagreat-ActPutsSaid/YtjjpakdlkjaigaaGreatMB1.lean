/- A part of the proof of a law: VE, VF, VG, VH, VI, VJ, VK, VL, VM. -/
import Derived.Test.YtjjpakdlkjaigaaGreatMB0
set_option linter.all false
set_option linter.unusedVariables false
set_option linter.unusedSimpArgs false
set_option linter.unusedSectionVars false
/- A symbolic executor for loaded Go code: rows of one's own. -/
namespace Go.Proofs.YtjjpakdlkjaigaaGreat
open Go.RowKit
section
variable {P : Program} {τ : Tys} {w0 : World} {E : Env} {aS : List (Array Value)} {a : Act} {w : World}
variable {k lo : Nat} {r : Rw} {s : St} {bs : List (Array Value)}
variable {fr : List (Nat × SV)} {stk : List (List (Nat × SV))} {bx : List (Nat × (TypeId × List SV))} {rw' : List (Nat × Ent)} {dep : Nat}
def Env.add (E : Env) (k : Nat) (v : Value) : Env := { E with hs := fun j => if j = k then v else E.hs j, ow := fun g => E.ow g ∨ v.ownBlock = some g }
theorem grown_keeps {E' : Env} {w' : World} {row : Option Nat} (hg : w.grownBy w' row) (hr : ∀ g, row = some g → E.ow g) (hM : E'.M = E.M) (how : ∀ g, E'.ow g → E.ow g ∨ w.heap.size ≤ g) : Keeps E E' w w' :=
 ⟨hM, hg.size, fun g hn hl => hg.block g hl (fun e => hn (hr g e.symm)), how⟩
theorem grown_below {w' : World} {row : Option Nat} (h : Den τ w0 E s bs w) (hg : w.grownBy w' row) (hr : ∀ g, row = some g → E.ow g) : Below E.base w w' :=
 (Below.refl _ _).grown hg (Nat.le_trans h.bM h.Mh) (fun g e => (h.owb g (hr g e)).1)
theorem Den.box_lt (h : Den τ w0 E s bs w) {k : Nat} {b : TypeId × List SV} (hk : lk s.boxes k = some b) : E.bs k < w.heap.size := (h.owb _ (h.box k b.1 b.2 hk).ow).2
theorem Den.setRow (h : Den τ w0 E ⟨fr, stk, bx, rw', dep⟩ aS w) (k : Nat) (fr' : List (Nat × SV)) (stk' : List (List (Nat × SV))) (bx' : List (Nat × (TypeId × List SV))) (w' : World) (row : Option Nat) (hg : w.grownBy w' row)
  (hrow : ∀ g, row = some g → ∃ e m, lk rw' k = some e ∧ e.mine = some m ∧ (E.hs k).ownBlock = some g)
  (v : Value) (e : Ent) (lo : Nat) (r : Rw) (hm : e.mine = some (lo, r)) (us : List Value)
  (hblk : ∀ g, v.ownBlock = some g → (w.heap.size ≤ g ∨ some g = row) ∧ g < w'.heap.size)
  (hfits : r.len * r.bts ≤ 140737488355328) (hown : w'.ownsRow E.M (τ.et r.kd) r.sz v r.len us)
  (hc : ∀ i j x, i < r.len → (r.cell .any i)[j]? = some x → ∃ u, us[i * r.sz + j]? = some u ∧ cd1 w' ((E.add k v).F w' (if i < lo then .new else .any)) x u)
  (hfr : ∀ (i : Nat) f, (fr' :: stk')[i]? = some f → ∃ b, aS[i]? = some b ∧ FrD (E.add k v) (upd rw' k e) w' f b)
  (hbx : ∀ j T cs, lk bx' j = some (T, cs) → ∃ cs', lk bx j = some (T, cs') ∧ ∀ us, L0 (vd1 E rw' w) cs' us → L0 (vd1 (E.add k v) (upd rw' k e) w') cs us) :
  Den τ w0 (E.add k v) ⟨fr', stk', bx', upd rw' k e, dep⟩ aS w' := by
 have hrow' : ∀ g, row = some g → E.ow g := fun g hg => by
  obtain ⟨e', m, h1, h2, h3⟩ := hrow g hg
  exact (h.own k e' m.1 m.2 h1 h2).ow g h3
 have how : ∀ g, (E.add k v).ow g → E.ow g ∨ w.heap.size ≤ g := by
  rintro g (hg | hg)
  · exact .inl hg
  · rcases (hblk g hg).1 with h1 | h1
    · exact .inr h1
    · exact .inl (hrow' g h1.symm)
 have hk : Keeps E (E.add k v) w w' := grown_keeps hg hrow' rfl how
 -- a row under another key, a box: they don't lie where this one lies
 have hsep : ∀ j e' m g, j ≠ k → lk rw' j = some e' → e'.mine = some m → (E.hs j).ownBlock = some g → v.ownBlock ≠ some g ∧ some g ≠ row := by
  intro j e' m g hj h1 h2 h3
  have hlt := (h.own j e' m.1 m.2 h1 h2).lt h.owb h3
  refine ⟨fun e1 => ?_, fun e1 => ?_⟩
  · rcases (hblk g e1).1 with h4 | h4
    · omega
    · obtain ⟨e2, m2, h5, h6, h7⟩ := hrow g h4.symm
      exact h.rr j k e' e2 m m2 g h1 h5 h2 h6 hj h3 h7
  · obtain ⟨e2, m2, h5, h6, h7⟩ := hrow g e1.symm
    exact h.rr j k e' e2 m m2 g h1 h5 h2 h6 hj h3 h7
 have hsepb : ∀ j b, lk bx j = some b → v.ownBlock ≠ some (E.bs j) ∧ some (E.bs j) ≠ row := by
  intro j b hj
  have hlt := h.box_lt hj
  refine ⟨fun e1 => ?_, fun e1 => ?_⟩
  · rcases (hblk _ e1).1 with h4 | h4
    · exact absurd hlt (Nat.not_lt.2 h4)
    · obtain ⟨e2, m2, h5, h6, h7⟩ := hrow _ h4.symm
      exact h.br j k b e2 m2 hj h5 h6 h7
  · obtain ⟨e2, m2, h5, h6, h7⟩ := hrow _ e1.symm
    exact h.br j k b e2 m2 hj h5 h6 h7
 refine ⟨h.below.trans (grown_below h hg hrow'), h.bM, Nat.le_trans h.Mh hg.size, ?_, hfr, ?_, ?_, ?_, ?_, ?_⟩
 · rintro g (hg' | hg')
   · exact ⟨(h.owb g hg').1, Nat.lt_of_lt_of_le (h.owb g hg').2 hg.size⟩
   · rcases hblk g hg' with ⟨h1 | h1, h2⟩
     · exact ⟨Nat.le_trans (Nat.le_trans h.bM h.Mh) h1, h2⟩
     · exact ⟨(h.owb g (hrow' g h1.symm)).1, h2⟩
 · intro j T cs hj
   obtain ⟨cs', hj', hcs⟩ := hbx j T cs hj
   obtain ⟨h1, us', h2, h3⟩ := h.box j T cs' hj'
   refine ⟨.inl h1, us', ?_, hcs us' h3⟩
   have := hg.block _ (h.box_lt hj') (hsepb j _ hj').2
   exact this.trans h2
 · intro j e' lo' r' hj hm'
   simp only [lk_upd] at hj
   split at hj
   · rename_i e1
     subst e1
     injection hj with hj
     subst hj
     rw [hm] at hm'
     injection hm' with hm'
     obtain ⟨rfl, rfl⟩ : lo = lo' ∧ r = r' := by simpa using hm'
     refine ⟨fun g hg' => .inr (by simpa [Env.add] using hg'), hfits, us, by simpa [Env.add] using hown, hc⟩
   · rename_i e1
     refine (h.own j e' lo' r' hj hm').keeps hk (by simp [Env.add, e1]) rfl (fun g hg' => .inl ((h.own j e' lo' r' hj hm').ow g hg')) fun g hg' => ?_
     exact hg.block g ((h.own j e' lo' r' hj hm').lt h.owb hg') (hsep j e' _ g e1 hj hm' hg').2
 · intro j j' b b' hj hj' hne
   obtain ⟨c, hc, _⟩ := hbx j b.1 b.2 hj
   obtain ⟨c', hc', _⟩ := hbx j' b'.1 b'.2 hj'
   exact h.bb j j' _ _ hc hc' hne
 · intro j j' b e' m hj hj' hm'
   obtain ⟨c, hcj, _⟩ := hbx j b.1 b.2 hj
   simp only [lk_upd] at hj'
   split at hj'
   · rename_i e1
     subst e1
     simp only [Env.add, if_true]
     exact (hsepb j _ hcj).1
   · rename_i e1
     simp only [Env.add, e1, if_false]
     exact h.br j j' _ e' m hcj hj' hm'
 · intro j j' e1 e2 m1 m2 g hj hj' h1 h2 hne hb
   simp only [lk_upd] at hj hj'
   split at hj <;> split at hj'
   · omega
   · rename_i e3 e4
     subst e3
     simp only [Env.add, if_true] at hb
     simp only [Env.add, e4, if_false]
     intro hb'
     exact (hsep j' e2 m2 g e4 hj' h2 hb').1 hb
   · rename_i e3 e4
     subst e4
     simp only [Env.add, e3, if_false] at hb
     simp only [Env.add, if_true]
     intro hb'
     exact (hsep j e1 m1 g e3 hj h1 hb).1 hb'
   · rename_i e3 e4
     simp only [Env.add, e3, if_false] at hb
     simp only [Env.add, e4, if_false]
     exact h.rr j j' e1 e2 m1 m2 g hj hj' h1 h2 hne hb
theorem shift_new {w' : World} (k : Nat) (v : Value) (e : Ent) (hno : St.has (own0 k) ⟨fr, stk, bx, rw', dep⟩ = false) : Shift E (E.add k v) ⟨fr, stk, bx, rw', dep⟩ ⟨fr, stk, bx, upd rw' k e, dep⟩ w' := by
 refine ⟨fun j hj => ?_, fun _ _ => rfl⟩
 have : j ≠ k := fun e => by subst e; rw [hno] at hj; exact absurd hj (by simp)
 refine ⟨by simp [Env.add, this], ?_⟩
 simp only [lk_upd, this, if_false]
 exact entLike.refl _ _ _ _
theorem Den.newRow (h : Den τ w0 E ⟨fr, stk, bx, rw', dep⟩ aS w) (k : Nat) (hno : St.has (own0 k) ⟨fr, stk, bx, rw', dep⟩ = false) (w' : World) (hg : w.grownBy w' none)
  (v : Value) (e : Ent) (lo : Nat) (r : Rw) (hm : e.mine = some (lo, r)) (us : List Value) (hblk : ∀ g, v.ownBlock = some g → w.heap.size ≤ g ∧ g < w'.heap.size)
  (hfits : r.len * r.bts ≤ 140737488355328) (hown : w'.ownsRow E.M (τ.et r.kd) r.sz v r.len us)
  (hc : ∀ i j x, i < r.len → (r.cell .any i)[j]? = some x → ∃ u, us[i * r.sz + j]? = some u ∧ cd1 w' ((E.add k v).F w' (if i < lo then .new else .any)) x u) :
  Den τ w0 (E.add k v) ⟨fr, stk, bx, upd rw' k e, dep⟩ aS w' := by
 have hk : Keeps E (E.add k v) w w' := grown_keeps hg (fun g hg => by simp at hg) rfl (by
  rintro g (hg | hg)
  · exact .inl hg
  · exact .inr (hblk g hg).1)
 have hs := shift_new (E := E) (w' := w') k v e hno
 refine h.setRow k fr stk bx w' none hg (fun g hg => by simp at hg) v e lo r hm us (fun g hg => ⟨.inl (hblk g hg).1, (hblk g hg).2⟩) hfits hown hc ?_ ?_
 · intro i f hf
   obtain ⟨b, hb, hd⟩ := h.fr i f hf
   exact ⟨b, hb, hs.frD hk hf hd⟩
 · intro j T cs hj
   exact ⟨cs, hj, fun us hd => hs.cells hk hj hd⟩
theorem L0.kill {E : Env} {R : List (Nat × Ent)} {w : World} {cs : List SV} {us : List Value} (k : Nat) (h : L0 (vd1 E R w) cs us) : L0 (vd1 E R w) (killC k cs) us := by
 induction cs generalizing us with
 | nil => exact h
 | cons x cs ih =>
   obtain ⟨u, us', rfl, h1, h2⟩ := h.inv_cons
   refine L0.cons ?_ (ih h2)
   unfold killV
   split
   · trivial
   · exact h1
theorem killC_own (k : Nat) (cs : List SV) : anyL (deep1 (own0 k)) (killC k cs) = false := by
 induction cs with
 | nil => rfl
 | cons x cs ih =>
   have : deep1 (own0 k) (killV k x) = false := by
    have := killV_own k x
    cases hx : killV k x with
    | tup vs => simp [deep1, own0]
    | agg cs => simp [deep1, own0]
    | _ => rw [hx] at this; exact this
   simp only [killC, anyL, this]
   exact ih
theorem lk_killB (k : Nat) : ∀ (l : List (Nat × (TypeId × List SV))) (j : Nat), lk (killB k l) j = (lk l j).map fun b => (b.1, killC k b.2)
 | [], j => rfl
 | (i, (T, cs)) :: l, j => by
   simp only [killB, lk]
   split
   · rfl
   · exact lk_killB k l j
theorem killS_get (k : Nat) : ∀ (l : List (List (Nat × SV))) (i : Nat), (killS k l)[i]? = (l[i]?).map (killF k)
 | [], i => by simp [killS]
 | f :: l, 0 => by simp [killS]
 | f :: l, i + 1 => by simpa [killS] using killS_get k l i
theorem Den.growRow (h : Den τ w0 E ⟨fr, stk, bx, rw', dep⟩ aS w) (k : Nat) (w' : World) (hg : w.grownBy w' (E.hs k).ownBlock) {e0 : Ent} {m0 : Nat × Rw} (he0 : lk rw' k = some e0) (hm0 : e0.mine = some m0)
  (v : Value) (e : Ent) (lo : Nat) (r : Rw) (hm : e.mine = some (lo, r)) (us : List Value) (hblk : ∀ g, v.ownBlock = some g → (w.heap.size ≤ g ∨ some g = (E.hs k).ownBlock) ∧ g < w'.heap.size)
  (hfits : r.len * r.bts ≤ 140737488355328) (hown : w'.ownsRow E.M (τ.et r.kd) r.sz v r.len us)
  (hc : ∀ i j x, i < r.len → (r.cell .any i)[j]? = some x → ∃ u, us[i * r.sz + j]? = some u ∧ cd1 w' ((E.add k v).F w' (if i < lo then .new else .any)) x u) :
  Den τ w0 (E.add k v) ⟨killF k fr, killS k stk, killB k bx, upd rw' k e, dep⟩ aS w' := by
 have hrow' : ∀ g, (E.hs k).ownBlock = some g → E.ow g := (h.own k e0 m0.1 m0.2 he0 hm0).ow
 have hk : Keeps E (E.add k v) w w' := grown_keeps hg hrow' rfl (by
  rintro g (hg | hg)
  · exact .inl hg
  · rcases (hblk g hg).1 with h1 | h1
    · exact .inr h1
    · exact .inl (hrow' g h1.symm))
 have hn : ∀ j, j ≠ k → (E.add k v).hs j = E.hs j ∧ entLike w' (E.add k v) (E.hs j) (lk rw' j) (lk (upd rw' k e) j) := by
  intro j hj
  refine ⟨by simp [Env.add, hj], ?_⟩
  simp only [lk_upd, hj, if_false]
  exact entLike.refl _ _ _ _
 refine h.setRow k _ _ _ w' _ hg (fun g hg => ⟨e0, m0, he0, hm0, hg⟩) v e lo r hm us hblk hfits hown hc ?_ ?_
 · intro i f hf
   have : ∃ f0, (fr :: stk)[i]? = some f0 ∧ f = killF k f0 := by
    cases i with
    | zero => simp at hf; exact ⟨fr, by simp, hf.symm⟩
    | succ i =>
      simp only [List.getElem?_cons_succ, killS_get, Option.map_eq_some_iff] at hf
      obtain ⟨f0, h1, h2⟩ := hf
      exact ⟨f0, by simpa using h1, h2.symm⟩
   obtain ⟨f0, hf0, rfl⟩ := this
   obtain ⟨b, hb, hd⟩ := h.fr i f0 hf0
   refine ⟨b, hb, (hd.kill k).keeps hk fun t => ⟨fun j hj => hn j ?_, fun _ _ => rfl⟩⟩
   rintro rfl
   rw [lkv_kill, killV_own] at hj
   exact absurd hj (by simp)
 · intro j T cs hj
   rw [lk_killB, Option.map_eq_some_iff] at hj
   obtain ⟨⟨T', cs'⟩, h1, h2⟩ := hj
   simp only [Prod.mk.injEq] at h2
   obtain ⟨rfl, rfl⟩ := h2
   refine ⟨cs', h1, fun us hd => (hd.kill k).mono fun x u hx hp => vd1.keeps hk (fun i hi => hn i ?_) (fun _ _ => rfl) hp⟩
   rintro rfl
   have := anyL_of_mem hx hi
   rw [killC_own] at this
   exact absurd this (by simp)
theorem Den.writeRow (h : Den τ w0 E ⟨fr, stk, bx, rw', dep⟩ aS w) (k : Nat) (w' : World) (hg : w.grownBy w' (E.hs k).ownBlock) {e0 : Ent} {m0 : Nat × Rw} (he0 : lk rw' k = some e0) (hm0 : e0.mine = some m0)
  (e : Ent) (lo : Nat) (r : Rw) (hm : e.mine = some (lo, r)) (hkd : m0.2.kd = r.kd) (hlen : m0.2.len = r.len) (us : List Value) (hown : w'.ownsRow E.M (τ.et r.kd) r.sz (E.hs k) r.len us)
  (hc : ∀ i j x, i < r.len → (r.cell .any i)[j]? = some x → ∃ u, us[i * r.sz + j]? = some u ∧ cd1 w' (E.F w' (if i < lo then .new else .any)) x u) :
  Den τ w0 E ⟨fr, stk, bx, upd rw' k e, dep⟩ aS w' := by
 have hrow' : ∀ g, (E.hs k).ownBlock = some g → E.ow g := (h.own k e0 m0.1 m0.2 he0 hm0).ow
 have heq : E.add k (E.hs k) = E := by
  have h1 : (fun j => if j = k then E.hs k else E.hs j) = E.hs := by
   funext j
   split
   · rename_i e; rw [e]
   · rfl
  have h2 : (fun g => E.ow g ∨ (E.hs k).ownBlock = some g) = E.ow := by
   funext g
   exact propext ⟨fun h => h.elim id (hrow' g), .inl⟩
  unfold Env.add
  rw [h1, h2]
 have hk : Keeps E E w w' := grown_keeps hg hrow' rfl fun g hg => .inl hg
 have hs : Shift E E ⟨fr, stk, bx, rw', dep⟩ ⟨fr, stk, bx, upd rw' k e, dep⟩ w' := by
  refine ⟨fun j _ => ⟨rfl, ?_⟩, fun _ _ => rfl⟩
  simp only [lk_upd]
  split
  · rename_i e1
    subst e1
    rw [he0]
    exact .inr (.inl ⟨m0.1, lo, m0.2, r, hm0, hm, hkd, hlen⟩)
  · exact entLike.refl _ _ _ _
 have hf0 := (h.own k e0 m0.1 m0.2 he0 hm0).fits
 have := h.setRow k fr stk bx w' _ hg (fun g hg => ⟨e0, m0, he0, hm0, hg⟩) (E.hs k) e lo r hm us (fun g hg' => ⟨.inr hg'.symm, Nat.lt_of_lt_of_le (h.owb g (hrow' g hg')).2 hg.size⟩)
  (by rw [← hlen]; unfold Rw.bts at hf0 ⊢; rw [← hkd]; exact hf0) hown (by rw [heq]; exact hc) ?_ ?_
 · rw [heq] at this; exact this
 · intro i f hf
   obtain ⟨b, hb, hd⟩ := h.fr i f hf
   rw [heq]
   exact ⟨b, hb, hs.frD hk hf hd⟩
 · intro j T cs hj
   rw [heq]
   exact ⟨cs, hj, fun us hd => hs.cells hk hj hd⟩
end
end Go.Proofs.YtjjpakdlkjaigaaGreat

/- A symbolic executor for loaded Go code: a row that is written no more; loads, stores, literals, appends. -/
namespace Go.Proofs.YtjjpakdlkjaigaaGreat
open Go.RowKit
section
variable {P : Program} {τ : Tys} {w0 : World} {E : Env} {aS : List (Array Value)} {a : Act} {w : World}
variable {k lo : Nat} {r : Rw} {s : St} {bs : List (Array Value)}
variable {fr : List (Nat × SV)} {stk : List (List (Nat × SV))} {bx : List (Nat × (TypeId × List SV))} {rw' : List (Nat × Ent)} {dep : Nat}
theorem cell_len (t : Tag) (r : Rw) (i : Nat) : (r.cell t i).length = r.sz := by cases r <;> rfl
theorem sz_pos (r : Rw) : 0 < r.sz := by cases r <;> simp [Rw.sz, Rw.kd, kdSz]
theorem cell_tag (t t' : Tag) (r : Rw) (i j : Nat) (x : SV) (h : (r.cell t i)[j]? = some x) : ∃ y, (r.cell t' i)[j]? = some y ∧ ∀ (w : World) (F : Nat → Prop) (u : Value), cd1 w F x u ↔ cd1 w F y u := by
 cases r with
 | msgs xs =>
   simp only [Rw.cell, GMsg.cells] at h ⊢
   match j, h with
   | 0, h | 1, h | 2, h | 4, h | 5, h | 6, h | 7, h | 8, h | 9, h | 10, h => simp at h; subst h; exact ⟨_, rfl, fun _ _ _ => Iff.rfl⟩
   | 3, h => simp at h; subst h; exact ⟨_, rfl, fun _ _ _ => Iff.rfl⟩
   | j + 11, h => simp at h
 | nodes xs =>
   simp only [Rw.cell, GNode.cells] at h ⊢
   match j, h with
   | 0, h | 1, h | 2, h | 3, h | 4, h | 5, h => simp at h; subst h; exact ⟨_, rfl, fun _ _ _ => Iff.rfl⟩
   | j + 6, h => simp at h
 | acts xs =>
   simp only [Rw.cell, GAct.cells] at h ⊢
   match j, h with
   | 0, h | 1, h | 2, h | 3, h | 4, h | 5, h | 6, h => simp at h; subst h; exact ⟨_, rfl, fun _ _ _ => Iff.rfl⟩
   | j + 7, h => simp at h
 | intss xs =>
   simp only [Rw.cell] at h ⊢
   match j, h with
   | 0, h => simp at h; subst h; exact ⟨_, rfl, fun _ _ _ => Iff.rfl⟩
   | j + 1, h => simp at h
 | _ => exact ⟨x, h, fun _ _ _ => Iff.rfl⟩
theorem flat_sc {t : Tag} {r : Rw} (h : r.flat = true) {i j : Nat} {x : SV} (hx : (r.cell t i)[j]? = some x) (w w' : World) (F F' : Nat → Prop) (u : Value) : cd1 w F x u ↔ cd1 w' F' x u := by
 have : ∀ x ∈ r.cell t i, ∀ t r, x ≠ .row t r := by
  cases r <;> first
   | (simp [Rw.flat] at h; done)
   | simp [Rw.cell, GItem.cells, GPeer.cells, GTold.cells, GCut.cells]
 have hne := this x (List.mem_of_getElem? hx)
 cases x with
 | row t r => exact absurd rfl (hne t r)
 | _ => exact Iff.rfl
theorem F_any {E : Env} {w : World} {t : Tag} {g : Nat} (h : E.F w t g) : E.F w .any g := ⟨h.1, trivial⟩
theorem cd1.any {w : World} {E : Env} {t : Tag} {x : SV} {u : Value} (h : cd1 w (E.F w t) x u) : cd1 w (E.F w .any) x u := by
 cases x <;> first
  | exact h
  | exact RowD.mono h (fun g hg _ => ⟨rfl, F_any hg⟩) fun _ _ h => h
theorem RowDen.any {w : World} {E : Env} {t : Tag} {r : Rw} {v : Value} (h : RowDen w (E.F w t) r v) : RowDen w (E.F w .any) r v := h.mono fun g hg _ => ⟨rfl, F_any hg⟩
theorem OwnD.unfz (h : OwnD τ E w k lo r) {g : Nat} (hg : (E.hs k).ownBlock = some g) : Go.Proofs.YtjjpakdlkjaigaaGreat.unfz w g := by
 obtain ⟨us, ⟨_, hrow⟩, _⟩ := h.row
 rcases hrow with ⟨hv, _⟩ | ⟨g', cap, cur, hv, _, hheap, _⟩
 · rw [hv] at hg; simp [Value.ownBlock] at hg
 · rw [hv] at hg
   simp [Value.ownBlock] at hg
   subst hg
   exact unfz_row hheap
theorem OwnD.read {F' : Nat → Prop} (h : OwnD τ E w k lo r) (hb : ∀ g, (E.hs k).ownBlock = some g → F' g) (hc : ∀ t g, E.F w t g → (t = .new ∨ ¬ r.len ≤ lo) → F' g) : RowDen w F' r (E.hs k) := by
 obtain ⟨us, hrow, hcell⟩ := h.row
 obtain ⟨hl, hrow⟩ := hrow
 have hcd : ∀ i j x, i < r.len → (r.cell .any i)[j]? = some x → ∃ u, us[i * r.sz + j]? = some u ∧ cd1 w F' x u := by
  intro i j x hi hx
  obtain ⟨u, hu, hd⟩ := hcell i j x hi hx
  refine ⟨u, hu, cd1.mono hd fun g hg _ => ⟨rfl, hc _ g hg ?_⟩⟩
  split
  · exact .inl rfl
  · exact .inr (by omega)
 refine ⟨h.fits, ?_⟩
 rcases hrow with ⟨hv, h0⟩ | ⟨g, cap, cur, hv, hg, hheap, hnc, hcap, hcs, htake⟩
 · exact ⟨none, 0, by rw [hv, h0], by omega, fun hp => by omega⟩
 · refine ⟨some ⟨g, 0, none⟩, cap, hv, hnc, fun hp => ⟨⟨g, 0, none⟩, rfl, rfl, hb g (by rw [hv]; rfl), fun i j x hi hx => ?_⟩⟩
   obtain ⟨u, hu, hd⟩ := hcd i j x hi hx
   refine ⟨u, ?_, hd⟩
   rw [Addr.add_lit, cell_of_row w g _ cur _ (0, 0) hheap]
   rw [← htake, List.getElem?_take] at hu
   split at hu
   · simpa using hu
   · simp at hu
theorem Ent.row_mine {e : Ent} {lo : Nat} {r : Rw} (h : e.mine = some (lo, r)) : e.row.2 = r := by cases e <;> simp [Ent.mine] at h <;> simp [Ent.row, h]
theorem Den.demote (h : Den τ w0 E ⟨fr, stk, bx, rw', dep⟩ aS w) (k : Nat) : ∃ E', E'.base = E.base ∧ E'.M = E.M ∧ E'.bs = E.bs ∧ E'.hs = E.hs ∧ Keeps E E' w w ∧ Shift E E' ⟨fr, stk, bx, rw', dep⟩ ⟨fr, stk, bx, demote1 rw' k, dep⟩ w ∧
  (∀ j, entLike w E' (E.hs j) (lk rw' j) (lk (demote1 rw' k) j)) ∧ Den τ w0 E' ⟨fr, stk, bx, demote1 rw' k, dep⟩ aS w := by
 unfold demote1
 cases hk : lk rw' k with
 | none =>
   exact ⟨E, rfl, rfl, rfl, rfl, Keeps.refl E w, Shift.refl E _ _ w rfl, fun j => entLike.refl _ _ _ _, h⟩
 | some e =>
   simp only
   cases hm : e.mine with
   | none =>
     cases e with
     | own r => simp [Ent.mine] at hm
     | part lo r => simp [Ent.mine] at hm
     | shared t r =>
       have hl : ∀ j, lk (upd rw' k (Ent.shared t r)) j = lk rw' j := by
        intro j
        rw [lk_upd]
        split
        · rename_i e; rw [e, hk]
        · rfl
       refine ⟨E, rfl, rfl, rfl, rfl, Keeps.refl E w, ⟨fun j _ => ⟨rfl, ?_⟩, fun _ _ => rfl⟩, fun j => ?_, ?_⟩
       · simp only [Ent.row]; rw [hl]; exact entLike.refl _ _ _ _
       · simp only [Ent.row]; rw [hl]; exact entLike.refl _ _ _ _
       · have hs : Shift E E ⟨fr, stk, bx, rw', dep⟩ ⟨fr, stk, bx, upd rw' k (Ent.shared t r), dep⟩ w := ⟨fun j _ => ⟨rfl, by simp only; rw [hl]; exact entLike.refl _ _ _ _⟩, fun _ _ => rfl⟩
         simp only [Ent.row]
         refine h.move (Keeps.refl E w) rfl (Below.refl _ _) hs rfl rfl h.owb ?_ ?_ h.bb ?_ ?_
         · intro j T cs hj
           obtain ⟨h1, us, h2, h3⟩ := h.box j T cs hj
           exact ⟨h1, us, h2, hs.cells (Keeps.refl E w) hj h3⟩
         · intro j e lo r' hj hm'
           simp only [hl] at hj
           exact h.own j e lo r' hj hm'
         · intro j j' b e m hj hj' hm'
           simp only [hl] at hj'
           exact h.br j j' b e m hj hj' hm'
         · intro j j' e e' m m' g hj hj'
           simp only [hl] at hj hj'
           exact h.rr j j' e e' m m' g hj hj'
   | some m =>
     obtain ⟨lo, r⟩ := m
     have hO := h.own k e lo r hk hm
     let E' : Env := { E with ow := fun g => E.ow g ∧ (E.hs k).ownBlock ≠ some g }
     have hkp : Keeps E E' w w := ⟨rfl, Nat.le_refl _, fun _ _ _ => rfl, fun g hg => .inl hg.1⟩
     have hF : ∀ t g, E.F w t g → E'.F w t g := fun t g hg => ⟨fun ho => hg.1 ho.1, hg.2⟩
     have hrd : RowDen w (E'.F w e.row.1) e.row.2 (E.hs k) := by
      rw [Ent.row_mine hm]
      obtain ⟨us, hrow, _⟩ := hO.row
      have hbM : ∀ g, (E.hs k).ownBlock = some g → E'.M ≤ g := fun g hg => (hrow.lt g hg).1
      have hb : ∀ g, (E.hs k).ownBlock = some g → E'.F w .new g := fun g hg => ⟨fun ho => ho.2 hg, hbM g hg, hO.unfz hg⟩
      cases e with
      | own r' =>
        simp [Ent.mine] at hm
        obtain ⟨rfl, rfl⟩ := hm
        exact hO.read hb fun t g hg ht => by
         rcases ht with rfl | ht
         · exact hF _ g hg
         · omega
      | part lo' r' =>
        simp [Ent.mine] at hm
        obtain ⟨rfl, rfl⟩ := hm
        simp only [Ent.row]
        cases hfl : r'.flat with
        | true =>
          simp only
          -- a flat row leads nowhere
          have hO' : OwnD τ E w k r'.len r' := by
           obtain ⟨us, hrow, hcell⟩ := hO.row
           refine ⟨hO.ow, hO.fits, us, hrow, fun i j x hi hx => ?_⟩
           obtain ⟨u, hu, hd⟩ := hcell i j x hi hx
           exact ⟨u, hu, (flat_sc hfl hx _ _ _ _ u).1 hd⟩
          exact hO'.read hb fun t g hg ht => by
           rcases ht with rfl | ht
           · exact hF _ g hg
           · omega
        | false =>
          simp only
          exact hO.read (fun g hg => F_any (hb g hg)) fun t g hg _ => F_any (hF t g hg)
      | shared t r' => simp [Ent.mine] at hm
     have hl : ∀ j, entLike w E' (E.hs j) (lk rw' j) (lk (upd rw' k (.shared e.row.1 e.row.2)) j) := by
      intro j
      rw [lk_upd]
      split
      · rename_i e1
        subst e1
        rw [hk]
        exact .inr (.inr ⟨lo, r, e.row.1, hm, by rw [Ent.row_mine hm], by rw [Ent.row_mine hm] at hrd; exact hrd⟩)
      · exact entLike.refl _ _ _ _
     have hs : Shift E E' ⟨fr, stk, bx, rw', dep⟩ ⟨fr, stk, bx, upd rw' k (.shared e.row.1 e.row.2), dep⟩ w := ⟨fun j _ => ⟨rfl, hl j⟩, fun _ _ => rfl⟩
     refine ⟨E', rfl, rfl, rfl, rfl, hkp, hs, hl, ?_⟩
     refine h.move hkp rfl (Below.refl _ _) hs rfl rfl (fun g hg => h.owb g hg.1) ?_ ?_ h.bb ?_ ?_
     · intro j T cs hj
       obtain ⟨h1, us, h2, h3⟩ := h.box j T cs hj
       exact ⟨⟨h1, fun hg => h.br j k _ e _ hj hk hm hg⟩, us, h2, hs.cells hkp hj h3⟩
     · intro j e' lo' r' hj hm'
       simp only [lk_upd] at hj
       split at hj
       · injection hj with hj; subst hj; simp [Ent.mine] at hm'
       · rename_i e1
         exact (h.own j e' lo' r' hj hm').keeps hkp rfl rfl (fun g hg => ⟨(h.own j e' lo' r' hj hm').ow g hg, fun hg' => h.rr j k e' e _ _ g hj hk hm' hm e1 hg hg'⟩) fun _ _ => rfl
     · intro j j' b e' m hj hj' hm'
       simp only [lk_upd] at hj'
       split at hj'
       · injection hj' with hj'; subst hj'; simp [Ent.mine] at hm'
       · exact h.br j j' b e' m hj hj' hm'
     · intro j j' e1 e2 m1 m2 g hj hj' h1 h2
       simp only [lk_upd] at hj hj'
       split at hj
       · injection hj with hj; subst hj; simp [Ent.mine] at h1
       · split at hj'
         · injection hj' with hj'; subst hj'; simp [Ent.mine] at h2
         · exact h.rr j j' e1 e2 m1 m2 g hj hj' h1 h2
end
end Go.Proofs.YtjjpakdlkjaigaaGreat

/- A symbolic executor for loaded Go code: rows and the cells that they are made of. -/
namespace Go.Proofs.YtjjpakdlkjaigaaGreat
open Go.RowKit
def tagLe (t : Tag) : SV → Prop
 | .row t' _ => t = .any ∨ t' = t
 | _ => True
theorem RowDen.flat {w : World} {F : Nat → Prop} {r : Rw} {v : Value} (h : RowDen w F r v) (hf : r.flat = true) : RowD sc w F r v := by
 obtain ⟨h0, A, c, hv, hn, h⟩ := h
 refine ⟨h0, A, c, hv, hn, fun hp => ?_⟩
 obtain ⟨ad, hA, hs, hF, hc⟩ := h hp
 refine ⟨ad, hA, hs, hF, fun i j x hi hx => ?_⟩
 obtain ⟨u, hu, hd⟩ := hc i j x hi hx
 refine ⟨u, hu, ?_⟩
 have : ∀ x ∈ r.cell .any i, ∀ t r, x ≠ .row t r := by
  cases r <;> first
   | (simp [Rw.flat] at hf; done)
   | simp [Rw.cell, GItem.cells, GPeer.cells, GTold.cells, GCut.cells]
 have hne := this x (List.mem_of_getElem? hx)
 cases x with
 | row t r => exact absurd rfl (hne t r)
 | _ => exact hd
theorem RowD.up {w : World} {F : Nat → Prop} {r : Rw} {v : Value} (h : RowD sc w F r v) : RowDen w F r v :=
 h.mono (fun g hg _ => ⟨rfl, hg⟩) fun x u hx => by cases x <;> first | exact hx | exact hx.elim
theorem empty_row {w : World} {F : Nat → Prop} {r : Rw} (h : r.len = 0) (cd : SV → Value → Prop) : RowD cd w F r (.slice none 0 0) :=
 ⟨by rw [h]; omega, none, 0, by rw [h], by omega, fun hp => by omega⟩
theorem Fit.cd {E : Env} {R : List (Nat × Ent)} {w : World} {y x : SV} {u : Value} {t : Tag} (h : Fit y x) (hy : vd1 E R w y u) (ht : tagLe t y) : cd1 w (E.F w t) x u := by
 cases y <;> cases x <;> first
  | exact h.elim
  | (obtain ⟨rfl, rfl⟩ := h; exact hy)
  | (obtain rfl : _ = _ := h; exact hy)
  | skip
 · -- a row
   rename_i t1 r1 t2 r2
   obtain ⟨rfl, hf⟩ := h
   have hy' : RowDen w (E.F w t1) r1 u := hy
   have : RowDen w (E.F w t) r1 u := by
    rcases ht with rfl | rfl
    · exact hy'.any
    · exact hy'
   exact this.flat hf
 · rename_i r1 t2 r2
   obtain ⟨rfl, _⟩ := h
   obtain ⟨rfl, h0⟩ := hy
   exact empty_row h0 _
theorem Fit.retag {y x x' : SV} (h : Fit y x) (hx : ∀ (w : World) (F : Nat → Prop) (u : Value), cd1 w F x u ↔ cd1 w F x' u) : True := trivial
theorem asBool_fit {x : SV} {b : Bool} (h : x.asBool = some b) : Fit x (.bool b) := by cases x <;> simp [SV.asBool] at h <;> exact h
theorem asInts_fit {x : SV} {l : List Int} {t : Tag} (h : x.asInts = some l) : Fit x (.row t (.ints l)) := by
 unfold SV.asInts at h
 split at h <;> simp at h <;> subst h <;> exact ⟨rfl, rfl⟩
theorem asPeers_fit {x : SV} {l : List GPeer} {t : Tag} (h : x.asPeers = some l) : Fit x (.row t (.peers l)) := by
 unfold SV.asPeers at h
 split at h <;> simp at h <;> subst h <;> exact ⟨rfl, rfl⟩
theorem asItems_fit {x : SV} {l : List GItem} {t : Tag} (h : x.asItems = some l) : Fit x (.row t (.items l)) := by
 unfold SV.asItems at h
 split at h <;> simp at h <;> subst h <;> exact ⟨rfl, rfl⟩
theorem asTolds_fit {x : SV} {l : List GTold} {t : Tag} (h : x.asTolds = some l) : Fit x (.row t (.tolds l)) := by
 unfold SV.asTolds at h
 split at h <;> simp at h <;> subst h <;> exact ⟨rfl, rfl⟩
theorem decInt_fit {c : List SV} {e : Int} (h : decInt c = some e) : FitL c [.int .i64 e] := by
 unfold decInt at h
 split at h
 · simp at h; subst h; exact .cons ⟨rfl, rfl⟩ .nil
 · simp at h
theorem decByte_fit {c : List SV} {e : Int} (h : decByte c = some e) : FitL c [.int .u8 e] := by
 unfold decByte at h
 split at h
 · simp at h; subst h; exact .cons ⟨rfl, rfl⟩ .nil
 · simp at h
theorem decStr_fit {c : List SV} {e : ByteArray} (h : decStr c = some e) : FitL c [.str e] := by
 unfold decStr at h
 split at h
 · simp at h; subst h; exact .cons rfl .nil
 · simp at h
theorem decItem_fit {c : List SV} {e : GItem} (h : decItem c = some e) : FitL c e.cells := by
 unfold decItem at h
 split at h
 · split at h
   · rename_i g hg
     simp at h; subst h
     exact .cons ⟨rfl, rfl⟩ (.cons ⟨rfl, rfl⟩ (.cons ⟨rfl, rfl⟩ (.cons ⟨rfl, rfl⟩ (.cons (asBool_fit hg) .nil))))
   · simp at h
 · simp at h
theorem decPeer_fit {c : List SV} {e : GPeer} (h : decPeer c = some e) : FitL c e.cells := by
 unfold decPeer at h
 split at h
 · simp at h; subst h
   exact .cons ⟨rfl, rfl⟩ (.cons ⟨rfl, rfl⟩ .nil)
 · simp at h
theorem decTold_fit {c : List SV} {e : GTold} (h : decTold c = some e) : FitL c e.cells := by
 unfold decTold at h
 split at h
 · split at h
   · rename_i g hg
     simp at h; subst h
     exact .cons ⟨rfl, rfl⟩ (.cons (asBool_fit hg) (.cons ⟨rfl, rfl⟩ .nil))
   · simp at h
 · simp at h
theorem decCut_fit {c : List SV} {e : GCut} (h : decCut c = some e) : FitL c e.cells := by
 unfold decCut at h
 split at h
 · simp at h; subst h
   exact .cons ⟨rfl, rfl⟩ (.cons ⟨rfl, rfl⟩ .nil)
 · simp at h
theorem decMsg_fit {c : List SV} {e : GMsg} (h : decMsg c = some e) (t : Tag) : FitL c (e.cells t) := by
 unfold decMsg at h
 split at h
 · split at h
   · rename_i h1 h2 h3
     simp at h; subst h
     exact .cons ⟨rfl, rfl⟩ (.cons ⟨rfl, rfl⟩ (.cons ⟨rfl, rfl⟩ (.cons (asInts_fit h1) (.cons ⟨rfl, rfl⟩ (.cons ⟨rfl, rfl⟩ (.cons ⟨rfl, rfl⟩ (.cons ⟨rfl, rfl⟩ (.cons ⟨rfl, rfl⟩ (.cons (asBool_fit h2) (.cons (asBool_fit h3) .nil))))))))))
   · simp at h
 · simp at h
theorem decNode_fit {c : List SV} {e : GNode} (h : decNode c = some e) (t : Tag) : FitL c (e.cells t) := by
 unfold decNode at h
 split at h
 · split at h
   · rename_i h1 h2 h3 h4 h5
     simp at h; subst h
     exact .cons (asBool_fit h1) (.cons ⟨rfl, rfl⟩ (.cons (asPeers_fit h2) (.cons (asInts_fit h3) (.cons (asItems_fit h4) (.cons (asTolds_fit h5) .nil)))))
   · simp at h
 · simp at h
theorem decAct_fit {c : List SV} {e : GAct} (h : decAct c = some e) (t : Tag) : FitL c (e.cells t) := by
 unfold decAct at h
 split at h
 · split at h
   · rename_i h1
     simp at h; subst h
     exact .cons ⟨rfl, rfl⟩ (.cons ⟨rfl, rfl⟩ (.cons ⟨rfl, rfl⟩ (.cons ⟨rfl, rfl⟩ (.cons (asInts_fit h1) (.cons ⟨rfl, rfl⟩ (.cons ⟨rfl, rfl⟩ .nil))))))
   · simp at h
 · simp at h
theorem decInts_fit {c : List SV} {e : List Int} (h : decInts c = some e) (t : Tag) : FitL c [.row t (.ints e)] := by
 unfold decInts at h
 split at h
 · exact .cons (asInts_fit h) .nil
 · simp at h
theorem decBool_fit {c : List SV} {e : Bool} (h : decBool c = some e) : FitL c [.bool e] := by
 unfold decBool at h
 split at h
 · exact .cons (asBool_fit h) .nil
 · simp at h
theorem decAll_get {α : Type} {dec : List SV → Option α} : ∀ {es : List (List SV)} {xs : List α}, decAll dec es = some xs → xs.length = es.length ∧ ∀ (i : Nat) c, es[i]? = some c → ∃ x, xs[i]? = some x ∧ dec c = some x
 | [], xs, h => by simp [decAll] at h; subst h; exact ⟨rfl, fun i c hc => by simp at hc⟩
 | c :: es, xs, h => by
   simp only [decAll] at h
   split at h
   · rename_i x xs' hx hxs
     simp at h
     subst h
     obtain ⟨h1, h2⟩ := decAll_get hxs
     refine ⟨by simp [h1], fun i d hd => ?_⟩
     cases i with
     | zero => simp at hd; subst hd; exact ⟨x, by simp, hx⟩
     | succ i => simpa using h2 i d (by simpa using hd)
   · simp at h
theorem mkRow_fit {k : Nat} {es : List (List SV)} {r : Rw} (h : mkRow k es = some r) : r.kd = k ∧ r.len = es.length ∧ ∀ (i : Nat) c, es[i]? = some c → FitL c (r.cell .any i) := by
 unfold mkRow at h
 split at h <;> first
  | (simp at h; done)
  | skip
 all_goals
  obtain ⟨xs, hxs, rfl⟩ := Option.map_eq_some_iff.1 h
  obtain ⟨h1, h2⟩ := decAll_get hxs
  refine ⟨rfl, h1, fun i c hc => ?_⟩
  obtain ⟨x, hx, hd⟩ := h2 i c hc
  simp only [Rw.cell, List.getD_eq_getElem?_getD, hx, Option.getD_some]
  first
   | exact decInt_fit hd
   | exact decByte_fit hd
   | exact decStr_fit hd
   | exact decPeer_fit hd
   | exact decItem_fit hd
   | exact decTold_fit hd
   | exact decCut_fit hd
   | exact decMsg_fit hd _
   | exact decNode_fit hd _
   | exact decAct_fit hd _
   | exact decInts_fit hd _
   | exact decBool_fit hd
theorem setE_fit {r r' : Rw} {i : Nat} {c : List SV} (h : r.setE i c = some r') (hi : i < r.len) : r'.kd = r.kd ∧ r'.len = r.len ∧ FitL c (r'.cell .any i) ∧ ∀ i', i' ≠ i → r'.cell .any i' = r.cell .any i' := by
 cases r <;> simp only [Rw.setE] at h <;> obtain ⟨x, hd, rfl⟩ := Option.map_eq_some_iff.1 h <;> simp only [Rw.len] at hi <;>
  refine ⟨rfl, by simp [Rw.len], ?_, fun i' hne => by simp [Rw.cell, List.getD_eq_getElem?_getD, List.getElem?_set_ne (Ne.symm hne)]⟩ <;>
  simp only [Rw.cell, List.getD_eq_getElem?_getD, List.getElem?_set_self hi, Option.getD_some] <;>
  first
   | exact decInt_fit hd
   | exact decByte_fit hd
   | exact decStr_fit hd
   | exact decPeer_fit hd
   | exact decItem_fit hd
   | exact decTold_fit hd
   | exact decCut_fit hd
   | exact decMsg_fit hd _
   | exact decNode_fit hd _
   | exact decAct_fit hd _
   | exact decInts_fit hd _
   | exact decBool_fit hd
theorem app_cell {r1 r2 r : Rw} (h : r1.app r2 = some r) : r.kd = r1.kd ∧ r.kd = r2.kd ∧ r.len = r1.len + r2.len ∧ (∀ t i, i < r1.len → r.cell t i = r1.cell t i) ∧ ∀ t i, r.cell t (r1.len + i) = r2.cell t i := by
 cases r1 <;> cases r2 <;> simp only [Rw.app] at h <;> first
  | (simp at h; done)
  | skip
 all_goals
  injection h with h
  subst h
  refine ⟨rfl, rfl, by simp [Rw.len], fun t i hi => ?_, fun t i => ?_⟩
  · simp only [Rw.len] at hi
    simp [Rw.cell, List.getD_eq_getElem?_getD, List.getElem?_append_left hi]
  · simp [Rw.cell, Rw.len, List.getD_eq_getElem?_getD, List.getElem?_append_right]
theorem zeros_cell (k n : Nat) (hk : k < 12) : (Rw.zeros k n).kd = k ∧ (Rw.zeros k n).len = n := by
 match k, hk with
 | 0, _ | 1, _ | 2, _ | 3, _ | 4, _ | 5, _ | 6, _ | 7, _ | 8, _ | 9, _ | 10, _ | 11, _ => exact ⟨rfl, by simp [Rw.zeros, Rw.len]⟩
end Go.Proofs.YtjjpakdlkjaigaaGreat

/- A symbolic executor for loaded Go code: each step is the machine's. -/
namespace Go.Proofs.YtjjpakdlkjaigaaGreat
open Go.RowKit
section
variable {P : Program} {τ : Tys} {w0 : World} {E : Env} {aS : List (Array Value)} {a : Act} {w : World}
variable {s : St} {bs : List (Array Value)} {o : Oper}
variable {fr : List (Nat × SV)} {stk : List (List (Nat × SV))} {bx : List (Nat × (TypeId × List SV))} {rw' : List (Nat × Ent)} {dep : Nat}
def OpGood (P : Program) (τ : Tys) (w0 : World) (E : Env) (aS : List (Array Value)) (o : Oper) (a : Act) (w : World) (s' : St) : Prop :=
 ∀ (next : Act → World → Prop) (Q : Exit → Act → World → Prop), (∀ E' v w', Den τ w0 E' s' ((a.put o.dst v).tmps :: aS) w' → E'.base = E.base → E'.M = E.M → next (a.put o.dst v) w') → o.wp P a w next Q
def RS.good (r : RS) (p : St → Prop) : Prop := match r with
 | .ok s => p s
 | .ob q s => q → p s
 | .bad => True
theorem opGood_value {s' : St} {E' : Env} {v : Value} {w' : World} (hr : (execOp a.eval o).run P w = .ok (.value v) w') (hd : Den τ w0 E' s' ((a.put o.dst v).tmps :: aS) w') (hb : E'.base = E.base) (hM : E'.M = E.M) : OpGood P τ w0 E aS o a w s' := by
 intro next Q h
 unfold Oper.wp
 rw [hr]
 exact h E' v w' hd hb hM
theorem opGood_skip {s' : St} {E' : Env} {w' : World} (hr : (execOp a.eval o).run P w = .ok .skip w') (hd : Den τ w0 E' s' ((a.put o.dst undef).tmps :: aS) w') (hb : E'.base = E.base) (hM : E'.M = E.M) : OpGood P τ w0 E aS o a w s' := by
 intro next Q h
 unfold Oper.wp
 rw [hr]
 exact h E' undef w' hd hb hM
theorem RV.to_good' (hd : Den τ w0 E ⟨fr, stk, bx, rw', dep⟩ (a.tmps :: aS) w) (hdst : ∀ t, o.dst = some t → t < a.tmps.size) {r : RV}
  (h : r.good fun x => ∃ z, (execOp a.eval o).run P w = .ok (.value z) w ∧ vd3 E rw' w x z) : (r.to o.dst ⟨fr, stk, bx, rw', dep⟩).good (OpGood P τ w0 E aS o a w) := by
 have key : ∀ x, (∃ z, (execOp a.eval o).run P w = .ok (.value z) w ∧ vd3 E rw' w x z) → OpGood P τ w0 E aS o a w (putv o.dst x ⟨fr, stk, bx, rw', dep⟩) := by
  rintro x ⟨z, hz, hv⟩
  exact opGood_value (v := z) (w' := w) hz (hd.put hv hdst) rfl rfl
 cases r with
 | bad => trivial
 | ok x => simp only [RV.to, SV.force_eq]; exact key x h
 | ob q x => simp only [RV.to, SV.force_eq]; exact fun hq => key x (h hq)
abbrev Yld (P : Program) (o : Oper) (a : Act) (w : World) (E : Env) (R : List (Nat × Ent)) (x : SV) : Prop := ∃ z, (execOp a.eval o).run P w = .ok (.value z) w ∧ vd3 E R w x z
theorem RV.ok_of {r : RV} {c : Sem Value} (hc : ∀ z, c.run P w = .ok z w → (execOp a.eval o).run P w = .ok (.value z) w) (h : r.good fun x => Gives (P := P) w c x E rw') : r.good (Yld P o a w E rw') := by
 cases r with
 | bad => trivial
 | ok x => obtain ⟨z, hz, hv⟩ := h; exact ⟨z, hc z hz, hv⟩
 | ob q x => intro hq; obtain ⟨z, hz, hv⟩ := h hq; exact ⟨z, hc z hz, hv⟩
theorem move_ok (hτ : TysOk P τ) (hd : Den τ w0 E ⟨fr, stk, bx, rw', dep⟩ (a.tmps :: aS) w) (x : Operand) (ho : o.op = .move x ∨ o.op = .assign x) :
  (RV.ok (rawT τ ⟨fr, stk, bx, rw', dep⟩ o.type x)).good (Yld P o a w E rw') :=
 RV.ok_of (c := pure (a.eval x)) (fun z hz => by
  obtain rfl : a.eval x = z := by simpa using hz
  rcases ho with ho | ho <;> simp [execOp, ho]) ⟨_, rfl, hd.rawT o.type x⟩
theorem move_good (hτ : TysOk P τ) (hd : Den τ w0 E ⟨fr, stk, bx, rw', dep⟩ (a.tmps :: aS) w) (hdst : ∀ t, o.dst = some t → t < a.tmps.size) (x : Operand) (ho : o.op = .move x ∨ o.op = .assign x) :
  ((RV.ok (rawT τ ⟨fr, stk, bx, rw', dep⟩ o.type x)).to o.dst ⟨fr, stk, bx, rw', dep⟩).good (OpGood P τ w0 E aS o a w) :=
 RV.to_good' hd hdst (move_ok hτ hd x ho)
theorem pick_ok (hd : Den τ w0 E ⟨fr, stk, bx, rw', dep⟩ (a.tmps :: aS) w) (c x y : Operand) (ho : o.op = .pick c x y) :
  (evPick (St.get ⟨fr, stk, bx, rw', dep⟩ c) (St.get ⟨fr, stk, bx, rw', dep⟩ x) (St.get ⟨fr, stk, bx, rw', dep⟩ y)).good (Yld P o a w E rw') := by
 refine RV.ok_of (c := do pure (if ← asBool (a.eval c) then a.eval x else a.eval y)) (fun z hz => ?_) ?_
 · simp only [execOp, ho]
   cases hc : (asBool (a.eval c)).run P w with
   | halt h w' => simp [hc, Result.andThen] at hz
   | ok t w' => simp [hc] at hz ⊢; exact hz
 have := evPick_ok (hd.get c) (hd.get x) (hd.get y)
 cases he : evPick (St.get ⟨fr, stk, bx, rw', dep⟩ c) (St.get ⟨fr, stk, bx, rw', dep⟩ x) (St.get ⟨fr, stk, bx, rw', dep⟩ y) with
 | bad => trivial
 | ok z => rw [he] at this; obtain ⟨t, h1, h2⟩ := this; exact ⟨_, by simp [h1, asBool], h2⟩
 | ob q z => rw [he] at this; intro hq; obtain ⟨t, h1, h2⟩ := this hq; exact ⟨_, by simp [h1, asBool], h2⟩
theorem pick_good (hd : Den τ w0 E ⟨fr, stk, bx, rw', dep⟩ (a.tmps :: aS) w) (hdst : ∀ t, o.dst = some t → t < a.tmps.size) (c x y : Operand) (ho : o.op = .pick c x y) :
  ((evPick (St.get ⟨fr, stk, bx, rw', dep⟩ c) (St.get ⟨fr, stk, bx, rw', dep⟩ x) (St.get ⟨fr, stk, bx, rw', dep⟩ y)).to o.dst ⟨fr, stk, bx, rw', dep⟩).good (OpGood P τ w0 E aS o a w) :=
 RV.to_good' hd hdst (pick_ok hd c x y ho)
theorem bin_ok (hτ : TysOk P τ) (hd : Den τ w0 E ⟨fr, stk, bx, rw', dep⟩ (a.tmps :: aS) w) (op : BinOp) (T T' : TypeId) (x y : Operand) (ho : o.op = .binOp op T x y T') :
  (evBin τ T op (St.get ⟨fr, stk, bx, rw', dep⟩ x) (St.get ⟨fr, stk, bx, rw', dep⟩ y)).good (Yld P o a w E rw') :=
 RV.ok_of (c := do eqGuard op T x y (a.eval x) (a.eval y); binOp op T (a.eval x) (a.eval y)) (fun z hz => by simp only [execOp, ho, Sem.run_bind, hz]; rfl) (evBin_ok hτ T x y (hd.get x) (hd.get y))
theorem bin_good (hτ : TysOk P τ) (hd : Den τ w0 E ⟨fr, stk, bx, rw', dep⟩ (a.tmps :: aS) w) (hdst : ∀ t, o.dst = some t → t < a.tmps.size) (op : BinOp) (T T' : TypeId) (x y : Operand) (ho : o.op = .binOp op T x y T') :
  ((evBin τ T op (St.get ⟨fr, stk, bx, rw', dep⟩ x) (St.get ⟨fr, stk, bx, rw', dep⟩ y)).to o.dst ⟨fr, stk, bx, rw', dep⟩).good (OpGood P τ w0 E aS o a w) :=
 RV.to_good' hd hdst (bin_ok hτ hd op T T' x y ho)
theorem un_ok (hd : Den τ w0 E ⟨fr, stk, bx, rw', dep⟩ (a.tmps :: aS) w) (op : UnOp) (T : TypeId) (x : Operand) (ho : o.op = .unOp op T x) :
  (evUn op (St.get ⟨fr, stk, bx, rw', dep⟩ x)).good (Yld P o a w E rw') :=
 RV.ok_of (c := Op.unary op (a.eval x)) (fun z hz => by simp only [execOp, ho, Sem.run_bind, hz]; rfl) (evUn_ok (hd.get x))
theorem un_good (hd : Den τ w0 E ⟨fr, stk, bx, rw', dep⟩ (a.tmps :: aS) w) (hdst : ∀ t, o.dst = some t → t < a.tmps.size) (op : UnOp) (T : TypeId) (x : Operand) (ho : o.op = .unOp op T x) :
  ((evUn op (St.get ⟨fr, stk, bx, rw', dep⟩ x)).to o.dst ⟨fr, stk, bx, rw', dep⟩).good (OpGood P τ w0 E aS o a w) :=
 RV.to_good' hd hdst (un_ok hd op T x ho)
theorem exists_list {α β : Type} {p : Nat → α → β → Prop} : ∀ (cs : List α), (∀ (j : Nat) x, cs[j]? = some x → ∃ u, p j x u) → ∃ us : List β, cs.length = us.length ∧ ∀ (j : Nat) x, cs[j]? = some x → ∃ u, us[j]? = some u ∧ p j x u := by
 intro cs
 induction cs generalizing p with
 | nil => exact fun _ => ⟨[], rfl, fun j x h => by simp at h⟩
 | cons c cs ih =>
   intro h
   obtain ⟨u, hu⟩ := h 0 c (by simp)
   obtain ⟨us, hl, hus⟩ := ih (p := fun j => p (j + 1)) fun j x hx => h (j + 1) x (by simpa using hx)
   refine ⟨u :: us, by simp [hl], fun j x hx => ?_⟩
   cases j with
   | zero => simp at hx; subst hx; exact ⟨u, by simp, hu⟩
   | succ j => simpa using hus j x (by simpa using hx)
theorem add_add {ad : Addr} (h : ad.spot = none) (m n : Nat) : (ad.add m).add n = ad.add (m + n) := by
 obtain ⟨b, o, sp⟩ := ad
 simp at h
 subst h
 simp only [Addr.add_lit, Nat.add_assoc]
theorem loadVar_run (hτ : TysOk P τ) {T : TypeId} {i : TI} (hi : τ.ti T = some i) (ad : Addr) (hs : ad.spot = none) (cs : List SV) (us : List Value) (off : Nat) (h : L0 (vd1 E rw' w) cs us) (hc : ∀ (j : Nat) u, us[j]? = some u → w.cell? (ad.add j) = some u) :
  (part' τ T cs off).good fun z => Gives (P := P) w (loadVar T (ad.add off)) z E rw' := by
 unfold part'
 rw [hi]
 simp only
 split
 · rename_i hag
   split
   · rename_i hle
     rw [forceL_eq]
     have hle' := Nat.le_of_ble_eq_true hle
     refine ⟨.agg (cut us off (τ.sz T)).toArray, ?_, ⟨_, rfl, (h.drop off).take _⟩⟩
     have hcut : (cut us off (τ.sz T)).length = τ.sz T := by simp [cut, ← h.1]; omega
     have := run_loadCells_list (P := P) w (ad.add off) (cut us off (τ.sz T)) (fun j v hv => by
      rw [add_add hs]
      refine hc _ v ?_
      simp only [cut, List.getElem?_take, List.getElem?_drop] at hv
      split at hv
      · exact hv
      · simp at hv)
     rw [hcut] at this
     simp [loadVar, hτ.isAgg hi, hag, hτ.szOf hi, this]
   · trivial
 · rename_i hag
   split
   · rename_i v hv
     rw [nth_eq] at hv
     obtain ⟨u, hu, hp⟩ := h.2 off v hv
     refine ⟨u, ?_, vd_of_vd1 hp⟩
     simp [loadVar, hτ.isAgg hi, hag, hc off u hu]
   · trivial
theorem vd1_of_cd {t : Tag} {x : SV} {u : Value} (h : cd1 w (E.F w t) x u) (hx : ∀ t' r, x = .row t' r → t' = t) : vd1 E rw' w x u := by
 cases x with
 | row t' r => obtain rfl := hx t' r rfl; exact RowD.up h
 | int k n => exact h
 | bool b => exact h
 | lit b => exact h
 | str s => exact h
 | _ => exact h.elim
theorem cd1.up {w : World} {F : Nat → Prop} {x : SV} {u : Value} (h : cd1 w F x u) : cd2 w F x u := by
 cases x <;> first
  | exact h
  | exact RowD.up h
theorem vd1_of_cd2 {t : Tag} {x : SV} {u : Value} (h : cd2 w (E.F w t) x u) (hx : ∀ t' r, x = .row t' r → t' = t) : vd1 E rw' w x u := by
 cases x with
 | row t' r => obtain rfl := hx t' r rfl; exact h
 | int k n => exact h
 | bool b => exact h
 | lit b => exact h
 | str s => exact h
 | _ => exact h.elim
theorem retag_get (t : Tag) : ∀ (cs : List SV) (j : Nat) (x : SV), (retag t cs)[j]? = some x → ∃ y, cs[j]? = some y ∧ (∀ t' r, x = .row t' r → t' = t) ∧ ∀ (w : World) (F : Nat → Prop) (u : Value), cd2 w F y u → cd2 w F x u
 | [], j, x, h => by simp [retag] at h
 | c :: cs, j, x, h => by
   cases j with
   | zero =>
     refine ⟨c, by simp, ?_⟩
     cases c <;> simp [retag] at h <;> subst h <;> refine ⟨fun t' r e => ?_, fun _ _ _ h => h⟩ <;> injection e <;> simp_all
   | succ j =>
     have : (retag t (c :: cs))[j + 1]? = (retag t cs)[j]? := by cases c <;> simp [retag]
     rw [this] at h
     simpa using retag_get t cs j x h
theorem cell_retag (t : Tag) (r : Rw) (i j : Nat) (x : SV) (h : (r.cell t i)[j]? = some x) : ∀ t' r', x = .row t' r' → t' = t := by
 intro t' r' e
 subst e
 have hm := List.mem_of_getElem? h
 cases r <;> simp [Rw.cell, GItem.cells, GPeer.cells, GTold.cells, GCut.cells, GMsg.cells, GNode.cells, GAct.cells] at hm <;> first
  | exact hm.1
  | (rcases hm with h | h | h | h <;> exact h.1)
theorem OwnD.elem {k lo : Nat} {r : Rw} (h : OwnD τ E w k lo r) {g n c : Nat} (hh : E.hs k = .slice (some ⟨g, 0, none⟩) n c) {i : Nat} (hi : i < r.len) {t : Tag} (ht : t = .new → i < lo) (ht' : t ≠ .old) :
  ∃ us : List Value, L0 (vd1 E rw' w) (r.cell t i) us ∧ ∀ (j : Nat) u, us[j]? = some u → w.cell? ((⟨g, i * r.sz, none⟩ : Addr).add j) = some u := by
 obtain ⟨us, hrow, hcell⟩ := h.row
 obtain ⟨vs, hl, hvs⟩ := exists_list (p := fun j x u => us[i * r.sz + j]? = some u ∧ vd1 E rw' w x u) (r.cell t i) fun j x hx => by
  obtain ⟨y, hy, hxy⟩ := cell_tag t .any r i j x hx
  obtain ⟨u, hu, hd⟩ := hcell i j y hi hy
  refine ⟨u, hu, vd1_of_cd (t := t) ?_ (cell_retag t r i j x hx)⟩
  rw [hxy]
  cases t with
  | old => exact absurd rfl ht'
  | new => rw [if_pos (ht rfl)] at hd; exact hd
  | any => exact cd1.any hd
 refine ⟨vs, ⟨hl, fun j x hx => ?_⟩, fun j u hu => ?_⟩
 · obtain ⟨u, hu, _, hd⟩ := hvs j x hx
   exact ⟨u, hu, hd⟩
 · have hj : j < (r.cell t i).length := by rw [hl]; exact (List.getElem?_eq_some_iff.1 hu).1
   obtain ⟨u', hu', hus, _⟩ := hvs j _ (List.getElem?_eq_getElem hj)
   rw [hu] at hu'
   injection hu' with hu'
   subst hu'
   have := hrow.cells (g := g) (by rw [hh]; rfl) _ _ hus
   rw [Addr.add_lit] at this ⊢
   simpa using this
theorem load_ok (hτ : TysOk P τ) (hd : Den τ w0 E ⟨fr, stk, bx, rw', dep⟩ aS w) (T : TypeId) {x : SV} {p : Value} (hx : vd3 E rw' w x p) :
  (evLoad τ ⟨fr, stk, bx, rw', dep⟩ T x).good fun z => Gives (P := P) w (Instr.loadAt T p) z E rw' := by
 by_cases hti : ¬ ∃ i, τ.ti T = some i
 · have : ∀ cs off, part' τ T cs off = .bad := by
    intro cs off
    unfold part'
    cases h : τ.ti T with
    | none => rfl
    | some i => exact absurd ⟨i, h⟩ hti
   unfold evLoad
   split
   · split
     · rw [this]; trivial
     · trivial
   · rw [forceL_eq, this]; trivial
   · split
     · rw [this]; trivial
     · rw [this]; trivial
     · trivial
   · trivial
 obtain ⟨i, hi⟩ := Classical.not_not.1 hti
 unfold evLoad
 split
 · rename_i k off
   obtain rfl : p = _ := hx
   split
   · rename_i T' cs hk
     obtain ⟨_, us, hheap, hcs⟩ := hd.box k T' cs hk
     have := loadVar_run hτ hi ⟨E.bs k, 0, none⟩ rfl cs us off hcs fun j u hu => by
      rw [Addr.add_lit, cell_of_row w _ _ _ _ _ hheap]
      simpa using hu
     simpa [Instr.loadAt, Instr.sureAddr, Addr.add_lit, Gives] using this
   · trivial
 · rename_i t cs
   obtain ⟨ad, rfl, hs, hlt, hF, hc⟩ := hx
   rw [forceL_eq]
   obtain ⟨us, hl, hus⟩ := exists_list (p := fun j x u => w.cell? (ad.add j) = some u ∧ vd1 E rw' w x u) (retag t cs) fun j x hx => by
    obtain ⟨y, hy, h1, h2⟩ := retag_get t cs j x hx
    obtain ⟨u, hu, hd⟩ := hc j y hy
    exact ⟨u, hu, vd1_of_cd2 (h2 _ _ _ hd) h1⟩
   have := loadVar_run (P := P) (E := E) (rw' := rw') hτ hi ad hs (retag t cs) us 0 ⟨hl, fun j x hx => let ⟨u, hu, _, hd⟩ := hus j x hx; ⟨u, hu, hd⟩⟩ fun j u hu => by
    have hj : j < (retag t cs).length := by rw [hl]; exact (List.getElem?_eq_some_iff.1 hu).1
    obtain ⟨u', hu', hc', _⟩ := hus j _ (List.getElem?_eq_getElem hj)
    rw [hu] at hu'
    injection hu' with hu'
    subst hu'
    exact hc'
   simpa [Instr.loadAt, Instr.sureAddr, Gives, Addr.add_zero'] using this
 · rename_i k j off
   simp only [vd3, vd2, vd1, vd0] at hx
   split
   · rename_i r hk
     rw [hk] at hx
     obtain ⟨g, n, c, hh, h0, h1, rfl⟩ := hx
     have hO := hd.own k _ _ _ hk rfl
     obtain ⟨us, hcs, hcell⟩ := hO.elem (rw' := rw') hh (i := j.toNat) (by omega) (t := .new) (fun _ => by omega) (by simp)
     have := loadVar_run (P := P) hτ hi ⟨g, j.toNat * r.sz, none⟩ rfl _ us off hcs hcell
     simpa [Instr.loadAt, Instr.sureAddr, Addr.add_lit, Gives] using this
   · rename_i lo r hk
     rw [hk] at hx
     obtain ⟨g, n, c, hh, h0, h1, rfl⟩ := hx
     have hO := hd.own k _ _ _ hk rfl
     obtain ⟨us, hcs, hcell⟩ := hO.elem (rw' := rw') hh (i := j.toNat) (by omega) (t := .any) (fun h => by simp at h) (by simp)
     have := loadVar_run (P := P) hτ hi ⟨g, j.toNat * r.sz, none⟩ rfl _ us off hcs hcell
     simpa [Instr.loadAt, Instr.sureAddr, Addr.add_lit, Gives] using this
   · trivial
 · trivial
end
end Go.Proofs.YtjjpakdlkjaigaaGreat

/- A symbolic executor for loaded Go code: each step is the machine's: boxes, literals, stores, addresses. -/
namespace Go.Proofs.YtjjpakdlkjaigaaGreat
open Go.RowKit
section
variable {P : Program} {τ : Tys} {w0 : World} {E : Env} {aS : List (Array Value)} {a : Act} {w : World}
variable {s : St} {bs : List (Array Value)} {o : Oper}
variable {fr : List (Nat × SV)} {stk : List (List (Nat × SV))} {bx : List (Nat × (TypeId × List SV))} {rw' : List (Nat × Ent)} {dep : Nat}
theorem loadOp_ok (hτ : TysOk P τ) (hd : Den τ w0 E ⟨fr, stk, bx, rw', dep⟩ (a.tmps :: aS) w) (T : TypeId) (x : Operand) (ho : o.op = .load T x) :
  (evLoad τ ⟨fr, stk, bx, rw', dep⟩ T (St.get ⟨fr, stk, bx, rw', dep⟩ x)).good (Yld P o a w E rw') :=
 RV.ok_of (c := Instr.loadAt T (a.eval x)) (fun z hz => by simp only [execOp, ho, Sem.run_bind, hz]; rfl) (load_ok hτ hd T (hd.get x))
theorem load_good (hτ : TysOk P τ) (hd : Den τ w0 E ⟨fr, stk, bx, rw', dep⟩ (a.tmps :: aS) w) (hdst : ∀ t, o.dst = some t → t < a.tmps.size) (T : TypeId) (x : Operand) (ho : o.op = .load T x) :
  ((evLoad τ ⟨fr, stk, bx, rw', dep⟩ T (St.get ⟨fr, stk, bx, rw', dep⟩ x)).to o.dst ⟨fr, stk, bx, rw', dep⟩).good (OpGood P τ w0 E aS o a w) :=
 RV.to_good' hd hdst (loadOp_ok hτ hd T x ho)
theorem vd1_of_vd3 {x : SV} {v : Value} (h : vd3 E rw' w x v) (h1 : ∀ cs, x ≠ .agg cs) (h2 : ∀ vs, x ≠ .tup vs) : vd1 E rw' w x v := by
 cases x <;> first | exact h | exact absurd rfl (h1 _) | exact absurd rfl (h2 _)
theorem cells_one {x : SV} (h1 : ∀ cs, x ≠ .agg cs) : x.cells = [x] := by cases x <;> first | rfl | exact absurd rfl (h1 _)
theorem cells_vd {x : SV} {v : Value} (hR : ∀ k e m, lk rw' k = some e → e.mine = some m → (E.hs k).oneCell' = true) (h : vd3 E rw' w x v) (ho : allOne rw' x.cells = true) : L0 (vd1 E rw' w) x.cells v.cells.toList := by
 by_cases ha : ∃ cs, x = .agg cs
 · obtain ⟨cs, rfl⟩ := ha
   obtain ⟨us, rfl, hu⟩ := h
   simpa [SV.cells, Value.cells] using hu
 · have h1 : ∀ cs, x ≠ .agg cs := fun cs e => ha ⟨cs, e⟩
   rw [cells_one h1] at ho ⊢
   have ho1 : oneOk rw' x = true := allOne_mem ho (List.mem_singleton.2 rfl)
   have h2 : ∀ vs, x ≠ .tup vs := fun vs e => by subst e; simp [oneOk] at ho1
   have hv1 := vd1_of_vd3 h h1 h2
   have hv := vd1_one hR hv1 ho1
   have : v.cells = #[v] := by cases v <;> first | rfl | simp [Value.oneCell'] at hv
   rw [this]
   exact .cons hv1 .nil
theorem aggLen (hτ : TysOk P τ) {T : TypeId} {i : TI} (hi : τ.ti T = some i) : ∃ x z, P.info? T = some x ∧ x.size = τ.sz T ∧ x.bytes = i.bytes ∧ x.zero = some z ∧ z.cells.size = τ.sz T ∧ ∀ E R w, L0 (vd0 E R w) i.zero z.cells.toList := by
 obtain ⟨x, z, h1, h2, h3, h4, h5, h6⟩ := (hτ.ti T i hi).info
 have : τ.sz T = i.sz := by simp [Tys.sz, hi]
 exact ⟨x, z, h1, by rw [this]; exact h2, h3, h4, by rw [this]; exact h5, h6⟩
theorem L0.up {cs : List SV} {us : List Value} (h : L0 (vd0 E rw' w) cs us) : L0 (vd1 E rw' w) cs us :=
 h.mono fun x u _ hp => by cases x <;> first | exact hp | exact hp.elim
theorem put_ptr (d : Tmp) {E' : Env} {w' : World} {bx' : List (Nat × (TypeId × List SV))} {R' : List (Nat × Ent)} {x : SV} {v : Value} (hd : Den τ w0 E' ⟨fr, stk, bx', R', dep⟩ (a.tmps :: aS) w') (hx : vd3 E' R' w' x v) (hdst : d < a.tmps.size) :
  Den τ w0 E' ⟨(d, x) :: fr, stk, bx', R', dep⟩ ((a.put (some d) v).tmps :: aS) w' := hd.put (d := some d) hx (fun t e => by injection e with e; subst e; exact hdst)
theorem ownsRow_alloc (M : Nat) (e : TypeId) (size n : Nat) (cur : Array Value) (hM : M ≤ w.heap.size) (hn : n ≤ maxLen) (hs : cur.size = n * size) :
  (w.alloc (.cells cur e)).ownsRow M e size (.slice (some ⟨w.heap.size, 0, none⟩) n n) n cur.toList := by
 refine ⟨by simpa using hs, .inr ⟨w.heap.size, n, cur, rfl, hM, heap_alloc_new w _, Nat.le_refl _, hn, hs, ?_⟩⟩
 rw [← hs]
 exact List.take_of_length_le (by simp)
theorem falses_cells : ∀ {cs : List SV} {us : List Value} {n : Nat}, falses cs n = true → L0 (vd0 E rw' w) cs us → us = List.replicate n (.bool false)
 | [], us, 0, _, h => by cases us with
   | nil => rfl
   | cons u us => exact absurd h.1 (by simp)
 | [], _, _ + 1, h, _ => by simp [falses] at h
 | x :: cs, us, 0, h, _ => by cases x <;> simp [falses] at h
 | x :: cs, us, n + 1, h, hl => by
   obtain ⟨u, us', rfl, h1, h2⟩ := hl.inv_cons
   cases x with
   | bool b => cases b with
     | false =>
       obtain rfl : u = .bool false := h1
       rw [List.replicate_succ, falses_cells (n := n) (by simpa [falses] using h) h2]
     | true => simp [falses] at h
   | _ => simp [falses] at h
theorem arrB_inv {T : TypeId} {i : TI} {n : Nat} (h : arrB τ T i = some n) : T = τ.et 11 ∧ falses i.zero n = true ∧ 0 < n ∧ n < 16777216 := by
 unfold arrB at h
 split at h
 · split at h
   · rename_i hT
     split at h
     · rename_i h1 h2 h3
       simp at h
       subst h
       exact ⟨Nat.eq_of_beq_eq_true hT, h1, by simpa [Nat.blt, Nat.succ_le_iff] using h2, Nat.lt_of_succ_le (Nat.le_of_ble_eq_true h3)⟩
     · simp at h
   · simp at h
 · simp at h
theorem alloc_good (hτ : TysOk P τ) (hd : Den τ w0 E ⟨fr, stk, bx, rw', dep⟩ (a.tmps :: aS) w) (hdst : ∀ t, o.dst = some t → t < a.tmps.size) (T : TypeId) (ho : o.op = .alloc T) :
  (stepAlloc τ T o.dst ⟨fr, stk, bx, rw', dep⟩).good (OpGood P τ w0 E aS o a w) := by
 unfold stepAlloc
 dsimp only
 split
 · rename_i d i hdd hi
   split
   · rename_i n hn
     split
     · rename_i hno
       obtain ⟨x, z, h1, h2, h3, h4, h5, h6⟩ := aggLen hτ hi
       obtain ⟨hT, hfl, hn0, hn1⟩ := arrB_inv hn
       have hfz := falses_cells hfl (h6 E rw' w)
       have hzn : z.cells.size = n := by simpa using congrArg List.length hfz
       have hv : ∀ g, (Value.slice (some ⟨w.heap.size, 0, none⟩) n n).ownBlock = some g → w.heap.size ≤ g ∧ g < (w.alloc (.cells z.cells T)).heap.size := by
        intro g hg
        simp [Value.ownBlock] at hg
        subst hg
        simp
       have hd2 := hd.newRow (dep + d) hno (w.alloc (.cells z.cells T)) (World.grownBy_alloc w _ none) (.slice (some ⟨w.heap.size, 0, none⟩) n n) (.own (.bools (List.replicate n false))) n (.bools (List.replicate n false)) (by simp [Ent.mine, Rw.len]) z.cells.toList hv
        (by simp [Rw.len, Rw.bts, Rw.kd, kdBytes]; omega)
        (by simp only [Rw.kd, Rw.sz, kdSz, Rw.len, List.length_replicate]; rw [← hT]; exact ownsRow_alloc _ _ _ _ _ hd.Mh (by unfold maxLen; omega) (by omega))
        (fun i j x hi hx => by
          simp only [Rw.len, List.length_replicate] at hi
          have hj : j = 0 := by
           have := (List.getElem?_eq_some_iff.1 hx).1
           simp [Rw.cell] at this
           omega
          subst hj
          simp [Rw.cell, List.getD_eq_getElem?_getD, hi] at hx
          subst hx
          refine ⟨.bool false, ?_, rfl⟩
          rw [hfz]
          simp [Rw.sz, Rw.kd, kdSz, hi])
       refine opGood_value (v := .pointer (some ⟨w.heap.size, 0, none⟩)) (E' := E.add (dep + d) (.slice (some ⟨w.heap.size, 0, none⟩) n n)) (w' := w.alloc (.cells z.cells T)) ?_ ?_ rfl rfl
       · simp [execOp, ho, Instr.alloc, zeroValue, typeInfo, h1, h4, newVar, newRow]
       · rw [hdd]
         refine put_ptr d hd2 ?_ (hdst d hdd)
         simp only [vd3, vd2, vd1, vd0, lk_upd, if_true]
         exact ⟨w.heap.size, n, n, by simp [Env.add], by omega, by simp [Rw.len]; omega, by simp⟩
     · trivial
   split
   · rename_i hno
     rw [forceL_eq, forceB_eq]
     obtain ⟨x, z, h1, h2, h3, h4, h5, h6⟩ := aggLen hτ hi
     obtain ⟨E', hb, hM, hbk, hd'⟩ := hd.newBox (dep + d) hno T i.zero z.cells.toList (fun E' _ _ _ _ => (h6 _ _ _).up)
     refine opGood_value (v := .pointer (some ⟨w.heap.size, 0, none⟩)) (w' := w.alloc (.cells z.cells T)) ?_ ?_ hb hM
     · simp [execOp, ho, Instr.alloc, zeroValue, typeInfo, h1, h4, newVar, newRow]
     · rw [hdd]
       exact put_ptr d hd' (by simp only [vd3, vd2, vd1, vd0, hbk]) (hdst d hdd)
   · trivial
 · trivial
theorem box_good (hτ : TysOk P τ) (hd : Den τ w0 E ⟨fr, stk, bx, rw', dep⟩ (a.tmps :: aS) w) (hdst : ∀ t, o.dst = some t → t < a.tmps.size) (T : TypeId) (x : Operand) (ho : o.op = .box T x) :
  (stepBox τ T x o.dst ⟨fr, stk, bx, rw', dep⟩).good (OpGood P τ w0 E aS o a w) := by
 unfold stepBox
 dsimp only
 split
 · rename_i d hdd
   split
   · rename_i hno
     simp only [SV.force_eq, forceL_eq]
     split
     · rename_i hall
       rw [forceB_eq]
       have hx := hd.getT T x
       have hc := cells_vd hd.hs_one hx hall
       have hno' : ∀ y, y ∈ (getT τ ⟨fr, stk, bx, rw', dep⟩ T x).cells → deep1 (box0 (dep + d)) y = true → False := by
        intro y hy hp
        have hg : deep3 (box0 (dep + d)) (getT τ ⟨fr, stk, bx, rw', dep⟩ T x) = true := by
         generalize getT τ ⟨fr, stk, bx, rw', dep⟩ T x = g at hy hall
         by_cases ha : ∃ cs, g = .agg cs
         · obtain ⟨cs, rfl⟩ := ha
           exact anyL_of_mem (p := deep1 (box0 (dep + d))) hy hp
         · rw [cells_one (fun cs e => ha ⟨cs, e⟩)] at hy hall
           obtain rfl := List.mem_singleton.1 hy
           have ho1 : oneOk rw' y = true := allOne_mem hall (List.mem_singleton.2 rfl)
           cases y <;> first | exact hp | (simp [oneOk] at ho1; done) | exact absurd ⟨_, rfl⟩ ha
        have : ∀ y, deep3 (box0 (dep + d)) (St.get ⟨fr, stk, bx, rw', dep⟩ y) = true → False := by
         intro y hy
         cases y with
         | tmp t =>
           have hy : deep3 (box0 (dep + d)) (lkv fr t) = true := by
            have hy : deep3 (box0 (dep + d)) (lkv fr t).cook = true := hy
            generalize lkv fr t = z at hy ⊢
            cases z <;> first | exact hy | (simp [SV.cook, deep3, deep2, deep1, box0] at hy; done)
           have := has_fr (s := ⟨fr, stk, bx, rw', dep⟩) (p := box0 (dep + d)) rfl (i := 0) (f := fr) rfl hy; rw [hno] at this; exact absurd this (by simp)
         | const v => cases v <;> simp [St.get, SV.ofVal, deep3, deep2, deep1, box0] at hy
         | func f => simp [St.get, deep3, deep2, deep1, anyL] at hy
         | global g => simp [St.get, deep3, deep2, deep1, box0] at hy
        unfold getT at hg
        split at hg
        · split at hg
          · simp [deep3, deep2, deep1, box0] at hg
          · simp [deep3, deep2, deep1, box0] at hg
        · exact this _ hg
       obtain ⟨E', hb, hM, hbk, hd'⟩ := hd.newBox (dep + d) hno T _ (a.eval x).cells.toList (fun E' h1 h2 h3 h4 => by
        have hk : Keeps E E' w (w.alloc (.cells (a.eval x).cells.toList.toArray T)) := ⟨h2, by simp, fun g _ hg => Below.heap_alloc w _ g hg, h4⟩
        refine hc.mono fun y u hy hp => vd1.keeps hk (fun j hj => ⟨by rw [h1], entLike.refl _ _ _ _⟩) (fun j hj => h3 j ?_) hp
        rintro rfl
        exact hno' y hy hj)
       refine opGood_value (v := .pointer (some ⟨w.heap.size, 0, none⟩)) (w' := w.alloc (.cells (a.eval x).cells T)) ?_ ?_ hb hM
       · simp [execOp, ho, Instr.box, newVar, newRow]
       · rw [hdd]
         simp only [Array.toArray_toList] at hd'
         exact put_ptr d hd' (by simp only [vd3, vd2, vd1, vd0, hbk]) (hdst d hdd)
     · trivial
   · trivial
 · trivial
theorem check_ok (hd : Den τ w0 E ⟨fr, stk, bx, rw', dep⟩ (a.tmps :: aS) w) (x : Operand) (ho : o.op = .nilCheck x) :
  (evCheck ⟨fr, stk, bx, rw', dep⟩ (St.get ⟨fr, stk, bx, rw', dep⟩ x)).good (Yld P o a w E rw') := by
 have hx := hd.get x
 have hp : ∀ p, a.eval x = .pointer (some p) → (execOp a.eval o).run P w = .ok (.value (a.eval x)) w := fun p hp => by simp [execOp, ho, hp]
 unfold evCheck
 split
 · rename_i h; rw [h] at hx; exact ⟨_, hp _ hx, hx⟩
 · rename_i h; rw [h] at hx; exact ⟨_, hp _ hx.choose_spec.1, hx⟩
 · rename_i k i off h
   split
   · rename_i r hk
     rw [h] at hx
     have hx' := hx
     simp only [vd3, vd2, vd1, vd0] at hx
     rw [hk] at hx
     obtain ⟨g, n, c, _, _, _, hv⟩ := hx
     exact ⟨_, hp _ hv, hx'⟩
   · rename_i lo r hk
     rw [h] at hx
     have hx' := hx
     simp only [vd3, vd2, vd1, vd0] at hx
     rw [hk] at hx
     obtain ⟨g, n, c, _, _, _, hv⟩ := hx
     exact ⟨_, hp _ hv, hx'⟩
   · trivial
 · rename_i h
   rw [h] at hx
   have hx' := hx
   obtain ⟨us, vs, hv, _⟩ := hx
   exact ⟨_, by simp [execOp, ho, hv], hx'⟩
 · trivial
theorem check_good (hd : Den τ w0 E ⟨fr, stk, bx, rw', dep⟩ (a.tmps :: aS) w) (hdst : ∀ t, o.dst = some t → t < a.tmps.size) (x : Operand) (ho : o.op = .nilCheck x) :
  ((evCheck ⟨fr, stk, bx, rw', dep⟩ (St.get ⟨fr, stk, bx, rw', dep⟩ x)).to o.dst ⟨fr, stk, bx, rw', dep⟩).good (OpGood P τ w0 E aS o a w) :=
 RV.to_good' hd hdst (check_ok hd x ho)
theorem field_ok (hτ : TysOk P τ) (hd : Den τ w0 E ⟨fr, stk, bx, rw', dep⟩ (a.tmps :: aS) w) (S : TypeId) (x : Operand) (j : Nat) (ho : o.op = .field S x j) :
  (evPart τ S j (St.get ⟨fr, stk, bx, rw', dep⟩ x)).good (Yld P o a w E rw') := by
 have hx := hd.get x
 refine RV.ok_of (c := Instr.field S (a.eval x) j) (fun z hz => by simp only [execOp, ho, Sem.run_bind, hz]; rfl) ?_
 unfold evPart
 split
 · rename_i fs cs htd hcs
   rw [hcs] at hx
   obtain ⟨us, hv, hu⟩ := hx
   split
   · rename_i off F hj
     obtain ⟨d, hdd, fa, rfl, hfa⟩ := hτ.td htd (by simp)
     have hj' := hfa j
     rw [hj] at hj'
     obtain ⟨f, hf, hfe⟩ := Option.map_eq_some_iff.1 hj'.symm
     simp only [Prod.mk.injEq] at hfe
     have := part_ok (P := P) hτ F cs us off hu
     rw [hv]
     simpa [Instr.field, run_underlying hdd, hf, hfe.1, hfe.2, asAgg, Gives] using this
   · trivial
 · trivial
theorem field_good (hτ : TysOk P τ) (hd : Den τ w0 E ⟨fr, stk, bx, rw', dep⟩ (a.tmps :: aS) w) (hdst : ∀ t, o.dst = some t → t < a.tmps.size) (S : TypeId) (x : Operand) (j : Nat) (ho : o.op = .field S x j) :
  ((evPart τ S j (St.get ⟨fr, stk, bx, rw', dep⟩ x)).to o.dst ⟨fr, stk, bx, rw', dep⟩).good (OpGood P τ w0 E aS o a w) :=
 RV.to_good' hd hdst (field_ok hτ hd S x j ho)
theorem fieldAddr_ok (hτ : TysOk P τ) (hd : Den τ w0 E ⟨fr, stk, bx, rw', dep⟩ (a.tmps :: aS) w) (S : TypeId) (x : Operand) (j : Nat) (ho : o.op = .fieldAddr S x j) :
  (evField τ ⟨fr, stk, bx, rw', dep⟩ S j (St.get ⟨fr, stk, bx, rw', dep⟩ x)).good (Yld P o a w E rw') := by
 have hx := hd.get x
 refine RV.ok_of (c := Instr.fieldAt S (a.eval x) j) (fun z hz => by simp only [execOp, ho, Sem.run_bind, hz]; rfl) ?_
 unfold evField
 split
 · rename_i fs htd
   split
   · rename_i off F hj
     obtain ⟨d, hdd, fa, rfl, hfa⟩ := hτ.td htd (by simp)
     have hj' := hfa j
     rw [hj] at hj'
     obtain ⟨f, hf, hfe⟩ := Option.map_eq_some_iff.1 hj'.symm
     simp only [Prod.mk.injEq] at hfe
     split
     · trivial
     · rename_i hz
       have hti : ∃ i, τ.ti F = some i := by
        cases h : τ.ti F with
        | none => simp [Tys.sz, h] at hz
        | some i => exact ⟨i, rfl⟩
       obtain ⟨i, hi⟩ := hti
       have hrun : ∀ ad : Addr, (Instr.fieldAt S (.pointer (some ad)) j).run P w = .ok (.pointer (some (ad.add off))) w := by
        intro ad
        have hne : τ.sz F ≠ 0 := fun e => by rw [e] at hz; simp at hz
        simp [Instr.fieldAt, run_underlying hdd, hf, Instr.sureAddr, fieldPlace, hfe.1, hfe.2, hτ.szOf hi, hne]
       split
       · rename_i h
         rw [h] at hx
         obtain hx : a.eval x = _ := hx
         exact ⟨_, by rw [hx]; exact hrun _, by simp only [vd3, vd2, vd1, vd0, Addr.add_lit]⟩
       · rename_i h
         rw [h] at hx
         obtain ⟨ad, hv, hs, hlt, hF, hc⟩ := hx
         rw [forceL_eq]
         refine ⟨_, by rw [hv]; exact hrun _, ad.add off, rfl, ?_, ?_, ?_, fun i x hx => ?_⟩
         · unfold Addr.add; split <;> simp [hs]
         · rw [show (ad.add off).block = ad.block by unfold Addr.add; split <;> rfl]; exact hlt
         · rw [show (ad.add off).block = ad.block by unfold Addr.add; split <;> rfl]; exact hF
         · rw [add_add hs]
           refine hc _ x ?_
           unfold cut at hx
           rw [List.getElem?_take] at hx
           split at hx
           · rw [List.getElem?_drop] at hx
             exact hx
           · simp at hx
       · rename_i k i' off' h
         rw [h] at hx
         simp only [vd3, vd2, vd1, vd0] at hx
         split
         · rename_i r hk
           rw [hk] at hx
           obtain ⟨g, n, c, hh, h0, h1, hv⟩ := hx
           refine ⟨_, by rw [hv]; exact hrun _, ?_⟩
           simp only [vd3, vd2, vd1, vd0]
           rw [hk]
           exact ⟨g, n, c, hh, h0, h1, by simp only [Addr.add_lit, Nat.add_assoc]⟩
         · rename_i lo r hk
           rw [hk] at hx
           obtain ⟨g, n, c, hh, h0, h1, hv⟩ := hx
           refine ⟨_, by rw [hv]; exact hrun _, ?_⟩
           simp only [vd3, vd2, vd1, vd0]
           rw [hk]
           exact ⟨g, n, c, hh, h0, h1, by simp only [Addr.add_lit, Nat.add_assoc]⟩
         · trivial
       · trivial
   · trivial
 · trivial
theorem fieldAddr_good (hτ : TysOk P τ) (hd : Den τ w0 E ⟨fr, stk, bx, rw', dep⟩ (a.tmps :: aS) w) (hdst : ∀ t, o.dst = some t → t < a.tmps.size) (S : TypeId) (x : Operand) (j : Nat) (ho : o.op = .fieldAddr S x j) :
  ((evField τ ⟨fr, stk, bx, rw', dep⟩ S j (St.get ⟨fr, stk, bx, rw', dep⟩ x)).to o.dst ⟨fr, stk, bx, rw', dep⟩).good (OpGood P τ w0 E aS o a w) :=
 RV.to_good' hd hdst (fieldAddr_ok hτ hd S x j ho)
end
end Go.Proofs.YtjjpakdlkjaigaaGreat

/- A symbolic executor for loaded Go code: each step is the machine's: literals. -/
namespace Go.Proofs.YtjjpakdlkjaigaaGreat
open Go.RowKit
section
variable {P : Program} {τ : Tys} {w0 : World} {E : Env} {aS : List (Array Value)} {a : Act} {w : World}
variable {s : St} {bs : List (Array Value)} {o : Oper}
variable {fr : List (Nat × SV)} {stk : List (List (Nat × SV))} {bx : List (Nat × (TypeId × List SV))} {rw' : List (Nat × Ent)} {dep : Nat}
theorem fold_splice (off : Nat) : ∀ (vs : List Value) (k : Nat) (cs : Array Value), off + k + vs.length ≤ cs.size →
  ((vs.zipIdx k).foldl (fun (cs : Array Value) (p : Value × Nat) => cs.setIfInBounds (off + p.2) p.1) cs).toList = cs.toList.take (off + k) ++ vs ++ cs.toList.drop (off + k + vs.length)
 | [], k, cs, _ => by simp
 | v :: vs, k, cs, h => by
   simp only [List.length_cons] at h
   have hlt : off + k < cs.toList.length := by simp; omega
   rw [List.zipIdx_cons, List.foldl_cons, fold_splice off vs (k + 1) _ (by simp; omega)]
   simp only [Array.toList_setIfInBounds, List.length_cons]
   rw [show off + (k + 1) = off + k + 1 by omega, List.take_set, List.drop_set_of_lt (by omega), List.take_succ_eq_append_getElem hlt,
    List.set_append_right _ _ (by simp; omega)]
   simp only [List.length_take, Nat.min_eq_left (Nat.le_of_lt hlt), Nat.sub_self, List.set_cons_zero]
   simp [show off + k + (vs.length + 1) = off + k + 1 + vs.length by omega]
theorem fill_one (off : Nat) (v cs : Array Value) (h : off + v.size ≤ cs.size) : (v.zipIdx.foldl (fun (cs : Array Value) (p : Value × Nat) => cs.setIfInBounds (off + p.2) p.1) cs).toList = cs.toList.take off ++ v.toList ++ cs.toList.drop (off + v.size) := by
 have := fold_splice off v.toList 0 cs (by simpa using h)
 simp only [Nat.add_zero, Array.length_toList] at this
 rw [← this, ← Array.foldl_toList, Array.toList_zipIdx]
theorem lay_ok (hτ : TysOk P τ) (hd : Den τ w0 E s (a.tmps :: aS) w) (place : Nat → Option (Nat × TypeId)) (pl : Nat → Option (Nat × Nat)) (hpl : ∀ i off T i', place i = some (off, T) → τ.ti T = some i' → pl i = some (off, τ.sz T))
  {α : Type} {bad : α} {K : List SV → α} {G : α → Prop} (hbad : G bad) : ∀ (parts : List (Nat × Operand)) (cs : List SV) (cells : Array Value), L0 (vd1 E s.rows w) cs cells.toList →
  (∀ cs' (cells' : Array Value), cs'.length = cs.length → L0 (vd1 E s.rows w) cs' cells'.toList → Instr.fill pl cells (parts.map fun x => (x.1, a.eval x.2)) = some cells' → G (K cs')) → G (lay bad τ s place parts cs K)
 | [], cs, cells, hc, hK => hK cs cells rfl hc rfl
 | (i, x) :: parts, cs, cells, hc, hK => by
   unfold lay
   split
   · rename_i off T hp
     rw [SV.force_eq]
     split
     · rename_i i' h1 h2 h3 h4
       rw [forceL_eq]
       have hx := cells_vd hd.hs_one (hd.getT T x) h3
       have hlen : (getT τ s T x).cells.length = τ.sz T := Nat.eq_of_beq_eq_true h1
       have hle : off + τ.sz T ≤ cs.length := Nat.le_of_ble_eq_true h2
       have hsz : (a.eval x).cells.size = τ.sz T := by have := hx.1; rw [hlen] at this; simpa using this.symm
       have hcl : cs.length = cells.size := by simpa using hc.1
       have hnew := hc.setRange hx off (by rw [hlen]; exact hle)
       rw [show (a.eval x).cells.toList.length = (a.eval x).cells.size by simp, ← fill_one off (a.eval x).cells cells (by omega)] at hnew
       refine lay_ok hτ hd place pl hpl hbad parts _ _ hnew fun cs' cells' hl' hc' hf => hK cs' cells' (hl'.trans (setRange_length _ _ _ (by rw [hlen]; exact hle))) hc' ?_
       simp only [List.map_cons, Instr.fill, hpl i off T i' hp h4]
       rw [if_neg (by simp; omega)]
       exact hf
     · exact hbad
   · exact hbad
theorem mapM_places {l : List Field} (h : ∀ f, f ∈ l → ∃ i, τ.ti f.type = some i) (hτ : TysOk P τ) : l.mapM (fun f => (P.info? f.type).map fun i => (f.offset, i.size)) = some (l.map fun f => (f.offset, τ.sz f.type)) := by
 induction l with
 | nil => rfl
 | cons f l ih =>
   obtain ⟨i, hi⟩ := h f (by simp)
   obtain ⟨x, z, hx, hs, _⟩ := (hτ.ti _ i hi).info
   have hsz : τ.sz f.type = i.sz := by simp [Tys.sz, hi]
   simp [List.mapM_cons, hx, ih (fun g hg => h g (by simp [hg])), hs, hsz]
theorem build_ok (hτ : TysOk P τ) (hd : Den τ w0 E ⟨fr, stk, bx, rw', dep⟩ (a.tmps :: aS) w) (T : TypeId) (parts : Array (Nat × Operand)) (ho : o.op = .build T parts) :
  (evBuild τ ⟨fr, stk, bx, rw', dep⟩ T parts).good (Yld P o a w E rw') := by
 unfold evBuild
 split
 rotate_left
 · trivial
 rename_i i hi
 obtain ⟨x, z, h1, h2, h3, h4, h5, h6⟩ := aggLen hτ hi
 have hfin : ∀ cs (cells : Array Value), L0 (vd1 E rw' w) cs cells.toList → P.built T (parts.map fun (i, x) => (i, a.eval x)).toList = some cells → Yld P o a w E rw' (.agg cs) := by
  intro cs cells hc hb
  refine ⟨.agg cells, ?_, cells.toList, by simp, hc⟩
  simp only [execOp, ho, Sem.run_bind, run_build w T _ cells hb, Result.andThen_ok]
  rfl
 split
 · rename_i fs htd
   obtain ⟨d, hu, hdd⟩ := (hτ.ti T i hi).und
   rw [htd] at hdd
   obtain ⟨fa, rfl, hfa⟩ := hdd
   have hall : ∀ f, f ∈ fa.toList → ∃ i, τ.ti f.type = some i := by
    intro f hf
    obtain ⟨j, hj, rfl⟩ := List.getElem_of_mem hf
    have := hfa j
    rw [show fa[j]? = some fa.toList[j] by simp [Array.getElem?_eq_getElem (show j < fa.size by simpa using hj)]] at this
    exact (hτ.ti T i hi).flds fs htd j _ this
   refine lay_ok (s := ⟨fr, stk, bx, rw', dep⟩) hτ hd _ (fun j => (fa.toList.map fun f => (f.offset, τ.sz f.type)).toArray[j]?) ?_ (bad := RV.bad) (G := fun r : RV => r.good (Yld P o a w E rw')) trivial parts.toList i.zero z.cells (h6 _ _ _).up ?_
   · intro j off F i' hp _
     have := hfa j
     rw [hp] at this
     obtain ⟨f, hf, hfe⟩ := Option.map_eq_some_iff.1 this.symm
     simp only [Prod.mk.injEq] at hfe
     simp [hf, hfe.1, hfe.2]
   · intro cs cells _ hc hf
     refine hfin cs cells hc ?_
     simp only [Program.built, h1, hu, h4, mapM_places hall hτ]
     rw [← hf]
     simp
 · rename_i n e htd
   obtain ⟨d, hu, hdd⟩ := (hτ.ti T i hi).und
   rw [htd] at hdd
   obtain rfl : d = _ := hdd
   obtain ⟨ie, hie⟩ := (hτ.ti T i hi).elem n e htd
   obtain ⟨xe, ze, g1, g2, g3, g4, g5, g6⟩ := aggLen hτ hie
   refine lay_ok (s := ⟨fr, stk, bx, rw', dep⟩) hτ hd _ (fun j => some (j * τ.sz e, τ.sz e)) ?_ (bad := RV.bad) (G := fun r : RV => r.good (Yld P o a w E rw')) trivial parts.toList i.zero z.cells (h6 _ _ _).up ?_
   · intro j off F i' hp _
     simp only [Option.some.injEq, Prod.mk.injEq] at hp
     rw [← hp.1, ← hp.2]
   · intro cs cells _ hc hf
     refine hfin cs cells hc ?_
     simp only [Program.built, h1, hu, h4, g1, g2]
     rw [← hf]
     simp
 · trivial
theorem build_good (hτ : TysOk P τ) (hd : Den τ w0 E ⟨fr, stk, bx, rw', dep⟩ (a.tmps :: aS) w) (hdst : ∀ t, o.dst = some t → t < a.tmps.size) (T : TypeId) (parts : Array (Nat × Operand)) (ho : o.op = .build T parts) :
  ((evBuild τ ⟨fr, stk, bx, rw', dep⟩ T parts).to o.dst ⟨fr, stk, bx, rw', dep⟩).good (OpGood P τ w0 E aS o a w) :=
 RV.to_good' hd hdst (build_ok hτ hd T parts ho)
theorem Den.demoteL : ∀ (cs : List SV) {E : Env} {rw' : List (Nat × Ent)}, Den τ w0 E ⟨fr, stk, bx, rw', dep⟩ bs w → ∃ E', E'.base = E.base ∧ E'.M = E.M ∧ E'.bs = E.bs ∧ E'.hs = E.hs ∧ Keeps E E' w w ∧
  Den τ w0 E' ⟨fr, stk, bx, Go.Proofs.YtjjpakdlkjaigaaGreat.demoteL cs rw', dep⟩ bs w ∧ (∀ x u, vd1 E rw' w x u → vd1 E' (Go.Proofs.YtjjpakdlkjaigaaGreat.demoteL cs rw') w x u) ∧
  (∀ x u, vd3 E rw' w x u → vd3 E' (Go.Proofs.YtjjpakdlkjaigaaGreat.demoteL cs rw') w x u)
 | [], E, rw', h => ⟨E, rfl, rfl, rfl, rfl, Keeps.refl E w, h, fun _ _ h => h, fun _ _ h => h⟩
 | x :: cs, E, rw', h => by
   by_cases hx : ∃ k, x = .own k
   · obtain ⟨k, rfl⟩ := hx
     obtain ⟨E1, h1, h2, h3, h4, h5, h6, h7, h8⟩ := h.demote k
     obtain ⟨E2, g1, g2, g3, g4, g5, g6, g7, g8⟩ := Den.demoteL cs h8
     have hkk : Keeps E E2 w w := ⟨g2.trans h2, Nat.le_refl _, fun _ _ _ => rfl, fun g hg => by
      rcases g5.ow g hg with hg | hg
      · exact h5.ow g hg
      · exact .inr hg⟩
     refine ⟨E2, g1.trans h1, g2.trans h2, g3.trans h3, g4.trans h4, hkk, g6, fun x u hu => g7 x u ?_, fun x u hu => g8 x u ?_⟩
     · exact vd1.keeps h5 (fun j _ => ⟨by rw [h4], h7 j⟩) (fun j _ => by rw [h3]) hu
     · exact vd3.keeps h5 ⟨fun j _ => ⟨by rw [h4], h7 j⟩, fun j _ => by rw [h3]⟩ hu
   · have : Go.Proofs.YtjjpakdlkjaigaaGreat.demoteL (x :: cs) rw' = Go.Proofs.YtjjpakdlkjaigaaGreat.demoteL cs rw' := by cases x <;> first | rfl | exact absurd ⟨_, rfl⟩ hx
     rw [this]
     exact Den.demoteL cs h
theorem resS_vd {R : List (Nat × Ent)} {x : SV} {u : Value} (h : vd1 E R w x u) : vd1 E R w (resS R x) u := by
 cases x with
 | own k =>
   simp only [resS]
   simp only [vd1, vd0] at h
   split
   · rename_i t r hk; rw [hk] at h; exact h
   · trivial
 | _ => exact h
theorem resSL_vd {R : List (Nat × Ent)} {cs : List SV} {us : List Value} (h : L0 (vd1 E R w) cs us) : L0 (vd1 E R w) (resSL R cs) us := by
 induction cs generalizing us with
 | nil => exact h
 | cons x cs ih =>
   obtain ⟨u, us', rfl, h1, h2⟩ := h.inv_cons
   exact .cons (resS_vd h1) (ih h2)
theorem allNew_mem {l : List SV} (h : allNew l = true) {x : SV} (hx : x ∈ l) : tagLe .new x := by
 induction l with
 | nil => simp at hx
 | cons y l ih =>
   rcases List.mem_cons.1 hx with rfl | hx'
   · cases x <;> try trivial
     rename_i t r
     cases t <;> simp [allNew] at h
     exact .inr rfl
   · have : allNew l = true := by
      cases y with
      | row t r => cases t <;> simp [allNew] at h <;> exact h
      | own k => simp [allNew] at h
      | box k off => simp [allNew] at h
      | _ => exact h
     exact ih this hx'
theorem chunks_get {α : Type} (sz : Nat) : ∀ (n : Nat) (l : List α) (i : Nat), i < n → (chunks sz n l)[i]? = some ((l.drop (i * sz)).take sz)
 | 0, _, i, h => by omega
 | n + 1, l, 0, _ => by simp [chunks]
 | n + 1, l, i + 1, h => by
   simp only [chunks, List.getElem?_cons_succ]
   rw [chunks_get sz n _ i (by omega), List.drop_drop]
   rw [show sz + i * sz = (i + 1) * sz by rw [Nat.add_mul, Nat.one_mul, Nat.add_comm]]
theorem chunks_len {α : Type} (sz : Nat) : ∀ (n : Nat) (l : List α), (chunks sz n l).length = n
 | 0, _ => rfl
 | n + 1, l => by simp [chunks, chunks_len sz n]
theorem made_cells {k n : Nat} {cs : List SV} {us : List Value} {r : Rw} (h : mkRow k (chunks (kdSz k) n cs) = some r) (hl : L0 (vd1 E rw' w) cs us) (hn : cs.length = n * kdSz k) (t : Tag) (ht : r.flat = true ∨ ∀ x, x ∈ cs → tagLe t x) :
  ∀ i j x, i < r.len → (r.cell .any i)[j]? = some x → ∃ u, us[i * r.sz + j]? = some u ∧ cd1 w (E.F w t) x u := by
 intro i j x hi hx
 obtain ⟨hk, hlen, hfit⟩ := mkRow_fit h
 rw [chunks_len] at hlen
 have hsz : r.sz = kdSz k := by unfold Rw.sz; rw [hk]
 obtain ⟨_, hf⟩ := hfit i _ (chunks_get (kdSz k) n cs i (by omega))
 obtain ⟨y, hy, hyx⟩ := hf j x hx
 rw [List.getElem?_take] at hy
 split at hy
 · rw [List.getElem?_drop] at hy
   obtain ⟨u, hu, hd⟩ := hl.2 _ y hy
   refine ⟨u, by rw [hsz]; exact hu, ?_⟩
   rcases ht with ht | ht
   · -- a flat row's cells are plain
     have h0 : cd1 w (E.F w .any) x u := hyx.cd hd (by cases y <;> simp [tagLe])
     exact (flat_sc ht hx _ _ _ _ u).1 h0
   · exact hyx.cd hd (ht y (List.mem_of_getElem? hy))
 · simp at hy
end
end Go.Proofs.YtjjpakdlkjaigaaGreat

/- A symbolic executor for loaded Go code: each step is the machine's: slices. -/
namespace Go.Proofs.YtjjpakdlkjaigaaGreat
open Go.RowKit
section
variable {P : Program} {τ : Tys} {w0 : World} {E : Env} {aS : List (Array Value)} {a : Act} {w : World}
variable {s : St} {bs : List (Array Value)} {o : Oper}
variable {fr : List (Nat × SV)} {stk : List (List (Nat × SV))} {bx : List (Nat × (TypeId × List SV))} {rw' : List (Nat × Ent)} {dep : Nat}
theorem cd1_add {E : Env} {k : Nat} {v : Value} {w' : World} {t : Tag} {x : SV} {u : Value} (h : cd1 w (E.F w t) x u) (hw : ∀ g, ¬ E.ow g → g < w.heap.size → w'.heap[g]? = w.heap[g]?) (hv : ∀ g, v.ownBlock = some g → w.heap.size ≤ g ∨ E.ow g) : cd1 w' ((E.add k v).F w' t) x u :=
 h.mono fun g hg hlt => ⟨hw g hg.1 hlt, ⟨fun ho => by
  rcases ho with ho | ho
  · exact hg.1 ho
  · rcases hv g ho with h1 | h1
    · omega
    · exact hg.1 h1, by
    cases t with
    | old => exact hg.2
    | new => exact ⟨hg.2.1, hg.2.2.of (hw g hg.1 hlt)⟩
    | any => trivial⟩⟩
theorem kdSz_pos (k : Nat) : 0 < kdSz k := by unfold kdSz; split <;> omega
theorem flatZeros_len (z : List SV) (n : Nat) : (flatZeros z n).length = n * z.length := by
 induction n with
 | zero => simp [flatZeros]
 | succ n ih => simp [flatZeros, ih, Nat.add_mul, Nat.add_comm]
theorem flatZeros_vd {z : List SV} {zs : List Value} (h : L0 (vd1 E rw' w) z zs) (n : Nat) : L0 (vd1 E rw' w) (flatZeros z n) ((List.range (n * zs.length)).map fun i => zs.getD (i % zs.length) undef) := by
 induction n with
 | zero => simpa [flatZeros] using L0.nil
 | succ n ih =>
   have : ((List.range ((n + 1) * zs.length)).map fun i => zs.getD (i % zs.length) undef) = zs ++ (List.range (n * zs.length)).map fun i => zs.getD (i % zs.length) undef := by
    apply List.ext_getElem?
    intro j
    by_cases hj : j < zs.length
    · rw [List.getElem?_append_left hj]
      have : j < (n + 1) * zs.length := by rw [Nat.add_mul, Nat.one_mul]; omega
      simp [this, Nat.mod_eq_of_lt hj, List.getD_eq_getElem?_getD, List.getElem?_eq_getElem hj]
    · rw [List.getElem?_append_right (by omega)]
      simp only [List.getElem?_map]
      by_cases hk : j < (n + 1) * zs.length
      · rw [List.getElem?_range hk, List.getElem?_range (by rw [Nat.add_mul, Nat.one_mul] at hk; omega)]
        simp only [Option.map_some]
        rw [Nat.mod_eq_sub_mod (by omega)]
      · rw [List.getElem?_eq_none (by simp; omega), List.getElem?_eq_none (by simp; rw [Nat.add_mul, Nat.one_mul] at hk; omega)]
   rw [this]
   exact h.append ih
theorem lit_good (hτ : TysOk P τ) (hd : Den τ w0 E ⟨fr, stk, bx, rw', dep⟩ (a.tmps :: aS) w) (hdst : ∀ t, o.dst = some t → t < a.tmps.size) (T : TypeId) (n : Nat) (parts : Array (Nat × Operand)) (ho : o.op = .buildSlice T n parts) :
  (stepLit τ T n parts o.dst ⟨fr, stk, bx, rw', dep⟩).good (OpGood P τ w0 E aS o a w) := by
 unfold stepLit
 dsimp only
 split
 rotate_left
 · trivial
 rename_i e d htd hdd
 split
 rotate_left
 · trivial
 rename_i k i hrk hi hle hno
 obtain ⟨hk10, het, i', hi', hsz, hby, _⟩ := hτ.rk e k hrk
 rw [hi] at hi'
 injection hi' with hi'
 subst hi'
 obtain ⟨x, z, h1, h2, h3, h4, h5, h6⟩ := aggLen hτ hi
 have hsz' : τ.sz e = kdSz k := by rw [← hsz]; simp [Tys.sz, hi]
 have hle' : n * τ.sz e ≤ 16777216 := Nat.le_of_ble_eq_true hle
 have hpos := kdSz_pos k
 have hz1 : L0 (vd1 E rw' w) i.zero z.cells.toList := (h6 _ _ _).up
 have hzl : z.cells.toList.length = τ.sz e := by simpa using h5
 let zc : Array Value := (Array.range (n * τ.sz e)).map (z.cells[· % z.cells.size]!)
 have hzc : zc.toList = (List.range (n * z.cells.toList.length)).map fun i => z.cells.toList.getD (i % z.cells.toList.length) undef := by
  have hzp : 0 < z.cells.size := by rw [h5]; omega
  simp only [zc, Array.toList_map, Array.toList_range, hzl]
  apply List.map_congr_left
  intro j _
  have hm : j % z.cells.size < z.cells.size := Nat.mod_lt _ hzp
  rw [getElem!_pos z.cells (j % z.cells.size) hm, ← h5]
  simp [List.getD_eq_getElem?_getD, Array.getElem?_eq_getElem hm]
 refine lay_ok (s := ⟨fr, stk, bx, rw', dep⟩) hτ hd _ (fun j => some (j * τ.sz e, τ.sz e)) ?_ (bad := RS.bad) (G := fun r : RS => r.good (OpGood P τ w0 E aS o a w)) trivial parts.toList _ zc (by rw [hzc]; exact flatZeros_vd hz1 n) ?_
 · intro j off F i' hp _
   simp only [Option.some.injEq, Prod.mk.injEq] at hp
   rw [← hp.1, ← hp.2]
 · intro cs cells hl0 hc hf
   have hrun : (execOp a.eval o).run P w = .ok (.value (.slice (some ⟨w.heap.size, 0, none⟩) n n)) (w.alloc (.cells cells e)) := by
    have hf' : Instr.fill (fun i => some (i * τ.sz e, τ.sz e)) zc (parts.map fun (i, x) => (i, a.eval x)).toList = some cells := by rw [← hf]; simp
    have hnb : ¬ (n * τ.sz e > 2 ^ 24) := by omega
    have hslice := hτ.slice htd
    simp only [execOp, ho, Instr.buildSlice, Sem.run_bind, run_underlying hslice, Result.andThen_ok, hτ.szOf hi, if_neg hnb, Sem.run_pure]
    by_cases hz0 : n * τ.sz e = 0
    · have hzc0 : zc = #[] := by simp [zc, hz0]
      rw [hzc0] at hf'
      simp only [hz0, if_true, Sem.run_pure, Result.andThen_ok, Array.range_zero', Array.map_empty, hf', newRow, Sem.run_bind, run_newObj]
      rfl
    · simp only [hz0, if_false, zeroValue, typeInfo, Sem.run_bind, run_program, Result.andThen_ok, h1, h4, Sem.run_pure]
      rw [show Instr.fill (fun i => some (i * τ.sz e, τ.sz e)) ((Array.range (n * τ.sz e)).map fun x => z.cells[x % z.cells.size]!) (parts.map fun (i, x) => (i, a.eval x)).toList = some cells from hf']
      simp only [newRow, Sem.run_bind, run_newObj, Result.andThen_ok, Sem.run_pure]
      rfl
   obtain ⟨E', g1, g2, g3, g4, hkp, hd1, g7, g8⟩ := hd.demoteL cs
   rw [forceR_eq, forceL_eq]
   have hc' : L0 (vd1 E' (demoteL cs rw') w) (resSL (demoteL cs rw') cs) cells.toList := resSL_vd (hc.mono fun x u _ h => g7 x u h)
   have hcl : cells.size = n * kdSz k := by
    have h1 := hc.1
    rw [hl0, flatZeros_len, hz1.1, hzl, hsz'] at h1
    simpa using h1.symm
   have hlen : (resSL (demoteL cs rw') cs).length = n * kdSz k := by rw [hc'.1]; simpa using hcl
   have hfin : ∀ r ent lo t, mkRow k (chunks (kdSz k) n (resSL (demoteL cs rw') cs)) = some r → ent.mine = some (lo, r) → (lo = r.len ∧ t = Tag.new ∨ lo = 0 ∧ t = .any) → (r.flat = true ∨ ∀ x, x ∈ resSL (demoteL cs rw') cs → tagLe t x) →
     OpGood P τ w0 E aS o a w ⟨(d, .own (dep + d)) :: fr, stk, bx, upd (demoteL cs rw') (dep + d) ent, dep⟩ := by
    intro r ent lo t hr hm hlo ht
    obtain ⟨hkd, hrl, _⟩ := mkRow_fit hr
    rw [chunks_len] at hrl
    have hrsz : r.sz = kdSz k := by unfold Rw.sz; rw [hkd]
    have hmade := made_cells hr hc' hlen t ht
    have hv : ∀ g, (Value.slice (some ⟨w.heap.size, 0, none⟩) n n).ownBlock = some g → w.heap.size ≤ g ∧ g < (w.alloc (.cells cells e)).heap.size := by
     intro g hg
     simp [Value.ownBlock] at hg
     subst hg
     simp
    have hnn : n ≤ 16777216 := by
     have : n * 1 ≤ n * τ.sz e := Nat.mul_le_mul_left _ (by omega)
     omega
    have hd2 := hd1.newRow (dep + d) hno (w.alloc (.cells cells e)) (World.grownBy_alloc w _ none) (.slice (some ⟨w.heap.size, 0, none⟩) n n) ent lo r hm cells.toList hv
     (by unfold Rw.bts; rw [hkd, hrl]; have : kdBytes k ≤ 112 := by unfold kdBytes; split <;> omega
         calc n * kdBytes k ≤ 16777216 * 112 := Nat.mul_le_mul hnn this
          _ ≤ _ := by omega)
     (by rw [hrl, hrsz, hkd, het]; exact ownsRow_alloc _ _ _ _ _ hd1.Mh (by unfold maxLen; omega) hcl)
     (fun i j x hi hx => by
       obtain ⟨u, hu, hcd⟩ := hmade i j x hi hx
       refine ⟨u, hu, ?_⟩
       have hcd' : cd1 w (E'.F w (if i < lo then .new else .any)) x u := by
        rcases hlo with ⟨rfl, rfl⟩ | ⟨rfl, rfl⟩
        · rw [if_pos hi]; exact hcd
        · rw [if_neg (by omega)]; exact hcd
       exact cd1_add hcd' (fun g _ hg => Below.heap_alloc w _ g hg) (fun g hg => .inl (hv g hg).1))
    refine opGood_value (E' := E'.add (dep + d) (.slice (some ⟨w.heap.size, 0, none⟩) n n)) hrun ?_ g1 g2
    rw [hdd]
    refine put_ptr d hd2 ?_ (hdst d hdd)
    simp only [vd3, vd2, vd1, vd0, lk_upd, if_true]
    cases ent with
    | own r => simp [Env.add]
    | part lo r => simp [Env.add]
    | shared t r => simp [Ent.mine] at hm
   rw [hsz']
   split
   · rename_i r hr
     split
     · rename_i hfl
       exact hfin r _ r.len .new hr rfl (.inl ⟨rfl, rfl⟩) (.inl hfl)
     · rename_i hfl hall
       exact hfin r _ r.len .new hr rfl (.inl ⟨rfl, rfl⟩) (.inr fun x hx => allNew_mem hall hx)
     · rename_i hfl hall
       exact hfin r _ 0 .any hr rfl (.inr ⟨rfl, rfl⟩) (.inr fun x hx => by cases x <;> simp [tagLe])
   · trivial
end
end Go.Proofs.YtjjpakdlkjaigaaGreat

/- A symbolic executor for loaded Go code: each step is the machine's: stores, indices, and what else there is. -/
namespace Go.Proofs.YtjjpakdlkjaigaaGreat
open Go.RowKit
section
variable {P : Program} {τ : Tys} {w0 : World} {E : Env} {aS : List (Array Value)} {a : Act} {w : World}
variable {s : St} {bs : List (Array Value)} {o : Oper}
variable {fr : List (Nat × SV)} {stk : List (List (Nat × SV))} {bx : List (Nat × (TypeId × List SV))} {rw' : List (Nat × Ent)} {dep : Nat}
theorem splice_get {α : Type} (us ws : List α) (n : Nat) (h : n + ws.length ≤ us.length) (j : Nat) :
  (us.take n ++ ws ++ us.drop (n + ws.length))[j]? = if j < n then us[j]? else if j < n + ws.length then ws[j - n]? else us[j]? := by
 by_cases h1 : j < n
 · rw [if_pos h1, List.append_assoc, List.getElem?_append_left (by simp; omega), List.getElem?_take, if_pos h1]
 · rw [if_neg h1]
   by_cases h2 : j < n + ws.length
   · rw [if_pos h2, List.append_assoc, List.getElem?_append_right (by simp; omega)]
     simp only [List.length_take, Nat.min_eq_left (show n ≤ us.length by omega)]
     rw [List.getElem?_append_left (by omega)]
   · rw [if_neg h2, List.getElem?_append_right (by simp; omega)]
     simp only [List.length_append, List.length_take, Nat.min_eq_left (show n ≤ us.length by omega), List.getElem?_drop]
     congr 1
     omega
theorem storeElem (hd : Den τ w0 E ⟨fr, stk, bx, rw', dep⟩ aS w) {k : Nat} {ent : Ent} {lo : Nat} {r : Rw} (hk : lk rw' k = some ent) (hm : ent.mine = some (lo, r)) {g n c i off : Nat} (hh : E.hs k = .slice (some ⟨g, 0, none⟩) n c) (hi : i < r.len)
  {vs : List SV} {ws : List Value} (hv : L0 (vd1 E rw' w) vs ws) (hw1 : ∀ u ∈ ws, u.oneCell' = true) (hl : off + vs.length ≤ r.sz) (t : Tag) {r' : Rw} (hr : r.setE i (setRange (r.cell t i) off vs) = some r') (ent' : Ent) (lo' : Nat) (hm' : ent'.mine = some (lo', r'))
  (hnew : i < lo' → r'.flat = true ∨ ((∀ x, x ∈ vs → tagLe .new x) ∧ (i < lo ∨ ∀ x, x ∈ setRange (r.cell t i) off vs → tagLe .new x))) (hother : ∀ j, j ≠ i → j < lo' → j < lo) (hold : t ≠ .old) (htn : t = .new → i < lo) :
  ∃ w', (storeCells ⟨g, i * r.sz + off, none⟩ ws).run P w = .ok () w' ∧ Den τ w0 E ⟨fr, stk, bx, upd rw' k ent', dep⟩ aS w' := by
 have hO := hd.own k ent lo r hk hm
 obtain ⟨us, hrow, hcell⟩ := hO.row
 obtain ⟨hul, hrow'⟩ := hrow
 rcases hrow' with ⟨hv0, h0⟩ | ⟨g', cap, cur, hv0, hg, hheap, hnc, hcap, hcs, htake⟩
 · rw [hh] at hv0; simp at hv0
 rw [hh] at hv0
 injection hv0 with hg1 hn1 hc1
 injection hg1 with hg1
 injection hg1 with hg1
 subst hg1
 obtain ⟨hkd, hlen, hfit, hoth⟩ := setE_fit hr hi
 have hsz : r'.sz = r.sz := Rw.sz_of_kd hkd
 have hin : i * r.sz + r.sz ≤ r.len * r.sz := by rw [← Nat.succ_mul]; exact Nat.mul_le_mul_right _ hi
 have hcur : r.len * r.sz ≤ cur.size := by rw [hcs]; exact Nat.mul_le_mul_right _ hnc
 have hvl : vs.length = ws.length := hv.1
 have hrun := run_storeCells_at P g (i * r.sz + off) (τ.et r.kd) ws 0 cur w hheap (by simp; omega) hw1
 simp only [Nat.add_zero] at hrun
 refine ⟨_, hrun, ?_⟩
 have how : E.ow g := hO.ow g (by rw [hh]; rfl)
 have hgr : w.grownBy (w.setRow g (cur.toList.take (i * r.sz + off) ++ ws ++ cur.toList.drop (i * r.sz + off + ws.length)).toArray) (E.hs k).ownBlock :=
  ⟨rfl, rfl, rfl, by simp, fun j _ hj => setRow_other w g j _ (fun e => hj (by rw [hh, e]; rfl))⟩
 have hkp := keeps_setRow hd how (cur.toList.take (i * r.sz + off) ++ ws ++ cur.toList.drop (i * r.sz + off + ws.length)).toArray
 have hus : us.length = r.len * r.sz := hul
 refine hd.writeRow k _ hgr hk hm ent' lo' r' hm' (by simpa using hkd.symm) (by simpa using hlen.symm) (us.take (i * r.sz + off) ++ ws ++ us.drop (i * r.sz + off + ws.length)) ?_ ?_
 · refine ⟨by simp [hlen, hsz]; omega, .inr ⟨g, cap, _, by rw [hh, hlen, hn1, hc1], hg, by rw [hkd]; exact setRow_heap w g _ _ _ _ hheap, by rw [hlen]; exact hnc, hcap, ?_, ?_⟩⟩
   · simp only [List.size_toArray, List.length_append, List.length_take, List.length_drop, Array.length_toList, hsz]
     omega
   · rw [hlen, hsz]
     apply List.ext_getElem?
     intro j
     rw [List.getElem?_take]
     have h1 := splice_get cur.toList ws (i * r.sz + off) (by simp; omega) j
     have h2 := splice_get us ws (i * r.sz + off) (by omega) j
     rw [h2]
     have hcu : ∀ m, m < r.len * r.sz → cur.toList[m]? = us[m]? := by
      intro m hm2
      rw [← htake, List.getElem?_take, if_pos hm2]
     split
     · rename_i hj
       rw [show (cur.toList.take (i * r.sz + off) ++ ws ++ cur.toList.drop (i * r.sz + off + ws.length)).toArray.toList = cur.toList.take (i * r.sz + off) ++ ws ++ cur.toList.drop (i * r.sz + off + ws.length) from rfl, h1, hcu j hj]
     · rename_i hj
       rw [if_neg (by omega), if_neg (by omega), List.getElem?_eq_none (by omega)]
 · intro i' j x hi' hx
   rw [hlen] at hi'
   have hj : j < r.sz := by
    have := (List.getElem?_eq_some_iff.1 hx).1
    rw [cell_len, hsz] at this
    exact this
   rw [hsz]
   by_cases he : i' = i
   · subst he
     obtain ⟨y, hy, hyx⟩ := hfit.2 j x hx
     rw [setRange_eq vs _ off (by rw [cell_len]; exact hl)] at hy
     have hsp := splice_get (r.cell t i') vs off (by rw [cell_len]; exact hl) j
     rw [hsp] at hy
     have hu2 := splice_get us ws (i' * r.sz + off) (by omega) (i' * r.sz + j)
     have hymem : y ∈ setRange (r.cell t i') off vs := by
      rw [setRange_eq vs _ off (by rw [cell_len]; exact hl)]
      exact List.mem_of_getElem? (by rw [hsp]; exact hy)
     by_cases hjo : off ≤ j ∧ j < off + vs.length
     · -- what is stored
       rw [if_neg (by omega), if_pos (by omega)] at hy
       obtain ⟨u, hu, hdu⟩ := hv.2 _ y hy
       refine ⟨u, ?_, ?_⟩
       · rw [hu2, if_neg (by omega), if_pos (by omega)]
         rw [show i' * r.sz + j - (i' * r.sz + off) = j - off by omega]
         exact hu
       · have hdu' : vd1 E rw' (w.setRow g (cur.toList.take (i' * r.sz + off) ++ ws ++ cur.toList.drop (i' * r.sz + off + ws.length)).toArray) y u := vd1.keeps hkp (fun _ _ => ⟨rfl, entLike.refl _ _ _ _⟩) (fun _ _ => rfl) hdu
         split
         · rename_i hlo
           rcases hnew hlo with hf | ⟨hn, _⟩
           · have h0 : cd1 (w.setRow g (cur.toList.take (i' * r.sz + off) ++ ws ++ cur.toList.drop (i' * r.sz + off + ws.length)).toArray) (E.F (w.setRow g (cur.toList.take (i' * r.sz + off) ++ ws ++ cur.toList.drop (i' * r.sz + off + ws.length)).toArray) .any) x u := hyx.cd hdu' (by cases y <;> simp [tagLe])
             exact (flat_sc hf hx _ _ _ _ u).1 h0
           · exact hyx.cd hdu' (hn y (List.mem_of_getElem? hy))
         · exact hyx.cd hdu' (by cases y <;> simp [tagLe])
     · -- what stood there
       have hy' : (r.cell t i')[j]? = some y := by
        split at hy
        · exact hy
        · split at hy
          · omega
          · exact hy
       obtain ⟨y2, hy2, hyy⟩ := cell_tag t .any r i' j y hy'
       obtain ⟨u, hu, hdu⟩ := hcell i' j y2 hi hy2
       refine ⟨u, ?_, ?_⟩
       · rw [hu2]
         have hlj : ¬ (i' * r.sz + off ≤ i' * r.sz + j ∧ i' * r.sz + j < i' * r.sz + off + ws.length) := by omega
         split
         · exact hu
         · split
           · omega
           · exact hu
       · -- told by the row aS it was
         have hda : vd1 E rw' w y u := by
          refine vd1_of_cd (t := t) ?_ (cell_retag t r i' j y hy')
          rw [hyy]
          cases t with
          | old => exact absurd rfl hold
          | new => rw [if_pos (htn rfl)] at hdu; exact hdu
          | any => exact cd1.any hdu
         have hda' : vd1 E rw' (w.setRow g (cur.toList.take (i' * r.sz + off) ++ ws ++ cur.toList.drop (i' * r.sz + off + ws.length)).toArray) y u := vd1.keeps hkp (fun _ _ => ⟨rfl, entLike.refl _ _ _ _⟩) (fun _ _ => rfl) hda
         split
         · rename_i hlo
           rcases hnew hlo with hf | ⟨_, h1 | h1⟩
           · have h0 : cd1 (w.setRow g (cur.toList.take (i' * r.sz + off) ++ ws ++ cur.toList.drop (i' * r.sz + off + ws.length)).toArray) (E.F (w.setRow g (cur.toList.take (i' * r.sz + off) ++ ws ++ cur.toList.drop (i' * r.sz + off + ws.length)).toArray) .any) x u := hyx.cd hda' (by cases y <;> simp [tagLe])
             exact (flat_sc hf hx _ _ _ _ u).1 h0
           · rw [if_pos h1] at hdu
             have hdn : vd1 E rw' w y2 u ∨ cd1 w (E.F w .new) y2 u := .inr hdu
             have h3 : cd1 w (E.F w .new) y u := (hyy _ _ _).2 hdu
             have h4 : cd1 (w.setRow g (cur.toList.take (i' * r.sz + off) ++ ws ++ cur.toList.drop (i' * r.sz + off + ws.length)).toArray) (E.F (w.setRow g (cur.toList.take (i' * r.sz + off) ++ ws ++ cur.toList.drop (i' * r.sz + off + ws.length)).toArray) .new) y u := cd1.mono h3 (hkp.F _)
             -- a cell of a row, read back aS a cell of a row
             cases y <;> cases x <;> first
              | exact hyx.elim
              | (obtain ⟨rfl, _⟩ := hyx; exact h4)
              | (obtain ⟨rfl, rfl⟩ := hyx; exact h4)
              | (obtain rfl : _ = _ := hyx; exact h4)
              | exact h4.elim
           · exact hyx.cd hda' (h1 y hymem)
         · exact hyx.cd hda' (by cases y <;> simp [tagLe])
   · -- another element
     have hne := hoth i' he
     rw [hne] at hx
     obtain ⟨u, hu, hdu⟩ := hcell i' j x hi' hx
     refine ⟨u, ?_, ?_⟩
     · rw [splice_get us ws (i * r.sz + off) (by omega) (i' * r.sz + j)]
       have hdis : ¬ (i * r.sz + off ≤ i' * r.sz + j ∧ i' * r.sz + j < i * r.sz + off + ws.length) := by
        rcases Nat.lt_or_gt_of_ne he with h1 | h1
        · have : (i' + 1) * r.sz ≤ i * r.sz := Nat.mul_le_mul_right _ h1
          rw [Nat.succ_mul] at this
          omega
        · have : (i + 1) * r.sz ≤ i' * r.sz := Nat.mul_le_mul_right _ h1
          rw [Nat.succ_mul] at this
          omega
       split
       · exact hu
       · split
         · omega
         · exact hu
     · have h0 := cd1.mono hdu (hkp.F _)
       split
       · rename_i hlo
         rw [if_pos (hother i' he hlo)] at h0
         exact h0
       · exact cd1.any h0
end
end Go.Proofs.YtjjpakdlkjaigaaGreat

/- A symbolic executor for loaded Go code: each step is the machine's: stores, indices, and what else there is. -/
namespace Go.Proofs.YtjjpakdlkjaigaaGreat
open Go.RowKit
section
variable {P : Program} {τ : Tys} {w0 : World} {E : Env} {aS : List (Array Value)} {a : Act} {w : World}
variable {s : St} {bs : List (Array Value)} {o : Oper}
variable {fr : List (Nat × SV)} {stk : List (List (Nat × SV))} {bx : List (Nat × (TypeId × List SV))} {rw' : List (Nat × Ent)} {dep : Nat}
theorem setRange_mem {α : Type} {vs : List α} {x : α} (hx : x ∈ vs) : ∀ (cs : List α) (off : Nat), off + vs.length ≤ cs.length → x ∈ setRange cs off vs := by
 intro cs off h
 rw [setRange_eq vs cs off h]
 simp [hx]
theorem store_good (hτ : TysOk P τ) (hd : Den τ w0 E ⟨fr, stk, bx, rw', dep⟩ (a.tmps :: aS) w) (hdst : o.dst = none) (T : TypeId) (x v : Operand) (ho : o.op = .store T x v) :
  (stepStore τ T x v ⟨fr, stk, bx, rw', dep⟩).good (OpGood P τ w0 E aS o a w) := by
 unfold stepStore
 simp only [SV.force_eq]
 split
 rotate_left
 · trivial
 rename_i i hlen hone hi
 have hx := hd.get x
 have hv := hd.getT T v
 have hlen' : (getT τ ⟨fr, stk, bx, rw', dep⟩ T v).cells.length = τ.sz T := Nat.eq_of_beq_eq_true hlen
 have hc := cells_vd hd.hs_one hv hone
 have hw1 : ∀ u ∈ (a.eval v).cells.toList, u.oneCell' = true := hc.one fun y u hy hp => vd1_one hd.hs_one hp (allOne_mem hone hy)
 have hvsz : (a.eval v).cells.size = τ.sz T := by have := hc.1; rw [hlen'] at this; simpa using this.symm
 have hrun : ∀ ad w', (storeCells ad (a.eval v).cells.toList).run P w = .ok () w' → a.eval x = .pointer (some ad) → (execOp a.eval o).run P w = .ok .skip w' := by
  intro ad w' h1 h2
  simp only [execOp, ho, Instr.storeAt, h2, Instr.sureAddr, storeVar, Sem.run_bind, Sem.run_pure, Result.andThen_ok, hτ.szOf hi, hvsz, ne_eq, not_true_eq_false, if_false, h1]
 split
 · -- a box
   rename_i k off hk
   rw [hk] at hx
   obtain hx : a.eval x = .pointer (some ⟨E.bs k, off, none⟩) := hx
   split
   · rename_i T' cs hb
     split
     · rename_i hle
       have hle' : off + τ.sz T ≤ cs.length := Nat.le_of_ble_eq_true hle
       rw [forceB_eq]
       obtain ⟨cur, hheap, hcu, hd'⟩ := hd.setBox hb (off := off) (by rw [hlen']; exact hle') hc
       have hst := run_storeCells_at P (E.bs k) off T' (a.eval v).cells.toList 0 cur w hheap (by simpa using hcu) hw1
       simp only [Nat.add_zero] at hst
       refine opGood_skip (hrun _ _ hst hx) ?_ rfl rfl
       rw [hdst]
       exact hd'
     · trivial
   · trivial
 · -- an element of an own row
   rename_i k j off hk
   rw [hk] at hx
   obtain ⟨E', g1, g2, g3, g4, hkp, hd1, g7, g8⟩ := hd.demoteL (getT τ ⟨fr, stk, bx, rw', dep⟩ T v).cells
   have hx' := g8 _ _ hx
   have hc' := resSL_vd (hc.mono fun x u _ h => g7 x u h)
   have hcl : (resSL (demoteL (getT τ ⟨fr, stk, bx, rw', dep⟩ T v).cells rw') (getT τ ⟨fr, stk, bx, rw', dep⟩ T v).cells).length = τ.sz T := by rw [hc'.1]; simpa using hvsz
   rw [forceR_eq, forceL_eq]
   simp only [vd3, vd2, vd1, vd0] at hx'
   split
   · rename_i r hR
     rw [hR] at hx'
     obtain ⟨g, n, c, hh, h0, h1, hxv⟩ := hx'
     split
     · rename_i r' hset hnew hle
       have hle' : off + τ.sz T ≤ r.sz := Nat.le_of_ble_eq_true hle
       obtain ⟨w', hst, hd2⟩ := storeElem (P := P) hd1 hR rfl hh (i := j.toNat) (off := off) (by omega) hc' hw1 (by rw [hcl]; exact hle') .new hset (.own r') r'.len rfl
        (fun hi' => .inr ⟨fun x hx => allNew_mem hnew hx, .inl (by omega)⟩) (fun j' _ hj' => by
          have := (setE_fit hset (by omega)).2.1
          omega) (by simp) (fun _ => by omega)
       refine opGood_skip (hrun _ _ hst hxv) ?_ g1 g2
       rw [hdst]
       exact hd2
     · rename_i hnew hle
       have hle' : off + τ.sz T ≤ r.sz := Nat.le_of_ble_eq_true hle
       split
       · rename_i r' hset
         obtain ⟨w', hst, hd2⟩ := storeElem (P := P) hd1 hR rfl hh (i := j.toNat) (off := off) (by omega) hc' hw1 (by rw [hcl]; exact hle') .any hset (.part 0 r') 0 rfl
          (fun hi' => absurd hi' (Nat.not_lt_zero _)) (fun j' _ hj' => absurd hj' (Nat.not_lt_zero _)) (by simp) (fun h => by simp at h)
         refine opGood_skip (hrun _ _ hst hxv) ?_ g1 g2
         rw [hdst]
         exact hd2
       · trivial
     · trivial
   · rename_i lo r hR
     rw [hR] at hx'
     obtain ⟨g, n, c, hh, h0, h1, hxv⟩ := hx'
     split
     · rename_i r' hset hle
       have hle' : off + τ.sz T ≤ r.sz := Nat.le_of_ble_eq_true hle
       have hlr : off + (resSL (demoteL (getT τ ⟨fr, stk, bx, rw', dep⟩ T v).cells rw') (getT τ ⟨fr, stk, bx, rw', dep⟩ T v).cells).length ≤ (r.cell .any j.toNat).length := by rw [hcl, cell_len]; exact hle'
       split
       · rename_i hnew
         obtain ⟨w', hst, hd2⟩ := storeElem (P := P) hd1 hR rfl hh (i := j.toNat) (off := off) (by omega) hc' hw1 (by rw [hcl]; exact hle') .any hset (.part (loStep lo j) r') (loStep lo j) rfl
          (fun hi' => .inr ⟨fun x hx => allNew_mem hnew (setRange_mem hx _ _ hlr), .inr fun x hx => allNew_mem hnew hx⟩) (fun j' hj1 hj' => by
            unfold loStep at hj'
            split at hj' <;> omega) (by simp) (fun h => by simp at h)
         refine opGood_skip (hrun _ _ hst hxv) ?_ g1 g2
         rw [hdst]
         exact hd2
       · split
         · rename_i hnew
           obtain ⟨w', hst, hd2⟩ := storeElem (P := P) hd1 hR rfl hh (i := j.toNat) (off := off) (by omega) hc' hw1 (by rw [hcl]; exact hle') .any hset (.part lo r') lo rfl
            (fun hi' => .inr ⟨fun x hx => allNew_mem hnew hx, .inl hi'⟩) (fun j' _ hj' => hj') (by simp) (fun h => by simp at h)
           refine opGood_skip (hrun _ _ hst hxv) ?_ g1 g2
           rw [hdst]
           exact hd2
         · obtain ⟨w', hst, hd2⟩ := storeElem (P := P) hd1 hR rfl hh (i := j.toNat) (off := off) (by omega) hc' hw1 (by rw [hcl]; exact hle') .any hset (.part 0 r') 0 rfl
            (fun hi' => absurd hi' (Nat.not_lt_zero _)) (fun j' _ hj' => absurd hj' (Nat.not_lt_zero _)) (by simp) (fun h => by simp at h)
           refine opGood_skip (hrun _ _ hst hxv) ?_ g1 g2
           rw [hdst]
           exact hd2
     · trivial
   · trivial
 · trivial
theorem RowDen.elem {t : Tag} {r : Rw} {v : Value} (h : RowDen w (E.F w t) r v) {i : Nat} (hi : i < r.len) : ∃ ad c, v = .slice (some ad) r.len c ∧ ad.spot = none ∧ ad.block < w.heap.size ∧ E.F w t ad.block ∧
  ∀ (j : Nat) x, (r.cell t i)[j]? = some x → ∃ u, w.cell? ((ad.add (i * r.sz)).add j) = some u ∧ cd2 w (E.F w t) x u := by
 obtain ⟨h0, A, c, hv, hn, h⟩ := h
 obtain ⟨ad, rfl, hs, hF, hc⟩ := h (by omega)
 have hcell : ∀ (j : Nat) x, (r.cell t i)[j]? = some x → ∃ u, w.cell? ((ad.add (i * r.sz)).add j) = some u ∧ cd2 w (E.F w t) x u := by
  intro j x hx
  obtain ⟨y, hy, hxy⟩ := cell_tag t .any r i j x hx
  obtain ⟨u, hu, hd⟩ := hc i j y hi hy
  exact ⟨u, by rw [add_add hs]; exact hu, ((hxy _ _ _).2 hd).up⟩
 refine ⟨ad, c, hv, hs, ?_, hF, hcell⟩
 have hl : 0 < (r.cell t i).length := by rw [cell_len]; exact sz_pos r
 obtain ⟨u, hu, _⟩ := hcell 0 _ (List.getElem?_eq_getElem hl)
 have := World.block_lt_of_cell? w _ hu
 have hb : ((ad.add (i * r.sz)).add 0).block = ad.block := by simp [Addr.add]; split <;> rfl
 rw [hb] at this
 exact this
theorem index_run (hτ : TysOk P τ) {T e : TypeId} (htd : τ.td T = .slice e) {i : TI} (hi : τ.ti e = some i) {ad : Addr} {n c : Nat} {k : IntKind} {j : Int} (h0 : 0 ≤ j) (h1 : j < n) :
  (Instr.indexAt T (.slice (some ad) n c) (.int k j)).run P w = .ok (.pointer (some (ad.add (j.toNat * τ.sz e)))) w := by
 have hs := hτ.slice htd
 simp [Instr.indexAt, run_underlying hs, asIntOf, h0, h1, hτ.szOf hi]
theorem shared_index (hτ : TysOk P τ) {T e : TypeId} (htd : τ.td T = .slice e) {t : Tag} {r : Rw} (hsz : Nat.beq (τ.sz e) r.sz = true) {v : Value} (h : RowDen w (E.F w t) r v) {k : IntKind} {j : Int} (h0 : 0 ≤ j) (h1 : j < r.len) :
  Gives (P := P) w (Instr.indexAt T v (.int k j)) (.pt t (r.cell t j.toNat)) E rw' := by
 have hsz' : τ.sz e = r.sz := Nat.eq_of_beq_eq_true hsz
 have hti : ∃ i, τ.ti e = some i := by
  cases hc : τ.ti e with
  | none => have := sz_pos r; simp [Tys.sz, hc] at hsz'; omega
  | some i => exact ⟨i, rfl⟩
 obtain ⟨i, hi⟩ := hti
 obtain ⟨ad, c, rfl, hs, hlt, hF, hc⟩ := h.elem (i := j.toNat) (by omega)
 have hb : (ad.add (j.toNat * r.sz)).block = ad.block := by unfold Addr.add; split <;> rfl
 refine ⟨_, index_run hτ htd hi h0 h1, ad.add (j.toNat * τ.sz e), rfl, ?_, ?_, ?_, ?_⟩
 · unfold Addr.add; split <;> simp [hs]
 · rw [hsz', hb]; exact hlt
 · rw [hsz', hb]; exact hF
 · rw [hsz']; exact hc
theorem own_index (hτ : TysOk P τ) {T e : TypeId} (htd : τ.td T = .slice e) {k0 lo : Nat} {r : Rw} (hO : OwnD τ E w k0 lo r) (hsz : Nat.beq (τ.sz e) r.sz = true) {k : IntKind} {j : Int} (h0 : 0 ≤ j) (h1 : j < r.len) :
  ∃ g c, E.hs k0 = .slice (some ⟨g, 0, none⟩) r.len c ∧ (Instr.indexAt T (E.hs k0) (.int k j)).run P w = .ok (.pointer (some ⟨g, j.toNat * r.sz + 0, none⟩)) w := by
 have hsz' : τ.sz e = r.sz := Nat.eq_of_beq_eq_true hsz
 have hti : ∃ i, τ.ti e = some i := by
  cases hc : τ.ti e with
  | none => have := sz_pos r; simp [Tys.sz, hc] at hsz'; omega
  | some i => exact ⟨i, rfl⟩
 obtain ⟨i, hi⟩ := hti
 obtain ⟨us, hrow, _⟩ := hO.row
 rcases hrow.2 with ⟨_, h2⟩ | ⟨g, cap, cur, hv, _⟩
 · omega
 · refine ⟨g, cap, hv, ?_⟩
   rw [hv, index_run hτ htd hi h0 h1, hsz', Addr.add_lit]
   simp
theorem indexAddr_ok (hτ : TysOk P τ) (hd : Den τ w0 E ⟨fr, stk, bx, rw', dep⟩ (a.tmps :: aS) w) (T : TypeId) (x i : Operand) (ho : o.op = .indexAddr T x i) :
  (evIndexAddr τ ⟨fr, stk, bx, rw', dep⟩ T (St.get ⟨fr, stk, bx, rw', dep⟩ x) (St.get ⟨fr, stk, bx, rw', dep⟩ i)).good (Yld P o a w E rw') := by
 have hx := hd.get x
 have hi := hd.get i
 refine RV.ok_of (c := Instr.indexAt T (a.eval x) (a.eval i)) (fun z hz => by simp only [execOp, ho, Sem.run_bind, hz]; rfl) ?_
 unfold evIndexAddr
 split
 rotate_left
 · rename_i n e k j htd hj
   rw [hj] at hi
   obtain hi : a.eval i = .int k j := hi
   rw [hi]
   split
   · rename_i k0 i0 off hxk
     rw [hxk] at hx
     simp only [vd3, vd2, vd1, vd0] at hx
     split
     · rename_i hi0 hsz hn1
       obtain rfl := of_decide_eq_true hi0
       split
       · rename_i r hk
         rw [hk] at hx
         obtain ⟨g, m, c, h1, _, h2, hx⟩ := hx
         split
         · rintro ⟨b1, b2, b3⟩
           refine ⟨.pointer (some ⟨g, j.toNat, none⟩), ?_, ?_⟩
           · rw [hx]
             obtain ⟨i', hi'⟩ := hτ.arrElem htd
             have hsz' : τ.sz e = 1 := Nat.eq_of_beq_eq_true hsz
             have hn2 : 1 < n := Nat.lt_of_succ_le (Nat.le_of_ble_eq_true hn1)
             have : ∀ w, (sizeOf e).run P w = .ok 1 w := fun w => by have := hτ.szOf hi' w; rwa [hsz'] at this
             have hnot : ¬ (n ≤ 1) := by omega
             simp [Instr.indexAt, asIntOf, hτ.arr htd, Sem.run_bind, run_underlying (hτ.arr htd), Instr.sureAddr, this, b1, b2, hnot, Addr.add_lit, Rw.sz, Rw.kd, kdSz]
           · simp only [vd3, vd2, vd1, vd0]
             rw [hk]
             exact ⟨g, m, c, h1, b1, by simp only [Rw.len]; omega, by simp [Rw.sz, Rw.kd, kdSz]⟩
         · trivial
       · trivial
     · trivial
   · rename_i k0 off hxk
     rw [hxk] at hx
     split
     · rename_i i' hn1 hi'
       rintro ⟨b1, b2⟩
       obtain hx : a.eval x = .pointer (some ⟨E.bs k0, off, none⟩) := hx
       refine ⟨.pointer (some ⟨E.bs k0, off + j.toNat * τ.sz e, none⟩), ?_, rfl⟩
       rw [hx]
       have hn2 : 1 < n := Nat.lt_of_succ_le (Nat.le_of_ble_eq_true hn1)
       have : ∀ w, (sizeOf e).run P w = .ok (τ.sz e) w := fun w => hτ.szOf hi' w
       have hnot : ¬ (n ≤ 1) := by omega
       simp [Instr.indexAt, asIntOf, hτ.arr htd, Sem.run_bind, run_underlying (hτ.arr htd), Instr.sureAddr, this, b1, b2, hnot, Addr.add_lit]
     · trivial
   · trivial
 · trivial
 rename_i e k j htd hj
 rw [hj] at hi
 obtain hi : a.eval i = .int k j := hi
 rw [hi]
 split
 · rename_i t r hxr
   rw [hxr] at hx
   split
   · rename_i hsz
     rw [Rw.lenK_eq]
     intro hb
     exact shared_index hτ htd hsz hx hb.1 hb.2
   · trivial
 · rename_i k0 hxk
   rw [hxk] at hx
   simp only [vd3, vd2, vd1, vd0] at hx
   split
   · rename_i r hk
     rw [hk] at hx
     obtain hx : a.eval x = E.hs k0 := hx
     split
     · rename_i hsz
       rw [Rw.lenK_eq]
       intro hb
       obtain ⟨g, c, h1, h2⟩ := own_index (P := P) hτ htd (hd.own k0 _ _ r hk rfl) hsz (k := k) hb.1 hb.2
       refine ⟨_, by rw [hx]; exact h2, ?_⟩
       simp only [vd3, vd2, vd1, vd0]
       rw [hk]
       exact ⟨g, _, c, h1, hb.1, hb.2, rfl⟩
     · trivial
   · rename_i lo r hk
     rw [hk] at hx
     obtain hx : a.eval x = E.hs k0 := hx
     split
     · rename_i hsz
       rw [Rw.lenK_eq]
       intro hb
       obtain ⟨g, c, h1, h2⟩ := own_index (P := P) hτ htd (hd.own k0 _ _ r hk rfl) hsz (k := k) hb.1 hb.2
       refine ⟨_, by rw [hx]; exact h2, ?_⟩
       simp only [vd3, vd2, vd1, vd0]
       rw [hk]
       exact ⟨g, _, c, h1, hb.1, hb.2, rfl⟩
     · trivial
   · rename_i t r hk
     rw [hk] at hx
     split
     · rename_i hsz
       rw [Rw.lenK_eq]
       intro hb
       exact shared_index hτ htd hsz hx hb.1 hb.2
     · trivial
   · trivial
 · trivial
theorem indexAddr_good (hτ : TysOk P τ) (hd : Den τ w0 E ⟨fr, stk, bx, rw', dep⟩ (a.tmps :: aS) w) (hdst : ∀ t, o.dst = some t → t < a.tmps.size) (T : TypeId) (x i : Operand) (ho : o.op = .indexAddr T x i) :
  ((evIndexAddr τ ⟨fr, stk, bx, rw', dep⟩ T (St.get ⟨fr, stk, bx, rw', dep⟩ x) (St.get ⟨fr, stk, bx, rw', dep⟩ i)).to o.dst ⟨fr, stk, bx, rw', dep⟩).good (OpGood P τ w0 E aS o a w) :=
 RV.to_good' hd hdst (indexAddr_ok hτ hd T x i ho)
theorem index_ok (hτ : TysOk P τ) (hd : Den τ w0 E ⟨fr, stk, bx, rw', dep⟩ (a.tmps :: aS) w) (T : TypeId) (x i : Operand) (ho : o.op = .index T x i) :
  (evIndex τ T (St.get ⟨fr, stk, bx, rw', dep⟩ x) (St.get ⟨fr, stk, bx, rw', dep⟩ i)).good (Yld P o a w E rw') := by
 have hx := hd.get x
 have hi := hd.get i
 refine RV.ok_of (c := Instr.index T (a.eval x) (a.eval i)) (fun z hz => by simp only [execOp, ho, Sem.run_bind, hz]; rfl) ?_
 unfold evIndex
 split
 rotate_left
 · trivial
 rename_i b k j htd hs hj
 rw [hj] at hi
 rw [hs] at hx
 obtain hi : a.eval i = .int k j := hi
 obtain hx : a.eval x = .string b := hx
 intro hb
 obtain ⟨d, hu, hdd⟩ := hτ.td htd (by simp)
 obtain rfl : d = _ := hdd
 have hlt : j.toNat < b.size := by omega
 refine ⟨.int .u8 (byteAt b j.toNat), ?_, rfl⟩
 rw [hx, hi]
 simp [Instr.index, run_underlying hu, asIntOf, hb.1, byteAt_def, hlt]
theorem index_good (hτ : TysOk P τ) (hd : Den τ w0 E ⟨fr, stk, bx, rw', dep⟩ (a.tmps :: aS) w) (hdst : ∀ t, o.dst = some t → t < a.tmps.size) (T : TypeId) (x i : Operand) (ho : o.op = .index T x i) :
  ((evIndex τ T (St.get ⟨fr, stk, bx, rw', dep⟩ x) (St.get ⟨fr, stk, bx, rw', dep⟩ i)).to o.dst ⟨fr, stk, bx, rw', dep⟩).good (OpGood P τ w0 E aS o a w) :=
 RV.to_good' hd hdst (index_ok hτ hd T x i ho)
theorem extract_ok (hd : Den τ w0 E ⟨fr, stk, bx, rw', dep⟩ (a.tmps :: aS) w) (x : Operand) (j : Nat) (ho : o.op = .extract x j) :
  (evExtract (St.get ⟨fr, stk, bx, rw', dep⟩ x) j).good (Yld P o a w E rw') := by
 have hx := hd.get x
 refine RV.ok_of (c := Instr.extract (a.eval x) j) (fun z hz => by simp only [execOp, ho, Sem.run_bind, hz]; rfl) ?_
 unfold evExtract
 split
 rotate_left
 · trivial
 rename_i vs hv
 rw [hv] at hx
 obtain ⟨us, hxv, hl⟩ := hx
 split
 rotate_left
 · trivial
 rename_i v hj
 rw [nth_eq] at hj
 obtain ⟨u, hu, hp⟩ := hl.2 j v hj
 refine ⟨u, by rw [hxv]; simp [Instr.extract, hu], ?_⟩
 cases v <;> first | exact hp | exact hp.elim
theorem extract_good (hd : Den τ w0 E ⟨fr, stk, bx, rw', dep⟩ (a.tmps :: aS) w) (hdst : ∀ t, o.dst = some t → t < a.tmps.size) (x : Operand) (j : Nat) (ho : o.op = .extract x j) :
  ((evExtract (St.get ⟨fr, stk, bx, rw', dep⟩ x) j).to o.dst ⟨fr, stk, bx, rw', dep⟩).good (OpGood P τ w0 E aS o a w) :=
 RV.to_good' hd hdst (extract_ok hd x j ho)
end
end Go.Proofs.YtjjpakdlkjaigaaGreat
