/- A symbolic executor for loaded Go code: drawn regions: the ghost's frame. -/
import Derived.Test.YtmgccphapkmmeaaXA
namespace Go.Proofs.Ytmgccphapkmmeaa
open Go.RowKit

section
variable {P : Program} {τ : Tys} {w0 : World} {base M nn : Nat} {as : List (Array Value)} {ops : Array Oper} {tab : List (Nat × Nat)} {w : World} {a0 oldA : Array Value}
/-- In that frame, the operation comes to that. -/
def Comes' (P : Program) (ops : Array Oper) (w : World) (g : Act) (o : Oper) (v : Value) : Prop :=
  (Region.wanted o (yielded ops g.tmps) = true ∧ (execOp g.eval o).run P w = .ok (.value v) w) ∨ (Region.wanted o (yielded ops g.tmps) = false ∧ v = undef)
def RunFact (P : Program) (ops : Array Oper) (w : World) (z : Nat → Value) (a0 : Array Value) (j : Nat) (o : Oper) : Prop :=
  ∃ (g : Act) (S : Nat → Prop), Fills ops S z a0 g.tmps ∧ (∀ k, S k → k < j) ∧ (∀ k, Waits ops k j → S k) ∧ Comes' P ops w g o (z j)
theorem RunFact.congr {z z' : Nat → Value} {j : Nat} {o : Oper} (h : RunFact P ops w z a0 j o) (hz : ∀ k, k ≤ j → z' k = z k) : RunFact P ops w z' a0 j o := by
  obtain ⟨g, S, h1, h2, h3, h4⟩ := h
  exact ⟨g, S, h1.congr (fun _ => Iff.rfl) (fun i hi => hz i (Nat.le_of_lt (h2 i hi))), h2, h3, by rw [hz j (Nat.le_refl _)]; exact h4⟩
def Avl (ops : Array Oper) (p av j : Nat) (o : Oper) : Prop := (isR o = true ∧ ∀ k, Waits ops k j → inM k av = true) ∨ (isR o = false ∧ inM j p = true)
def AtV (τ : Tys) (w0 : World) (base M nn : Nat) (as : List (Array Value)) (s : St) (a : Act) (w : World) (x : SV) (v : Value) : Prop :=
  ∃ E, Den τ w0 E s (a.tmps :: as) w ∧ E.base = base ∧ M ≤ E.M ∧ nn ≤ a.tmps.size ∧ a.defers = [] ∧ vd3 E s.rows w x v
theorem AtV.put {s : St} {g : Act} {x : SV} {v : Value} {d : Tmp} (h : AtV τ w0 base M nn as s g w x v) (hd : d < nn) : At τ w0 base M nn as (putS d x s) (g.put (some d) v) w := by
  obtain ⟨E, h0, h1, h2, h3, h4, h5⟩ := h
  refine ⟨E, ?_, h1, h2, by rw [(put_size _ _ _).1]; exact h3, by rw [(put_size _ _ _).2]; exact h4⟩
  obtain ⟨fr, stk, bx, rw', dep⟩ := s
  exact h0.put (d := some d) h5 fun t ht => by simp at ht; subst ht; exact Nat.lt_of_lt_of_le hd h3
theorem At.junk {s : St} {g : Act} (h : At τ w0 base M nn as s g w) (v : Value) : AtV τ w0 base M nn as s g w .junk v := by
  obtain ⟨E, h0, h1, h2, h3, h4⟩ := h
  exact ⟨E, h0, h1, h2, h3, h4, trivial⟩
theorem At.skipped {s : St} {g : Act} (h : At τ w0 base M nn as s g w) : AtV τ w0 base M nn as s g w (.tup []) undef := by
  obtain ⟨E, h0, h1, h2, h3, h4⟩ := h
  exact ⟨E, h0, h1, h2, h3, h4, [], rfl, L0.nil⟩
theorem skipV_vd {E : Env} {R : List (Nat × Ent)} {x : SV} {v : Value} (h : vd3 E R w x v) : vd3 E R w (skipV x) v := by
  unfold skipV
  split
  · exact h
  · trivial
theorem skipV_undef {E : Env} {R : List (Nat × Ent)} (x : SV) {v : Value} (h : vd3 E R w (.tup []) v) : vd3 E R w (skipV x) v := by
  unfold skipV
  split
  · exact h
  · trivial
theorem At.second {s : St} {g : Act} {old : List (Nat × SV)} (h : At τ w0 base M nn (oldA :: as) s g w) (hs : ∃ r, s.stk = old :: r) (t : Nat) : AtV τ w0 base M nn (oldA :: as) s g w (lkv old t) (oldA.getD t undef) := by
  obtain ⟨E, h0, h1, h2, h3, h4⟩ := h
  obtain ⟨r, hr⟩ := hs
  obtain ⟨b, hb, hf⟩ := h0.fr 1 old (by simp [hr])
  simp at hb
  subst hb
  exact ⟨E, h0, h1, h2, h3, h4, hf t⟩
theorem AtV.conv {s : St} {g : Act} {x y : SV} {v : Value} (h : AtV τ w0 base M nn as s g w x v) (hc : ∀ (E : Env) (R : List (Nat × Ent)), vd3 E R w x v → vd3 E R w y v) : AtV τ w0 base M nn as s g w y v := by
  obtain ⟨E, h0, h1, h2, h3, h4, h5⟩ := h
  exact ⟨E, h0, h1, h2, h3, h4, hc _ _ h5⟩
theorem RwLe.refl (R : List (Nat × Ent)) : RwLe R R := fun _ _ h => h
theorem relV_spec {x v : SV} {K : SV → Prop} (h : relV (some x) v K) : ∃ v', K v' ∧ (∀ (E : Env) (R : List (Nat × Ent)) (w : World) (u : Value), vd3 E R w x u → vd3 E R w v' u) ∧ ∀ (E : Env) (R : List (Nat × Ent)) (w : World) (u : Value), vd3 E R w v u → vd3 E R w v' u := by
  unfold relV at h
  dsimp only at h
  split at h
  · rename_i b c
    have hbc := h.1.out
    subst hbc
    exact ⟨_, h.2, fun _ _ _ _ h => h, fun _ _ _ _ h => h⟩
  · exact ⟨v, h.2, fun E R w u hx => sub_vd3 (RwLe.refl R) h.1 hx, fun _ _ _ _ h => h⟩
theorem RV.wp_good {r : RV} {K Y : SV → Prop} (h : r.wp K) (hg : r.good Y) : ∃ v, K v ∧ Y v := by
  cases r with
  | bad => exact h.elim
  | ok v => simp only [RV.wp, SV.force_eq] at h; exact ⟨v, h, hg⟩
  | ob q v => simp only [RV.wp, SV.force_eq] at h; exact ⟨v, h.2 h.1.out, hg h.1.out⟩
theorem setLit_stk (t : Nat) (b : Bool) (s : St) : (setLit t b s).stk = s.stk := by cases s; rfl
theorem putS_stk (d : Nat) (x : SV) (s : St) : (putS d x s).stk = s.stk := by cases s; rfl
theorem guardO_stk {o : Oper} {s : St} {yes no : St → Prop} (hw : guardO ops.toList o s yes no) : guardO ops.toList o s (fun s' => yes s' ∧ s'.stk = s.stk) (fun s' => no s' ∧ s'.stk = s.stk) := by
  unfold guardO at hw ⊢
  split
  · rename_i hg; rw [hg] at hw; exact ⟨hw, rfl⟩
  · rename_i j want hg
    rw [hg] at hw
    dsimp only at hw
    split
    · rename_i h; rw [h] at hw; exact hw
    · rename_i t ht
      rw [ht] at hw
      dsimp only at hw
      split
      · rename_i b hb
        rw [hb] at hw
        dsimp only at hw
        split
        · rename_i h; rw [h] at hw; exact ⟨hw, rfl⟩
        · rename_i h; rw [h] at hw; exact ⟨hw, rfl⟩
      · rename_i b hb
        rw [hb] at hw
        dsimp only at hw
        split
        · exact ⟨fun h => ⟨hw.1 h, setLit_stk _ _ _⟩, fun h => ⟨hw.2 h, setLit_stk _ _ _⟩⟩
        · exact ⟨fun h => ⟨hw.1 h, setLit_stk _ _ _⟩, fun h => ⟨hw.2 h, setLit_stk _ _ _⟩⟩
      · rename_i vs hb
        rw [hb] at hw
        exact ⟨hw, rfl⟩
      · rename_i h1 h2 h3
        split at hw
        · rename_i b hb; exact absurd hb (h1 b)
        · rename_i b hb; exact absurd hb (h2 b)
        · rename_i b hb; exact absurd hb (h3 b)
        · exact hw
variable (hτ : TysOk P τ)
include hτ
theorem fill_sound (D : DrawD ops tab) {p avO su : Nat} {old : List (Nat × SV)} {Dn : Nat → Prop} {z : Nat → Value} (hdst : dstOk nn ops.toList = true)
    (hW : ∀ (j : Nat) (o : Oper), ops[j]? = some o → isR o = false → inM j p = true → Dn j)
    (hR : ∀ (j : Nat) (o : Oper), ops[j]? = some o → isR o = true → Dn j → inM j avO = true)
    (hsu : ∀ j, inM j su = true → Dn j)
    (hold : ∀ (j : Nat) (o : Oper) (t : Tmp), ops[j]? = some o → o.dst = some t → Dn j → oldA.getD t undef = z j)
    {K : Nat → St → Prop} {G : Prop}
    (hK : ∀ (av : Nat) (s : St) (g : Act) (z' : Nat → Value), K av s → At τ w0 base M nn (oldA :: as) s g w → (∃ r, s.stk = old :: r) → Fills ops (fun i => inM i av = true) z' a0 g.tmps → (∀ j, Dn j → z' j = z j) →
      (∀ (j : Nat) (o : Oper), ops[j]? = some o → (inM j av = true ↔ Avl ops p av j o)) → (∀ (j : Nat) (o : Oper), ops[j]? = some o → isR o = true → inM j av = true → ¬ Dn j → RunFact P ops w z' a0 j o) → G) :
    ∀ (os : List Oper) (tb : List (Nat × Nat)) (m av : Nat) (s : St) (g : Act) (z' : Nat → Value), ops.toList.drop m = os → tab.drop m = tb → fill τ ops.toList p avO su old os tb av s K → At τ w0 base M nn (oldA :: as) s g w → (∃ r, s.stk = old :: r) →
      Fills ops (fun i => inM i av = true) z' a0 g.tmps → (∀ j, Dn j → z' j = z j) → (∀ (j : Nat) (o : Oper), ops[j]? = some o → j < m → (inM j av = true ↔ Avl ops p av j o)) → (∀ j, inM j av = true → j < m) →
      (∀ (j : Nat) (o : Oper), ops[j]? = some o → isR o = true → inM j av = true → ¬ Dn j → RunFact P ops w z' a0 j o) → G := by
  intro os
  induction os with
  | nil =>
    intro tb m av s g z' hos htb hw hat hstk hF hD hA hU hRun
    have htn : tb = [] := by
      have h1 : ops.toList.length ≤ m := by simpa using List.drop_eq_nil_iff.1 hos
      rw [← htb]
      exact List.drop_eq_nil_of_le (by rw [D.len]; simpa using h1)
    subst htn
    have hm : ∀ (j : Nat) (o : Oper), ops[j]? = some o → j < m := fun j o ho => by
      have h1 : ops.toList.length ≤ m := by simpa using List.drop_eq_nil_iff.1 hos
      have h2 := (Array.getElem?_eq_some_iff.1 ho).1
      simp at h1
      omega
    exact hK av s g z' hw hat hstk hF hD (fun j o ho => hA j o ho (hm j o ho)) hRun
  | cons o os ih =>
    intro tb m av s g z' hos htb hw hat hstk hF hD hA hU hRun
    have ho : ops[m]? = some o := by
      have : (ops.toList.drop m)[0]? = some o := by rw [hos]; rfl
      rw [List.getElem?_drop] at this
      simpa using this
    have hos' : ops.toList.drop (m + 1) = os := by
      have : (ops.toList.drop m).drop 1 = os := by rw [hos]; rfl
      simpa [List.drop_drop] using this
    have htab := D.tab m o ho
    have htb0 : tb = (m, edgeM o.after.toList 0) :: tab.drop (m + 1) := by
      rw [← htb]
      have hlt := (List.getElem?_eq_some_iff.1 htab).1
      rw [List.drop_eq_getElem_cons hlt]
      congr 1
      exact (List.getElem?_eq_some_iff.1 htab).2
    subst htb0
    have hdn : ∀ t, o.dst = some t → t < nn := dstOk_mem hdst o (by
      have : o ∈ ops.toList.drop m := by rw [hos]; simp
      exact List.mem_of_mem_drop this)
    have hmav : inM m av = false := by
      cases h : inM m av with
      | false => rfl
      | true => exact absurd (hU m h) (Nat.lt_irrefl _)
    -- one more has run
    have next : ∀ (s1 : St) (g1 : Act) (v0 : Value), At τ w0 base M nn (oldA :: as) s1 (g.put o.dst v0) w → (∃ r, s1.stk = old :: r) → (Dn m → v0 = z m) → (isR o = true → ¬ Dn m → Comes' P ops w g o v0) → Avl ops p av m o →
        fill τ ops.toList p avO su old os (tab.drop (m + 1)) (addM m av) s1 K → G := by
      intro s1 _ v0 hat1 hstk1 hDm hcm havl hfill
      let z2 : Nat → Value := fun k => if k = m then v0 else z' k
      have hz2 : ∀ k, k ≠ m → z2 k = z' k := fun k hk => by simp [z2, hk]
      have hz2m : z2 m = v0 := by simp [z2]
      have hF2 : Fills ops (fun i => inM i av = true) z2 a0 g.tmps := hF.congr (fun _ => Iff.rfl) fun i hi => hz2 i (Nat.ne_of_lt (hU i hi))
      have hsz : nn ≤ g.tmps.size := by obtain ⟨_, _, _, _, h, _⟩ := hat; exact h
      have hin : ∀ i, inM i (addM m av) = true ↔ inM i av = true ∨ i = m := fun i => by rw [inM_add]; simp
      refine ih _ (m + 1) (addM m av) s1 (g.put o.dst v0) z2 hos' rfl hfill hat1 hstk1 ?_ ?_ ?_ ?_ ?_
      · rw [← hz2m]
        exact hF2.put D ho (fun t ht => Nat.lt_of_lt_of_le (hdn t ht) hsz) hin
      · intro j hj
        by_cases e : j = m
        · subst e; rw [hz2m]; exact hDm hj
        · rw [hz2 j e]; exact hD j hj
      · intro j q hq hlt
        have hmono : ∀ (j : Nat) (q : Oper), ops[j]? = some q → j ≤ m → (Avl ops p (addM m av) j q ↔ Avl ops p av j q) := by
          intro j q hq hle
          unfold Avl
          constructor
          · rintro (⟨h1, h2⟩ | h)
            · exact .inl ⟨h1, fun k hk => ((hin k).1 (h2 k hk)).resolve_right (fun e => by subst e; have := D.back _ _ hk; omega)⟩
            · exact .inr h
          · rintro (⟨h1, h2⟩ | h)
            · exact .inl ⟨h1, fun k hk => (hin k).2 (.inl (h2 k hk))⟩
            · exact .inr h
        rw [hin, hmono j q hq (by omega)]
        by_cases e : j = m
        · subst e
          rw [ho] at hq
          injection hq with hq
          subst hq
          exact ⟨fun _ => havl, fun _ => .inr rfl⟩
        · rw [← hA j q hq (by omega)]
          exact ⟨fun h => h.resolve_right e, .inl⟩
      · intro j hj
        rcases (hin j).1 hj with h | rfl
        · have := hU j h; omega
        · omega
      · intro j q hq hRq hj hnd
        by_cases e : j = m
        · subst e
          rw [ho] at hq
          injection hq with hq
          subst hq
          refine ⟨g, _, hF2, hU, ?_, by rw [hz2m]; exact hcm hRq hnd⟩
          rcases havl with h | h
          · exact h.2
          · rw [hRq] at h; exact absurd h.1 (by simp)
        · have hj' := ((hin j).1 hj).resolve_right e
          exact (hRun j q hq hRq hj' hnd).congr fun k hk => hz2 k (by have := hU j hj'; omega)
    -- it has not run
    have pass : ¬ Avl ops p av m o → fill τ ops.toList p avO su old os (tab.drop (m + 1)) av s K → G := by
      intro hn hfill
      refine ih _ (m + 1) av s g z' hos' rfl hfill hat hstk hF hD ?_ (fun j hj => by have := hU j hj; omega) hRun
      intro j q hq hlt
      by_cases e : j = m
      · subst e
        rw [ho] at hq
        injection hq with hq
        subst hq
        rw [hmav]
        exact ⟨fun h => by simp at h, fun h => absurd h hn⟩
      · exact hA j q hq (by omega)
    have putD : ∀ {s1 : St} {x : SV} {v0 : Value} {d : Tmp}, o.dst = some d → AtV τ w0 base M nn (oldA :: as) s1 g w x v0 → At τ w0 base M nn (oldA :: as) (putS d x s1) (g.put o.dst v0) w := by
      intro s1 x v0 d hd h
      rw [hd]
      exact h.put (hdn d hd)
    simp only [fill, forceSt_eq] at hw
    split at hw
    · rename_i d hr hd
      have hav : subM (edgeM o.after.toList 0) av = true ↔ ∀ k, Waits ops k m → inM k av = true := by
        rw [subM_iff]
        exact ⟨fun h k hk => h k ((waits_inM ho).2 hk), fun h k hk => h k ((waits_inM ho).1 hk)⟩
      split at hw
      · rename_i hsub
        have havl : Avl ops p av m o := .inl ⟨hr, hav.1 hsub⟩
        have hat1 := fun (s1 : St) (h : s1.stk = s.stk) => show ∃ r, s1.stk = old :: r by rw [h]; exact hstk
        split at hw
        · rename_i h1 h2
          rw [SV.force_eq, forceN_eq] at hw
          have hDm := hsu m h2
          have hv := hat.second hstk d
          rw [hold m o d ho hd hDm] at hv
          exact next _ g (z m) (putD hd hv) (by rw [putS_stk]; exact hstk) (fun _ => rfl) (fun _ h => absurd hDm h) havl hw
        · rename_i h1 h2
          rw [forceN_eq] at hw
          rcases guardO_sound hat (guardO_stk hw) with ⟨hwd, s1, ⟨g2, gs⟩, g3⟩ | ⟨hwd, s1, ⟨g2, gs⟩, g3⟩
          · obtain ⟨E, e0, e1, e2, e3, e4⟩ := id g3
            obtain ⟨v, hKv, zz, hrun, hvd⟩ := RV.wp_good g2 (evR_good (o := o) hτ e0)
            rw [SV.force_eq] at hKv
            obtain ⟨v', hfill, hx, hv⟩ := relV_spec hKv
            by_cases hDm : Dn m
            · have hv0 := g3.second (hat1 s1 gs) d
              rw [hold m o d ho hd hDm] at hv0
              exact next _ g (z m) (putD hd (hv0.conv fun E R h => hx E R w _ h)) (by rw [putS_stk]; exact hat1 s1 gs) (fun _ => rfl) (fun _ h => absurd hDm h) havl hfill
            · exact next _ g zz (putD hd ⟨E, e0, e1, e2, e3, e4, hv _ _ _ _ hvd⟩) (by rw [putS_stk]; exact hat1 s1 gs) (fun h => absurd h hDm) (fun _ _ => .inl ⟨hwd, hrun⟩) havl hfill
          · rw [SV.force_eq] at g2
            by_cases hDm : Dn m
            · have hv0 := g3.second (hat1 s1 gs) d
              rw [hold m o d ho hd hDm] at hv0
              exact next _ g (z m) (putD hd (hv0.conv fun E R h => skipV_vd h)) (by rw [putS_stk]; exact hat1 s1 gs) (fun _ => rfl) (fun _ h => absurd hDm h) havl g2
            · exact next _ g undef (putD hd (g3.skipped.conv fun E R h => skipV_undef _ h)) (by rw [putS_stk]; exact hat1 s1 gs) (fun h => absurd h hDm) (fun _ _ => .inr ⟨hwd, rfl⟩) havl g2
        · rename_i h1
          have hDm : ¬ Dn m := fun h => by rw [hR m o ho hr h] at h1; exact absurd h1 (by simp)
          rw [forceN_eq] at hw
          rcases guardO_sound hat (guardO_stk hw) with ⟨hwd, s1, ⟨g2, gs⟩, g3⟩ | ⟨hwd, s1, ⟨g2, gs⟩, g3⟩
          · obtain ⟨E, e0, e1, e2, e3, e4⟩ := id g3
            obtain ⟨v, hKv, zz, hrun, hvd⟩ := RV.wp_good g2 (evR_good (o := o) hτ e0)
            exact next _ g zz (putD hd ⟨E, e0, e1, e2, e3, e4, hvd⟩) (by rw [putS_stk]; exact hat1 s1 gs) (fun h => absurd h hDm) (fun _ _ => .inl ⟨hwd, hrun⟩) havl hKv
          · exact next _ g undef (putD hd g3.skipped) (by rw [putS_stk]; exact hat1 s1 gs) (fun h => absurd h hDm) (fun _ _ => .inr ⟨hwd, rfl⟩) havl g2
      · rename_i hsub
        refine pass ?_ hw
        rintro (h | h)
        · rw [hav.2 h.2] at hsub; exact absurd hsub (by simp)
        · rw [hr] at h; exact absurd h.1 (by simp)
    · exact hw.elim
    · rename_i d0 hr
      split at hw
      · rename_i hp
        have hDm := hW m o ho hr hp
        rw [forceN_eq] at hw
        have havl : Avl ops p av m o := .inr ⟨hr, hp⟩
        split at hw
        · rename_i d hd
          rw [SV.force_eq] at hw
          have hv := hat.second hstk d
          rw [hold m o d ho hd hDm] at hv
          exact next _ g (z m) (putD hd hv) (by rw [putS_stk]; exact hstk) (fun _ => rfl) (fun _ h => absurd hDm h) havl hw
        · rename_i hd
          refine next s g (z m) (by rw [hd]; exact hat) hstk (fun _ => rfl) (fun _ h => absurd hDm h) havl hw
      · rename_i hp
        refine pass ?_ hw
        rintro (h | h)
        · rw [hr] at h; exact absurd h.1 (by simp)
        · rw [hp] at h; exact absurd h.2 (by simp)
end
end Go.Proofs.Ytmgccphapkmmeaa
