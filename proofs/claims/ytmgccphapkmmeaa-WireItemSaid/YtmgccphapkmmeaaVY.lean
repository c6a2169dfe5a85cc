/- A symbolic executor for loaded Go code: a function's results. -/
import Derived.Test.YtmgccphapkmmeaaVX
import Derived.Laws.Sem
namespace Go.Proofs.Ytmgccphapkmmeaa
open Go.RowKit

section
variable {P : Program} {τ : Tys} {w0 : World} {as : List (Array Value)} {E : Env} {w : World} {s : St}

/-! ### 2. Its results -/
def getR (tmps : Array Value) : ResultVar → Sem Value
  | .tmp t => pure (tmps.getD t undef)
  | .cell a t => do loadVar t (← asAddr (tmps.getD a undef))
theorem mapM_list {α : Type} (g : α → Sem Value) : ∀ (l : List α) (vs : List Value), l.length = vs.length → (∀ (j : Nat) x, l[j]? = some x → ∃ v, vs[j]? = some v ∧ (g x).run P w = .ok v w) → (l.mapM g).run P w = .ok vs w
  | [], vs, hl, _ => by
    have : vs = [] := List.eq_nil_of_length_eq_zero hl.symm
    subst this
    simp
  | x :: l, [], hl, _ => by simp at hl
  | x :: l, v :: vs, hl, h => by
    obtain ⟨v', hv', hr⟩ := h 0 x (by simp)
    simp at hv'
    subst hv'
    have ih := mapM_list g l vs (by simpa using hl) fun j y hy => by simpa using h (j + 1) y (by simpa using hy)
    simp [List.mapM_cons, hr, ih]
def oneV : List Value → Value
  | [v] => v
  | vs => .tuple vs.toArray
theorem results_list {fn : Func} {rs : List ResultVar} (hrs : fn.results.toList = rs) {tmps : Array Value} {vs : List Value} (hl : rs.length = vs.length)
    (h : ∀ (j : Nat) r, rs[j]? = some r → ∃ v, vs[j]? = some v ∧ (getR tmps r).run P w = .ok v w) : (results fn tmps).run P w = .ok (oneV vs) w := by
  have he : fn.results = rs.toArray := by rw [← hrs]
  have := mapM_list (P := P) (w := w) (getR tmps) rs vs hl h
  have h2 : (rs.toArray.mapM (getR tmps)).run P w = .ok vs.toArray w := by
    rw [List.mapM_toArray]
    simp [Sem.run_map, this]
  have hfun : results fn tmps = (do let vs ← rs.toArray.mapM (getR tmps); pure (if h : vs.size = 1 then vs[0] else .tuple vs)) := by
    unfold results
    rw [he]
    congr 2
  rw [hfun]
  simp only [Sem.run_bind, Sem.run_pure]
  rw [h2]
  simp only [Result.andThen_ok]
  congr 1
  cases vs with
  | nil => rfl
  | cons v vs => cases vs <;> rfl
theorem resVals_ok (hτ : TysOk P τ) {a : Act} {as : List (Array Value)} (hd : Den τ w0 E s (a.tmps :: as) w) {K : List SV → Prop} : ∀ (rs : List ResultVar) (acc : List SV) (us : List Value), resVals τ s rs acc K → L0 (vd3 E s.rows w) acc.reverse us →
    ∃ xs vs, K xs ∧ L0 (vd3 E s.rows w) xs (us ++ vs) ∧ rs.length = vs.length ∧ ∀ (j : Nat) r, rs[j]? = some r → ∃ v, vs[j]? = some v ∧ (getR a.tmps r).run P w = .ok v w
  | [], acc, us, h, ha => ⟨acc.reverse, [], h, by simpa using ha, rfl, fun j r h => by simp at h⟩
  | r :: rs, acc, us, h, ha => by
    have key : ∀ (x : SV) (v : Value), vd3 E s.rows w x v → (getR a.tmps r).run P w = .ok v w → resVals τ s rs (x :: acc) K →
        ∃ xs vs, K xs ∧ L0 (vd3 E s.rows w) xs (us ++ vs) ∧ (r :: rs).length = vs.length ∧ ∀ (j : Nat) r', (r :: rs)[j]? = some r' → ∃ v, vs[j]? = some v ∧ (getR a.tmps r').run P w = .ok v w := by
      intro x v hx hr h
      obtain ⟨xs, vs, h1, h2, h3, h4⟩ := resVals_ok hτ hd rs (x :: acc) (us ++ [v]) h (by
        rw [List.reverse_cons]
        exact ha.append (.cons hx .nil))
      refine ⟨xs, v :: vs, h1, by simpa using h2, by simp [h3], fun j r' hj => ?_⟩
      cases j with
      | zero => simp at hj; subst hj; exact ⟨v, by simp, hr⟩
      | succ j => simpa using h4 j r' (by simpa using hj)
    obtain ⟨b, hb, hfr⟩ := hd.fr 0 s.fr (by simp)
    simp at hb
    subst hb
    cases r with
    | tmp t =>
      simp only [resVals, SV.force_eq] at h
      exact key _ _ (hfr t) (by simp [getR]) h
    | cell c T =>
      simp only [resVals] at h
      obtain ⟨fr, stk, bx, rw', dep⟩ := s
      have hl := load_ok (P := P) hτ hd T (hfr c)
      split at h
      · rename_i v hv
        rw [SV.force_eq] at h
        rw [hv] at hl
        obtain ⟨z, hz, hvd⟩ := hl
        refine key v z hvd ?_ h
        -- an address, for sure
        have : ∃ ad, a.tmps.getD c undef = .pointer (some ad) := by
          cases hc : a.tmps.getD c undef with
          | pointer p =>
            cases p with
            | some ad => exact ⟨ad, rfl⟩
            | none => rw [hc] at hz; simp [Instr.loadAt, Instr.sureAddr] at hz
          | _ => rw [hc] at hz; simp [Instr.loadAt, Instr.sureAddr] at hz
        obtain ⟨ad, had⟩ := this
        rw [had] at hz
        simp only [getR, had, asAddr]
        simpa [Instr.loadAt, Instr.sureAddr] using hz
      · exact h.elim
theorem one_vd {xs : List SV} {vs : List Value} (h : L0 (vd3 E s.rows w) xs vs) (hno : xs.length = 1 ∨ ∀ x ∈ xs, ∀ c, x ≠ .tup c) : vd3 E s.rows w (oneOf xs) (oneV vs) := by
  have tup : (∀ x ∈ xs, ∀ c, x ≠ .tup c) → L0 (vd2 E s.rows w) xs vs := fun hno => h.mono fun x u hx hp => by
    cases x with
    | tup c => exact absurd rfl (hno _ hx c)
    | _ => exact hp
  cases xs with
  | nil => obtain rfl := h.inv_nil; exact ⟨[], rfl, L0.nil⟩
  | cons x xs =>
    obtain ⟨u, us, rfl, h1, h2⟩ := h.inv_cons
    cases xs with
    | nil => obtain rfl := h2.inv_nil; exact h1
    | cons y xs =>
      obtain ⟨u', us', rfl, h3, h4⟩ := h2.inv_cons
      exact ⟨_, rfl, tup (hno.resolve_left (by simp))⟩
end
end Go.Proofs.Ytmgccphapkmmeaa
