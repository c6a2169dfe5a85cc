/- A symbolic executor for loaded Go code: calls that are entered in place. -/
import Derived.Test.YtmgccphapkmmeaaVDec
namespace Go.Proofs.Ytmgccphapkmmeaa
open Go.RowKit

def enterI : List SV → Nat → List (Nat × SV)
  | [], _ => []
  | v :: l, n => (n, v) :: enterI l (n + 1)
/-- Back in the caller's frame. -/
def popK (v : SV) (dep : Nat) (K : SV → St → Prop) : St → Prop
  | ⟨_, fr :: stk, bx, rw, _⟩ => K v ⟨fr, stk, bx, rw, dep⟩
  | _ => False
/-- A call entered in place. -/
noncomputable def inlT (τ : Tys) (C : Ctx) (D : Draws) (L : List (Nat × Inv)) (fn : Func) : CallT := fun args s K => match s with
  | ⟨fr, stk, bx, rw, dep⟩ => Stop (wpC τ C D L (fbody fn) ⟨enterI args 0, fr :: stk, bx, rw, dep + 10000000⟩ fun e s' => match e with
    | .exit _ => False
    | _ => resVals τ s' fn.results.toList [] fun vs => match notTup2 vs with
      | true => (oneOf vs).force fun v => popK v dep K s'
      | false => False)
where notTup2 : List SV → Bool
  | [] => true
  | [_] => true
  | vs => notTup vs
theorem enterI_lkv : ∀ (l : List SV) (us : List Value) (n t : Nat) (p : SV → Value → Prop), (∀ u, p .junk u) → L0 p l us → p (lkv (enterI l n) t) (if n ≤ t then (us[t - n]?).getD undef else undef)
  | [], us, n, t, p, hj, _ => by simp only [enterI, lkv]; exact hj _
  | x :: l, us, n, t, p, hj, h => by
    obtain ⟨u, us', rfl, h1, h2⟩ := h.inv_cons
    simp only [enterI, lkv]
    split
    · rename_i hk
      obtain rfl := Nat.eq_of_beq_eq_true hk
      simpa using h1
    · rename_i hk
      have hne : n ≠ t := fun e => by subst e; simp at hk
      have := enterI_lkv l us' (n + 1) t p hj h2
      by_cases h3 : n + 1 ≤ t
      · rw [if_pos h3] at this
        rw [if_pos (by omega)]
        obtain ⟨j, rfl⟩ : ∃ j, t = n + 1 + j := ⟨t - (n + 1), by omega⟩
        rw [show n + 1 + j - (n + 1) = j by omega] at this
        rw [show n + 1 + j - n = j + 1 by omega]
        simpa using this
      · rw [if_neg h3] at this
        rw [if_neg (by omega)]
        exact this
theorem notTup_spec : ∀ {vs : List SV}, notTup vs = true → ∀ x ∈ vs, ∀ c, x ≠ .tup c
  | [], _, x, hx => by simp at hx
  | y :: l, h, x, hx => by
    rcases List.mem_cons.1 hx with rfl | hx
    · rintro c rfl; simp [notTup] at h
    · refine notTup_spec (vs := l) ?_ x hx
      cases y <;> first | exact h | (simp [notTup] at h; done)
theorem notTup2_spec {vs : List SV} (h : inlT.notTup2 vs = true) : vs.length = 1 ∨ ∀ x ∈ vs, ∀ c, x ≠ .tup c := by
  unfold inlT.notTup2 at h
  split at h
  · exact .inr fun x hx => by simp at hx
  · exact .inl rfl
  · exact .inr (notTup_spec h)
theorem Den.push {τ : Tys} {w0 : World} {E : Env} {fr : List (Nat × SV)} {stk : List (List (Nat × SV))} {bx : List (Nat × (TypeId × List SV))} {rw' : List (Nat × Ent)} {dep : Nat} {as : List (Array Value)} {w : World} (hd : Den τ w0 E ⟨fr, stk, bx, rw', dep⟩ as w)
    {args : List SV} {vals : List Value} (ha : L0 (vd3 E rw' w) args vals) (n dep' : Nat) : Den τ w0 E ⟨enterI args 0, fr :: stk, bx, rw', dep'⟩ ((vals.toArray ++ Array.replicate n undef) :: as) w := by
  refine ⟨hd.below, hd.bM, hd.Mh, hd.owb, ?_, hd.box, hd.own, hd.bb, hd.br, hd.rr⟩
  intro i f hf
  cases i with
  | zero =>
    simp at hf
    subst hf
    refine ⟨_, rfl, fun t => ?_⟩
    have := enterI_lkv args vals 0 t (vd3 E rw' w) (fun u => trivial) ha
    simp only [Nat.zero_le, if_true, Nat.sub_zero] at this
    have he : (vals.toArray ++ Array.replicate n undef).getD t undef = (vals[t]?).getD undef := by
      rw [Array.getD_eq_getD_getElem?, Array.getElem?_append]
      split
      · simp
      · rename_i hlt
        have : vals[t]? = none := by simpa using hlt
        rw [this, Array.getElem?_replicate]
        split <;> rfl
    show vd3 E rw' w _ _
    rw [he]
    exact this
  | succ i => exact hd.fr i f (by simpa using hf)
theorem Den.pop {τ : Tys} {w0 : World} {E : Env} {f0 fr : List (Nat × SV)} {stk : List (List (Nat × SV))} {bx : List (Nat × (TypeId × List SV))} {rw' : List (Nat × Ent)} {dep dep' : Nat} {a0 : Array Value} {as : List (Array Value)} {w : World} (hd : Den τ w0 E ⟨f0, fr :: stk, bx, rw', dep⟩ (a0 :: as) w) :
    Den τ w0 E ⟨fr, stk, bx, rw', dep'⟩ as w := by
  refine ⟨hd.below, hd.bM, hd.Mh, hd.owb, ?_, hd.box, hd.own, hd.bb, hd.br, hd.rr⟩
  intro i f hf
  obtain ⟨b, hb, hfr⟩ := hd.fr (i + 1) f (by simpa using hf)
  exact ⟨b, by simpa using hb, hfr⟩
theorem inl_ok {P : Program} {τ : Tys} (hm : P.follows .mixedOrders = true) (hτ : TysOk P τ) {C : Ctx} (hC : CtxOk P τ C) {f : FuncId} {fn : Func} (hf : P.funcs[f]? = some fn) (D : Draws) (hok : fnOk D fn = true) (L : List (Nat × Inv)) : TrKnown P τ f (inlT τ C D L fn) := by
  refine ⟨fnOk_enters hf hok, ?_⟩
  simp only [fnOk, Bool.and_eq_true] at hok
  have hb : fn.body = some (fbody fn) := by
    cases hb : fn.body with
    | none => have := hok.1.1; rw [hb] at this; simp [isSome'] at this
    | some c => simp [fbody, hb]
  intro w0 E s as w args vals K hd hargs hT
  obtain ⟨fr, stk, bx, rw', dep⟩ := s
  simp only [inlT] at hT
  replace hT := hT.out
  refine calls_of_wp hf hb (wpC_sound (w0 := w0) (base := E.base) (M := E.M) (nn := fn.ntmps) (as := as) hτ hC hm (fbody fn) _ _ _ _ _ hok.2 hT
    (⟨E, hd.push hargs (fn.ntmps - vals.toArray.size) _, rfl, Nat.le_refl _, by simp; omega, rfl⟩ : At τ w0 E.base E.M fn.ntmps as ⟨enterI args 0, fr :: stk, bx, rw', dep + 10000000⟩ { tmps := vals.toArray ++ Array.replicate (fn.ntmps - vals.toArray.size) undef, defers := [] } w) ?_)
  intro e s a w' hk hat
  obtain ⟨E', hd', h1, h2, h3, h4⟩ := hat
  have fin : (resVals τ s fn.results.toList [] fun vs => match inlT.notTup2 vs with
      | true => (oneOf vs).force fun v => popK v dep K s
      | false => False) → a.defers = [] ∧ ∃ z, (results fn a.tmps).run P w' = .ok z w' ∧ ∃ z' v s' E', Ending.returned z = .returned z' ∧ K v s' ∧ Den τ w0 E' s' as w' ∧ E'.base = E.base ∧ E.M ≤ E'.M ∧ vd3 E' s'.rows w' v z' := by
    intro hr
    obtain ⟨xs, vs, hK, hl, hlen, hg⟩ := resVals_ok hτ hd' fn.results.toList [] [] hr L0.nil
    simp only [List.nil_append] at hl
    split at hK
    · rename_i hno
      rw [SV.force_eq] at hK
      have hz := one_vd hl (notTup2_spec hno)
      obtain ⟨f0, stk0, bx0, rw0, dep0⟩ := s
      cases stk0 with
      | nil => exact hK.elim
      | cons fr0 stk0 => exact ⟨h4, oneV vs, results_list rfl hlen hg, oneV vs, _, _, E', rfl, hK, hd'.pop, h1, h2, hz⟩
    · exact hK.elim
  cases e with
  | exit id => exact hk.elim
  | normal => exact fin hk
  | ret => exact fin hk
end Go.Proofs.Ytmgccphapkmmeaa
