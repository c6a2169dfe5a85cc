/- A symbolic executor for loaded Go code: a function that meets its contract, on. -/
import Derived.Test.YtmgccphapkmmeaaVY
namespace Go.Proofs.Ytmgccphapkmmeaa
open Go.RowKit

section
variable {P : Program} {τ : Tys} {w0 : World} {as : List (Array Value)} {E : Env} {w : World} {s : St}

/-! ### 3. What is handed back -/
def Eout (E : Env) (A : List (Nat × Option Nat)) : Env := ⟨E.base, E.base, fun _ => 0, fun i => match lk A i with
  | some (some k) => E.hs k
  | _ => .slice none 0 0, fun g => ∃ i k, lk A i = some (some k) ∧ (E.hs k).ownBlock = some g⟩
def PairOk (E : Env) (A : List (Nat × Option Nat)) (p : Nat × Option Nat) : Prop := match p.2 with
  | some k => (Eout E A).hs p.1 = E.hs k
  | none => (Eout E A).hs p.1 = .slice none 0 0
theorem lk_mem {α : Type} : ∀ {l : List (Nat × α)} {k : Nat} {v : α}, lk l k = some v → (k, v) ∈ l
  | [], k, v, h => by simp [lk] at h
  | (j, x) :: l, k, v, h => by
    simp only [lk] at h
    split at h
    · rename_i hj
      obtain rfl := Nat.eq_of_beq_eq_true hj
      simp at h
      subst h
      exact List.mem_cons_self
    · exact List.mem_cons_of_mem _ (lk_mem h)
theorem lk_of_mem {α : Type} : ∀ {l : List (Nat × α)} {k : Nat} {v : α}, (k, v) ∈ l → ∃ v', lk l k = some v'
  | [], k, v, h => by simp at h
  | (j, x) :: l, k, v, h => by
    simp only [lk]
    split
    · exact ⟨_, rfl⟩
    · rename_i hj
      rcases List.mem_cons.1 h with h | h
      · injection h with h1 h2; subst h1; simp at hj
      · exact lk_of_mem h
theorem beq_ff {a b : Nat} (h : Nat.beq a b = false) : a ≠ b := fun e => by subst e; simp at h
theorem soleK_spec {i k : Nat} : ∀ {A : List (Nat × Option Nat)}, soleK i k A = true → ∀ p ∈ A, match p.2 with
    | some k' => p.1 = i ↔ k = k'
    | none => p.1 ≠ i
  | [], _, p, hp => by simp at hp
  | (j, some k') :: A, h, p, hp => by
    simp only [soleK] at h
    split at h
    · rename_i h1 h2
      rcases List.mem_cons.1 hp with rfl | hp
      · exact ⟨fun _ => Nat.eq_of_beq_eq_true h2, fun _ => Nat.eq_of_beq_eq_true h1⟩
      · exact soleK_spec h p hp
    · rename_i h1 h2
      rcases List.mem_cons.1 hp with rfl | hp
      · exact ⟨fun e => absurd e (beq_ff h1), fun e => absurd e (beq_ff h2)⟩
      · exact soleK_spec h p hp
    · simp at h
  | (j, none) :: A, h, p, hp => by
    simp only [soleK] at h
    split at h
    · simp at h
    · rename_i h1
      rcases List.mem_cons.1 hp with rfl | hp
      · exact beq_ff h1
      · exact soleK_spec h p hp
theorem soleAll_spec {A : List (Nat × Option Nat)} : ∀ {B : List (Nat × Option Nat)}, soleAll A B = true → ∀ i k, (i, some k) ∈ B → soleK i k A = true
  | [], _, i, k, hp => by simp at hp
  | (j, some k') :: B, h, i, k, hp => by
    simp only [soleAll] at h
    split at h
    · rename_i h1
      rcases List.mem_cons.1 hp with hp | hp
      · injection hp with e1 e2; injection e2 with e2; subst e1; subst e2; exact h1
      · exact soleAll_spec h i k hp
    · simp at h
  | (j, none) :: B, h, i, k, hp => by
    simp only [soleAll] at h
    rcases List.mem_cons.1 hp with hp | hp
    · injection hp with e1 e2; simp at e2
    · exact soleAll_spec (B := B) h i k hp
theorem coverAll_spec {A : List (Nat × Option Nat)} : ∀ {n : Nat}, coverAll A n = true → ∀ i, i < n → ∃ o, lk A i = some o
  | 0, _, i, hi => by omega
  | n + 1, h, i, hi => by
    simp only [coverAll] at h
    split at h
    · rename_i o ho
      by_cases e : i = n
      · subst e; exact ⟨o, ho⟩
      · exact coverAll_spec h i (by omega)
    · simp at h
theorem pair_ok {A : List (Nat × Option Nat)} (hs : soleAll A A = true) : ∀ p ∈ A, PairOk E A p := by
  rintro ⟨i, o⟩ hp
  obtain ⟨o', ho'⟩ := lk_of_mem hp
  have hm := lk_mem ho'
  cases o with
  | some k =>
    have := soleK_spec (soleAll_spec hs i k hp) _ hm
    cases o' with
    | some k' => have e := this.1 rfl; subst e; simp [PairOk, Eout, ho']
    | none => exact absurd rfl this
  | none =>
    cases o' with
    | some k' => exact absurd rfl (soleK_spec (soleAll_spec hs i k' hm) _ hp)
    | none => simp [PairOk, Eout, ho']
def OutOk (E : Env) (A : List (Nat × Option Nat)) : Prop := (∀ g, (Eout E A).ow g → E.ow g) ∧ E.base ≤ E.M
theorem out_F {A : List (Nat × Option Nat)} (hA : OutOk E A) {g : Nat} (h : E.F .new g) : (Eout E A).F .new g := ⟨fun e => h.1 (hA.1 g e), Nat.le_trans hA.2 h.2⟩
theorem matchV_vd {R : List (Nat × Ent)} {rows : List Rw} {A : List (Nat × Option Nat)} (hA : OutOk E A) {x v : SV} {u : Value} (hm : matchV R rows x v) (hp : ∀ p ∈ pairV x v, PairOk E A p) (h : vd0 E R w x u) :
    vd0 (Eout E A) (resRows rows 0) w v u := by
  unfold matchV at hm
  split at hm
  · obtain ⟨rfl, rfl⟩ := hm; exact h
  · subst hm; exact h
  · subst hm; exact h
  · subst hm; exact h
  · rename_i k i
    split at hm
    · rename_i r r' hk hi
      subst hm
      have := hp (i, some k) (by simp [pairV])
      simp only [vd0] at h ⊢
      rw [hk] at h
      rw [nth_eq] at hi
      rw [lk_resRows, if_pos (Nat.zero_le _), Nat.sub_zero, hi]
      exact h.trans (Eq.symm this)
    · exact hm.elim
  · rename_i r i
    split at hm
    · rename_i r' hi
      subst hm
      have := hp (i, none) (by simp [pairV])
      obtain ⟨rfl, h0⟩ := h
      simp only [vd0]
      rw [nth_eq] at hi
      rw [lk_resRows, if_pos (Nat.zero_le _), Nat.sub_zero, hi]
      exact Eq.symm this
    · exact hm.elim
  · subst hm; exact RowDen.mono h fun g hg _ => ⟨rfl, out_F hA hg⟩
  · subst hm; obtain ⟨rfl, h0⟩ := h; exact empty_row h0 _
  · split at hm
    · rename_i r hk
      subst hm
      simp only [vd0] at h ⊢
      rw [hk] at h
      exact RowDen.mono h fun g hg _ => ⟨rfl, out_F hA hg⟩
    · exact hm.elim
  · exact hm.elim
/-- Only what is no closure, no aggregate, is so matched. -/
theorem matchV_shape {R : List (Nat × Ent)} {rows : List Rw} {x v : SV} (hm : matchV R rows x v) : capOk x = true ∧ capOk v = true := by
  unfold matchV at hm
  split at hm <;> first | exact ⟨rfl, rfl⟩ | exact hm.elim
theorem vd0_of_cap {R : List (Nat × Ent)} {x : SV} {u : Value} (hc : capOk x = true) (h : vd3 E R w x u) : vd0 E R w x u := by cases x <;> first | exact h | (simp [capOk] at hc; done)
theorem vd1_of_cap {R : List (Nat × Ent)} {x : SV} {u : Value} (hc : capOk x = true) (h : vd1 E R w x u) : vd0 E R w x u := by cases x <;> first | exact h | (simp [capOk] at hc; done)
theorem matchL_vd {p : SV → SV → Prop} {q q' : SV → Value → Prop} {pr : SV → SV → List (Nat × Option Nat)} {A : List (Nat × Option Nat)}
    (hf : ∀ x v u, p x v → (∀ c ∈ pr x v, PairOk E A c) → q x u → q' v u) : ∀ (cs cs' : List SV) (us : List Value), matchL p cs cs' → (∀ c ∈ pairL pr cs cs', PairOk E A c) → L0 q cs us → L0 q' cs' us
  | [], [], us, _, _, h => by obtain rfl := h.inv_nil; exact L0.nil
  | x :: cs, y :: cs', us, hm, hp, h => by
    obtain ⟨u, us', rfl, h1, h2⟩ := h.inv_cons
    exact .cons (hf x y u hm.1 (fun c hc => hp c (by simp [pairL, hc])) h1) (matchL_vd hf cs cs' us' hm.2 (fun c hc => hp c (by simp [pairL, hc])) h2)
  | [], _ :: _, _, hm, _, _ => hm.elim
  | _ :: _, [], _, hm, _, _ => hm.elim
theorem matchA_vd {R : List (Nat × Ent)} {rows : List Rw} {A : List (Nat × Option Nat)} (hA : OutOk E A) {x v : SV} {u : Value} (hm : matchA R rows x v) (hp : ∀ p ∈ pairA x v, PairOk E A p) (h : vd2 E R w x u) :
    vd2 (Eout E A) (resRows rows 0) w v u := by
  unfold matchA at hm
  split at hm
  · rename_i cs cs'
    obtain ⟨us, rfl, hl⟩ := h
    refine ⟨us, rfl, matchL_vd (fun x v u h1 h2 h3 => ?_) cs cs' us hm hp hl⟩
    obtain ⟨c1, c2⟩ := matchV_shape h1
    exact old0_vd1 (matchV_vd hA h1 h2 (vd1_of_cap c1 h3))
  · rename_i hne
    obtain ⟨c1, c2⟩ := matchV_shape hm
    have hp' : ∀ p ∈ pairV x v, PairOk E A p := by
      intro p hpm
      refine hp p ?_
      unfold pairA
      split
      · rename_i cs cs'; exact absurd rfl (hne cs cs' rfl)
      · exact hpm
    have h3 : vd3 E R w x u := by cases x <;> first | exact h | (simp [capOk] at c1; done)
    have := matchV_vd hA hm hp' (vd0_of_cap c1 h3)
    cases v <;> first | exact this | (simp [capOk] at c2; done)
theorem matchA_shape {R : List (Nat × Ent)} {rows : List Rw} {x v : SV} (hm : matchA R rows x v) : (∀ c, x ≠ .tup c) ∧ ∀ c, v ≠ .tup c := by
  unfold matchA at hm
  split at hm
  · exact ⟨fun c => by simp, fun c => by simp⟩
  · obtain ⟨c1, c2⟩ := matchV_shape hm
    exact ⟨fun c e => by subst e; simp [capOk] at c1, fun c e => by subst e; simp [capOk] at c2⟩
theorem matchT_vd {R : List (Nat × Ent)} {rows : List Rw} {A : List (Nat × Option Nat)} (hA : OutOk E A) {x v : SV} {u : Value} (hm : matchT R rows x v) (hp : ∀ p ∈ pairT x v, PairOk E A p) (h : vd3 E R w x u) :
    vd3 (Eout E A) (resRows rows 0) w v u := by
  unfold matchT at hm
  split at hm
  · rename_i cs cs'
    obtain ⟨us, rfl, hl⟩ := h
    exact ⟨us, rfl, matchL_vd (q := vd2 E R w) (q' := vd2 (Eout E A) (resRows rows 0) w) (p := matchA R rows) (pr := pairA) (fun x v u h1 h2 h3 => matchA_vd hA h1 h2 h3) cs cs' us hm hp hl⟩
  · rename_i hne
    obtain ⟨c1, c2⟩ := matchA_shape hm
    have hp' : ∀ p ∈ pairA x v, PairOk E A p := by
      intro p hpm
      refine hp p ?_
      unfold pairT
      split
      · rename_i cs cs'; exact absurd rfl (c1 cs)
      · exact hpm
    have h2 : vd2 E R w x u := by
      cases x with
      | tup c => exact absurd rfl (c1 c)
      | _ => exact h
    have := matchA_vd hA hm hp' h2
    cases v with
    | tup c => exact absurd rfl (c2 c)
    | _ => exact this
/-- What a pair says of the rows. -/
theorem pairV_rows {R : List (Nat × Ent)} {rows : List Rw} {x v : SV} {u : Value} (hm : matchV R rows x v) (h : vd0 E R w x u) : ∀ p ∈ pairV x v, ∃ r, rows[p.1]? = some r ∧ match p.2 with
    | some k => lk R k = some (.own r)
    | none => r.len = 0 := by
  intro p hp
  unfold pairV at hp
  split at hp
  · rename_i k i
    simp at hp
    subst hp
    simp only [matchV] at hm
    split at hm
    · rename_i r r' hk hi
      subst hm
      exact ⟨r, by rw [← nth_eq]; exact hi, hk⟩
    · exact hm.elim
  · rename_i r i
    simp at hp
    subst hp
    simp only [matchV] at hm
    split at hm
    · rename_i r' hi
      subst hm
      exact ⟨r, by rw [← nth_eq]; exact hi, h.2⟩
    · exact hm.elim
  · simp at hp
theorem pairL_rows {R : List (Nat × Ent)} {rows : List Rw} {p : SV → SV → Prop} {q : SV → Value → Prop} {pr : SV → SV → List (Nat × Option Nat)}
    (hf : ∀ x v u, p x v → q x u → ∀ c ∈ pr x v, ∃ r, rows[c.1]? = some r ∧ match c.2 with
      | some k => lk R k = some (.own r)
      | none => r.len = 0) : ∀ (cs cs' : List SV) (us : List Value), matchL p cs cs' → L0 q cs us → ∀ c ∈ pairL pr cs cs', ∃ r, rows[c.1]? = some r ∧ match c.2 with
      | some k => lk R k = some (.own r)
      | none => r.len = 0
  | [], [], us, _, _, c, hc => by simp [pairL] at hc
  | x :: cs, y :: cs', us, hm, h, c, hc => by
    obtain ⟨u, us', rfl, h1, h2⟩ := h.inv_cons
    simp only [pairL, List.mem_append] at hc
    rcases hc with hc | hc
    · exact hf x y u hm.1 h1 c hc
    · exact pairL_rows hf cs cs' us' hm.2 h2 c hc
  | [], _ :: _, _, hm, _, _, _ => hm.elim
  | _ :: _, [], _, hm, _, _, _ => hm.elim
theorem pairA_rows {R : List (Nat × Ent)} {rows : List Rw} {x v : SV} {u : Value} (hm : matchA R rows x v) (h : vd2 E R w x u) : ∀ p ∈ pairA x v, ∃ r, rows[p.1]? = some r ∧ match p.2 with
    | some k => lk R k = some (.own r)
    | none => r.len = 0 := by
  unfold matchA at hm
  split at hm
  · rename_i cs cs'
    obtain ⟨us, rfl, hl⟩ := h
    exact pairL_rows (q := vd1 E R w) (p := matchV R rows) (pr := pairV) (fun x v u h1 h2 => pairV_rows (E := E) (w := w) (u := u) h1 (vd1_of_cap (matchV_shape h1).1 h2)) cs cs' us hm hl
  · rename_i hne
    obtain ⟨c1, c2⟩ := matchV_shape hm
    intro p hp
    unfold pairA at hp
    split at hp
    · rename_i cs cs'; exact absurd rfl (hne cs cs' rfl)
    · have h3 : vd3 E R w x u := by cases x <;> first | exact h | (simp [capOk] at c1; done)
      exact pairV_rows hm (vd0_of_cap c1 h3) p hp
theorem pairT_rows {R : List (Nat × Ent)} {rows : List Rw} {x v : SV} {u : Value} (hm : matchT R rows x v) (h : vd3 E R w x u) : ∀ p ∈ pairT x v, ∃ r, rows[p.1]? = some r ∧ match p.2 with
    | some k => lk R k = some (.own r)
    | none => r.len = 0 := by
  unfold matchT at hm
  split at hm
  · rename_i cs cs'
    obtain ⟨us, rfl, hl⟩ := h
    exact pairL_rows (q := vd2 E R w) (p := matchA R rows) (pr := pairA) (fun x v u h1 h2 => pairA_rows (E := E) (w := w) (u := u) h1 h2) cs cs' us hm hl
  · rename_i hne
    obtain ⟨c1, c2⟩ := matchA_shape hm
    intro p hp
    unfold pairT at hp
    split at hp
    · rename_i cs cs'; exact absurd rfl (c1 cs)
    · have h2 : vd2 E R w x u := by
        cases x with
        | tup c => exact absurd rfl (c1 c)
        | _ => exact h
      exact pairA_rows hm h2 p hp
theorem ownsRow_less {b b' : Nat} (h : b ≤ b') {e : TypeId} {sz : Nat} {v : Value} {n : Nat} {us : List Value} (ho : w.ownsRow b' e sz v n us) : w.ownsRow b e sz v n us := by
  refine ⟨ho.1, ?_⟩
  rcases ho.2 with h1 | ⟨g, cap, cur, hv, hg, h2⟩
  · exact .inl h1
  · exact .inr ⟨g, cap, cur, hv, Nat.le_trans h hg, h2⟩
theorem match_res {a : Act} (hd : Den τ w0 E s (a.tmps :: as) w) (hb : E.base ≤ E.M) {x v : SV} {rows : List Rw} {u : Value} (hm : matchT s.rows rows x v) (hs : soleAll (pairT x v) (pairT x v) = true) (hc : coverAll (pairT x v) rows.length = true)
    (h : vd3 E s.rows w x u) : Res τ E.base w v rows u := by
  have hrows := pairT_rows hm h
  have hpo := pair_ok (E := E) hs
  have hown : ∀ i k, lk (pairT x v) i = some (some k) → ∃ r, rows[i]? = some r ∧ lk s.rows k = some (.own r) := fun i k hk => hrows _ (lk_mem hk)
  have hA : OutOk E (pairT x v) := by
    refine ⟨?_, hb⟩
    rintro g ⟨i, k, hk, hg⟩
    obtain ⟨r, _, hr⟩ := hown i k hk
    exact (hd.own k _ _ _ hr rfl).ow g hg
  refine ⟨Eout E (pairT x v), rfl, rfl, ?_, ?_, ?_, matchT_vd hA hm hpo h⟩
  · intro g hg
    exact hd.owb g (hA.1 g hg)
  · intro i r hi
    obtain ⟨o, ho⟩ := coverAll_spec hc i (List.getElem?_eq_some_iff.1 hi).1
    cases o with
    | some k =>
      obtain ⟨r', hr', hk⟩ := hown i k ho
      rw [hi] at hr'
      injection hr' with hr'
      subst hr'
      have hO := hd.own k _ _ _ hk rfl
      have hh : (Eout E (pairT x v)).hs i = E.hs k := by simp [Eout, ho]
      obtain ⟨us, h1, h2⟩ := hO.row
      refine ⟨fun g hg => ⟨i, k, ho, by rw [← hh]; exact hg⟩, hO.fits, us, by rw [hh]; exact ownsRow_less hb h1, fun i' j x' hi' hx' => ?_⟩
      obtain ⟨u, hu, hcd⟩ := h2 i' j x' hi' hx'
      rw [if_pos hi'] at hcd ⊢
      exact ⟨u, hu, cd1.mono hcd fun g hg _ => ⟨rfl, out_F hA hg⟩⟩
    | none =>
      obtain ⟨r', hr', h0⟩ := hrows _ (lk_mem ho)
      rw [hi] at hr'
      injection hr' with hr'
      subst hr'
      have h0 : r.len = 0 := h0
      have hh : (Eout E (pairT x v)).hs i = .slice none 0 0 := by simp [Eout, ho]
      refine ⟨fun g hg => by rw [hh] at hg; simp [Value.ownBlock] at hg, by rw [h0]; simp, [], ?_, fun i' j x' hi' => by omega⟩
      rw [hh, h0]
      exact ⟨by simp, .inl ⟨rfl, rfl⟩⟩
  · intro i j ri rj g hi hj hne hg hg'
    obtain ⟨o, ho⟩ := coverAll_spec hc i (List.getElem?_eq_some_iff.1 hi).1
    obtain ⟨o', ho'⟩ := coverAll_spec hc j (List.getElem?_eq_some_iff.1 hj).1
    cases o with
    | none => simp [Eout, ho, Value.ownBlock] at hg
    | some k =>
      cases o' with
      | none => simp [Eout, ho', Value.ownBlock] at hg'
      | some k' =>
        obtain ⟨r, _, hr⟩ := hown i k ho
        obtain ⟨r', _, hr'⟩ := hown j k' ho'
        have hkk : k ≠ k' := fun e => by
          have := soleK_spec (soleAll_spec hs i k (lk_mem ho)) _ (lk_mem ho')
          exact hne (this.2 e).symm
        simp [Eout, ho] at hg
        simp [Eout, ho'] at hg'
        exact hd.rr k k' _ _ _ _ g hr hr' rfl rfl hkk hg hg'
/-! ### 4. A function meets its contract -/
theorem valid_of_vc (hm : P.follows .mixedOrders = true) (hτ : TysOk P τ) {f : FuncId} {fn : Func} {code : Code} (hf : P.funcs[f]? = some fn) (hb : fn.body = some code) (D : Draws) (hok : codeOk D fn.ntmps code = true) (sp : Spec)
    (h : ∀ args, argFits args → (sp args).vc fun v rows => allB argOkF args = true ∧ ∃ C, CtxOk P τ C ∧ ∃ L, wpC τ C D L code (startSt args) (retK τ fn.results.toList v rows)) : Valid P τ f sp := by
  intro args vals w hargs
  have key : ∀ v rows, (allB argOkF args = true ∧ ∃ C, CtxOk P τ C ∧ ∃ L, wpC τ C D L code (startSt args) (retK τ fn.results.toList v rows)) → Calls P f vals.toArray w fun e w' => ∃ z, e = .returned z ∧ Below w.heap.size w w' ∧ Res τ w.heap.size w' v rows z := by
    rintro v rows ⟨ha, C, hC, L, hw⟩
    refine calls_of_wp hf hb (wpC_sound hτ hC hm code _ _ _ _ _ hok hw (start_den ha hargs) ?_)
    intro e s a w' hk hat
    obtain ⟨E, hd, h1, h2, h3, h4⟩ := hat
    have fin : resVals τ s fn.results.toList [] (fun vs => (oneOf vs).force fun x => match soleAll (pairT x v) (pairT x v), coverAll (pairT x v) rows.length with
        | true, true => matchT s.rows rows x v
        | _, _ => False) → a.defers = [] ∧ ∃ z, (results fn a.tmps).run P w' = .ok z w' ∧ ∃ z', Ending.returned z = .returned z' ∧ Below w.heap.size w w' ∧ Res τ w.heap.size w' v rows z' := by
      intro hr
      obtain ⟨xs, vs, hK, hl, hlen, hg⟩ := resVals_ok hτ hd fn.results.toList [] [] hr L0.nil
      rw [SV.force_eq] at hK
      split at hK
      · rename_i hs hc
        simp only [List.nil_append] at hl
        have hno : xs.length = 1 ∨ ∀ x ∈ xs, ∀ c, x ≠ .tup c := by
          cases xs with
          | nil => exact .inr fun x hx => by simp at hx
          | cons x xs =>
            cases xs with
            | nil => exact .inl rfl
            | cons y xs =>
              refine .inr ?_
              have hm : matchT s.rows rows (.tup (x :: y :: xs)) v := hK
              unfold matchT at hm
              split at hm
              · rename_i cs cs' he
                injection he with he
                subst he
                have : ∀ (l l' : List SV), matchL (matchA s.rows rows) l l' → ∀ x ∈ l, ∀ c, x ≠ .tup c := by
                  intro l
                  induction l with
                  | nil => intro l' _ x hx; simp at hx
                  | cons z l ih =>
                    intro l' hm x hx
                    cases l' with
                    | nil => exact hm.elim
                    | cons z' l' =>
                      rcases List.mem_cons.1 hx with rfl | hx
                      · exact (matchA_shape hm.1).1
                      · exact ih l' hm.2 x hx
                exact this _ _ hm
              · exact absurd rfl ((matchA_shape hm).1 _)
        have hz := one_vd hl hno
        refine ⟨h4, oneV vs, results_list rfl hlen hg, oneV vs, rfl, ?_, ?_⟩
        · have := hd.below; rw [h1] at this; exact this
        · have := match_res hd (h1 ▸ h2) hK hs hc hz
          rw [h1] at this
          exact this
      · exact hK.elim
    cases e with
    | exit id => exact hk.elim
    | normal => exact fin hk
    | ret => exact fin hk
  have hsp := h args (argFits_of hargs)
  cases hs : sp args with
  | ok v rows => rw [hs] at hsp; exact key v rows hsp
  | ob q v rows => rw [hs] at hsp; exact fun hq => key v rows (hsp hq)
  | bad => trivial
end
end Go.Proofs.Ytmgccphapkmmeaa
