/- A symbolic executor for loaded Go code: a body that meets what it has to is what the contract says. -/
import Derived.Test.YtmgccphapkmmeaaVV
import Derived.Deep.LoopGhost
namespace Go.Proofs.Ytmgccphapkmmeaa
open Go.RowKit

section
variable {P : Program} {τ : Tys} {w0 : World} {base M nn : Nat} {as : List (Array Value)}

/-! ### 1. Less is said -/
theorem subV_cases {v x : SV} (h : subV v x) : v = .junk ∨ v = x ∨ (∃ b, v = .bool b ∧ x = .lit b) ∨ (∃ t r, v = .row .any r ∧ x = .row t r) ∨ ∃ t r, v = .row t r ∧ x = .nilS r := by
  unfold subV at h
  split at h
  · exact .inl rfl
  · subst h; exact .inr (.inr (.inl ⟨_, rfl, rfl⟩))
  · subst h; exact .inr (.inl rfl)
  · subst h; exact .inr (.inl rfl)
  · obtain ⟨rfl, rfl⟩ := h; exact .inr (.inl rfl)
  · subst h; exact .inr (.inl rfl)
  · subst h; exact .inr (.inr (.inr (.inl ⟨_, _, rfl, rfl⟩)))
  · subst h; exact .inr (.inl rfl)
  · subst h; exact .inr (.inl rfl)
  · subst h; exact .inr (.inr (.inr (.inr ⟨_, _, rfl, rfl⟩)))
  · exact .inr (.inl h)
/-- Fewer rows. -/
def RwLe (R' R : List (Nat × Ent)) : Prop := ∀ k e, lk R' k = some e → lk R k = some e
theorem vd0.less {E : Env} {R R' : List (Nat × Ent)} {w : World} (hR : RwLe R' R) {x : SV} {u : Value} (h : vd0 E R w x u) : vd0 E R' w x u := by
  cases x with
  | own k =>
    simp only [vd0] at h ⊢
    cases hk : lk R' k with
    | none => trivial
    | some e => rw [hR k e hk] at h; exact h
  | oel k i off =>
    simp only [vd0] at h ⊢
    cases hk : lk R' k with
    | none => trivial
    | some e => rw [hR k e hk] at h; exact h
  | _ => exact h
theorem vdf.less {E : Env} {R R' : List (Nat × Ent)} {w : World} (hR : RwLe R' R) {x : SV} {u : Value} (h : vdf E R w x u) : vdf E R' w x u := by
  cases x with
  | agg cs => obtain ⟨us, rfl, hl⟩ := h; exact ⟨us, rfl, hl.mono fun _ _ _ h => vd0.less hR h⟩
  | own k => exact vd0.less (x := .own k) hR h
  | oel k i off => exact vd0.less (w := w) (x := .oel k i off) hR h
  | _ => exact h
theorem vd1.less {E : Env} {R R' : List (Nat × Ent)} {w : World} (hR : RwLe R' R) {x : SV} {u : Value} (h : vd1 E R w x u) : vd1 E R' w x u := by
  cases x with
  | clo f b c => obtain ⟨us, vs, rfl, h1, h2⟩ := h; exact ⟨us, vs, rfl, h1.mono fun _ _ _ h => vdf.less hR h, h2.mono fun _ _ _ h => vd0.less hR h⟩
  | own k => exact vd0.less (x := .own k) hR h
  | oel k i off => exact vd0.less (w := w) (x := .oel k i off) hR h
  | _ => exact h
theorem vd2.less {E : Env} {R R' : List (Nat × Ent)} {w : World} (hR : RwLe R' R) {x : SV} {u : Value} (h : vd2 E R w x u) : vd2 E R' w x u := by
  cases x with
  | agg cs => obtain ⟨us, rfl, hl⟩ := h; exact ⟨us, rfl, hl.mono fun _ _ _ h => vd1.less hR h⟩
  | clo f b c => exact vd1.less (x := .clo f b c) hR h
  | own k => exact vd0.less (x := .own k) hR h
  | oel k i off => exact vd0.less (w := w) (x := .oel k i off) hR h
  | _ => exact h
theorem vd3.less {E : Env} {R R' : List (Nat × Ent)} {w : World} (hR : RwLe R' R) {x : SV} {u : Value} (h : vd3 E R w x u) : vd3 E R' w x u := by
  cases x with
  | tup cs => obtain ⟨us, rfl, hl⟩ := h; exact ⟨us, rfl, hl.mono fun _ _ _ h => vd2.less hR h⟩
  | agg cs => exact vd2.less (x := .agg cs) hR h
  | clo f b c => exact vd1.less (x := .clo f b c) hR h
  | own k => exact vd0.less (x := .own k) hR h
  | oel k i off => exact vd0.less (w := w) (x := .oel k i off) hR h
  | _ => exact h
theorem sub_vd3 {E : Env} {R R' : List (Nat × Ent)} {w : World} (hR : RwLe R' R) {v x : SV} {u : Value} (hs : subV v x) (h : vd3 E R w x u) : vd3 E R' w v u := by
  rcases subV_cases hs with rfl | rfl | ⟨b, rfl, rfl⟩ | ⟨t, r, rfl, rfl⟩ | ⟨t, r, rfl, rfl⟩
  · trivial
  · exact h.less hR
  · exact h
  · exact RowDen.any h
  · obtain ⟨rfl, h0⟩ := h; exact empty_row h0 _
theorem sub_vd1 {E : Env} {R R' : List (Nat × Ent)} {w : World} (hR : RwLe R' R) {v x : SV} {u : Value} (hs : subV v x) (h : vd1 E R w x u) : vd1 E R' w v u := by
  rcases subV_cases hs with rfl | rfl | ⟨b, rfl, rfl⟩ | ⟨t, r, rfl, rfl⟩ | ⟨t, r, rfl, rfl⟩
  · trivial
  · exact h.less hR
  · exact h
  · exact RowDen.any h
  · obtain ⟨rfl, h0⟩ := h; exact empty_row h0 _
theorem subFr_lkv {f : List (Nat × SV)} : ∀ {l : List (Nat × SV)}, subFr f l → ∀ t, subV (lkv l t) (lkv f t)
  | [], _, t => by unfold lkv; exact trivial
  | (k, v) :: l, h, t => by
    simp only [lkv]
    split
    · rename_i hk
      obtain rfl := Nat.eq_of_beq_eq_true hk
      exact h.1
    · exact subFr_lkv h.2 t
theorem subE_eq {e e' : Ent} (h : subE e e') : e = e' := by
  unfold subE at h
  split at h
  · subst h; rfl
  · exact h
theorem subRw_le {R : List (Nat × Ent)} : ∀ {l : List (Nat × Ent)}, subRw R l → RwLe l R
  | [], _, k, e, hk => by simp [lk] at hk
  | (j, e') :: l, h, k, e, hk => by
    simp only [lk] at hk
    split at hk
    · rename_i hj
      obtain rfl := Nat.eq_of_beq_eq_true hj
      simp at hk
      subst hk
      have := h.1
      split at this
      · rename_i e2 he2; rw [he2, subE_eq this]
      · exact this.elim
    · exact subRw_le h.2 k e hk
theorem subBx_lk {b : List (Nat × (TypeId × List SV))} : ∀ {l : List (Nat × (TypeId × List SV))}, subBx b l → ∀ k T cs, lk l k = some (T, cs) → ∃ cs', lk b k = some (T, cs') ∧ subL cs cs'
  | [], _, k, T, cs, hk => by simp [lk] at hk
  | (j, (T', cs')) :: l, h, k, T, cs, hk => by
    simp only [lk] at hk
    split at hk
    · rename_i hj
      obtain rfl := Nat.eq_of_beq_eq_true hj
      simp at hk
      obtain ⟨rfl, rfl⟩ := hk
      have := h.1
      split at this
      · rename_i T2 cs2 he2
        obtain ⟨rfl, h2⟩ := this
        exact ⟨cs2, he2, h2⟩
      · exact this.elim
    · exact subBx_lk h.2 k T cs hk
theorem subL_get : ∀ {cs cs' : List SV}, subL cs cs' → cs.length = cs'.length ∧ ∀ (j : Nat) x, cs[j]? = some x → ∃ y, cs'[j]? = some y ∧ subV x y
  | [], [], _ => ⟨rfl, fun j x h => by simp at h⟩
  | x :: l, y :: l', h => by
    obtain ⟨h1, h2⟩ := subL_get h.2
    refine ⟨by simp [h1], fun j z hz => ?_⟩
    cases j with
    | zero => simp at hz; subst hz; exact ⟨y, by simp, h.1⟩
    | succ j => simpa using h2 j z (by simpa using hz)
  | [], _ :: _, h => h.elim
  | _ :: _, [], h => h.elim
theorem subStk_eq : ∀ {k k' : List (List (Nat × SV))}, subStk k k' → k = k'
  | [], [], _ => rfl
  | f :: l, f' :: l', h => by rw [h.1, subStk_eq h.2]
  | [], _ :: _, h => h.elim
  | _ :: _, [], h => h.elim
theorem St.sub_spec {T s : St} (h : St.sub T s) : T.stk = s.stk ∧ T.dep = s.dep ∧ subFr s.fr T.fr ∧ subBx s.boxes T.boxes ∧ subRw s.rows T.rows := by
  obtain ⟨fr, stk, bx, rw, dep⟩ := T
  obtain ⟨fr', stk', bx', rw', dep'⟩ := s
  simp only [St.sub] at h
  split at h
  · rename_i hd
    exact ⟨subStk_eq h.1, Nat.eq_of_beq_eq_true hd, h.2⟩
  · exact h.elim
theorem Den.sub {E : Env} {T s : St} {bs : List (Array Value)} {w : World} (hs : St.sub T s) (h : Den τ w0 E s bs w) : Den τ w0 E T bs w := by
  obtain ⟨h1, h2, h3, h4, h5⟩ := St.sub_spec hs
  have hR := subRw_le h5
  refine ⟨h.below, h.bM, h.Mh, h.owb, ?_, ?_, ?_, ?_, ?_, ?_⟩
  · intro i f hf
    cases i with
    | zero =>
      simp at hf
      subst hf
      obtain ⟨b, hb, hd⟩ := h.fr 0 s.fr (by simp)
      exact ⟨b, hb, fun t => sub_vd3 hR (subFr_lkv h3 t) (hd t)⟩
    | succ i =>
      obtain ⟨b, hb, hd⟩ := h.fr (i + 1) f (by simpa [h1] using hf)
      exact ⟨b, hb, fun t => (hd t).less hR⟩
  · intro k T' cs hk
    obtain ⟨cs', hk', hl⟩ := subBx_lk h4 k T' cs hk
    obtain ⟨ho, us, hheap, hcs⟩ := h.box k T' cs' hk'
    obtain ⟨g1, g2⟩ := subL_get hl
    refine ⟨ho, us, hheap, g1.trans hcs.1, fun j x hx => ?_⟩
    obtain ⟨y, hy, hv⟩ := g2 j x hx
    obtain ⟨u, hu, hp⟩ := hcs.2 j y hy
    exact ⟨u, hu, sub_vd1 hR hv hp⟩
  · intro k e lo r hk hm; exact h.own k e lo r (hR k e hk) hm
  · intro k k' b b' hk hk'
    obtain ⟨c, hc, _⟩ := subBx_lk h4 k b.1 b.2 hk
    obtain ⟨c', hc', _⟩ := subBx_lk h4 k' b'.1 b'.2 hk'
    exact h.bb k k' _ _ hc hc'
  · intro k k' b e m hk hk' hm
    obtain ⟨c, hc, _⟩ := subBx_lk h4 k b.1 b.2 hk
    exact h.br k k' _ e m hc (hR k' e hk') hm
  · intro k k' e e' m m' g hk hk'; exact h.rr k k' e e' m m' g (hR k e hk) (hR k' e' hk')

/-! ### 2. Code -/
/-- The machine is where the state says. -/
def At (τ : Tys) (w0 : World) (base M nn : Nat) (as : List (Array Value)) (s : St) (a : Act) (w : World) : Prop :=
  ∃ E, Den τ w0 E s (a.tmps :: as) w ∧ E.base = base ∧ M ≤ E.M ∧ nn ≤ a.tmps.size ∧ a.defers = []
theorem put_size (a : Act) (d : Option Tmp) (v : Value) : (a.put d v).tmps.size = a.tmps.size ∧ (a.put d v).defers = a.defers := by
  cases d <;> simp [Act.put]
theorem At.sub {s T : St} {a : Act} {w : World} (h : At τ w0 base M nn as s a w) (hs : St.sub T s) : At τ w0 base M nn as T a w := by
  obtain ⟨E, hd, h1⟩ := h
  exact ⟨E, hd.sub hs, h1⟩
def Ex.of : Ex → Exit
  | .normal => .normal
  | .exit id => .exit id
  | .ret => .ret
theorem sameB_eq {b c : Bool} (h : sameB b c = true) : b = c := by cases b <;> cases c <;> simp_all [sameB]
theorem sameB_ne {b c : Bool} (h : sameB b c = false) : b ≠ c := by cases b <;> cases c <;> simp_all [sameB]
theorem At.setLit {s : St} {a : Act} {w : World} (h : At τ w0 base M nn as s a w) {t : Nat} {b : Bool} (hv : a.tmps.getD t undef = .bool b) : At τ w0 base M nn as (setLit t b s) a w := by
  obtain ⟨E, hd, h1⟩ := h
  refine ⟨E, ?_, h1⟩
  obtain ⟨fr, stk, bx, rw', dep⟩ := s
  refine ⟨hd.below, hd.bM, hd.Mh, hd.owb, ?_, hd.box, hd.own, hd.bb, hd.br, hd.rr⟩
  intro i f hf
  cases i with
  | zero =>
    simp [Go.Proofs.Ytmgccphapkmmeaa.setLit] at hf
    subst hf
    obtain ⟨c, hc, hfr⟩ := hd.fr 0 fr (by simp)
    refine ⟨c, hc, fun t' => ?_⟩
    simp at hc
    subst hc
    simp only [lkv]
    split
    · rename_i hk
      obtain rfl := Nat.eq_of_beq_eq_true hk
      exact hv
    · exact hfr t'
  | succ i => exact hd.fr (i + 1) f hf
theorem At.skip {s : St} {a : Act} {w : World} (h : At τ w0 base M nn as s a w) {d : Option Tmp} (hd : ∀ t, d = some t → t < nn) : At τ w0 base M nn as (skipO d s) (a.put d undef) w := by
  obtain ⟨E, h0, h1, h2, h3, h4⟩ := h
  refine ⟨E, ?_, h1, h2, by rw [(put_size a d undef).1]; exact h3, by rw [(put_size a d undef).2]; exact h4⟩
  obtain ⟨fr, stk, bx, rw', dep⟩ := s
  have := h0.put (x := .tup []) (v := undef) (d := d) ⟨[], rfl, L0.nil⟩ (fun t ht => Nat.lt_of_lt_of_le (hd t ht) h3)
  cases d with
  | none => exact this
  | some d => exact this
theorem At.get {s : St} {a : Act} {w : World} (h : At τ w0 base M nn as s a w) (t : Nat) : ∃ E R, vd3 E R w (lkv s.fr t) (a.tmps.getD t undef) := by
  obtain ⟨E, hd, _⟩ := h
  obtain ⟨b, hb, hfr⟩ := hd.fr 0 s.fr (by simp)
  simp at hb
  subst hb
  exact ⟨E, _, hfr t⟩
theorem dstOk_mem {n : Nat} : ∀ {l : List Oper}, dstOk n l = true → ∀ o ∈ l, ∀ t, o.dst = some t → t < n
  | [], _, o, ho => by simp at ho
  | o' :: l, h, o, ho => by
    unfold dstOk at h
    split at h
    · rename_i d hd
      split at h
      · rename_i hlt
        rcases List.mem_cons.1 ho with rfl | ho
        · intro t ht; rw [hd] at ht; simp at ht; subst ht; exact Nat.lt_of_succ_le (Nat.le_of_ble_eq_true hlt)
        · exact dstOk_mem h o ho
      · simp at h
    · rename_i hd
      rcases List.mem_cons.1 ho with rfl | ho
      · intro t ht; rw [hd] at ht; simp at ht
      · exact dstOk_mem h o ho
theorem guardO_sound {ops : Array Oper} {o : Oper} {s : St} {a : Act} {w : World} {yes no : St → Prop} (hat : At τ w0 base M nn as s a w) (hw : guardO ops.toList o s yes no) :
    (Region.wanted o (yielded ops a.tmps) = true ∧ ∃ s', yes s' ∧ At τ w0 base M nn as s' a w) ∨ (Region.wanted o (yielded ops a.tmps) = false ∧ ∃ s', no s' ∧ At τ w0 base M nn as s' a w) := by
  unfold guardO at hw
  split at hw
  · rename_i hg
    exact .inl ⟨by simp [Region.wanted, hg], s, hw, hat⟩
  · rename_i j want hg
    have hwd : ∀ b, yielded ops a.tmps j = some b → Region.wanted o (yielded ops a.tmps) = (b == want) := fun b hb => by simp [Region.wanted, hg, hb]
    split at hw
    · exact hw.elim
    · rename_i t ht
      have hy : ∀ b, a.tmps.getD t undef = .bool b → yielded ops a.tmps j = some b := by
        intro b hb
        unfold gslot at ht
        rw [nth_eq] at ht
        split at ht
        · rename_i o' ho'
          have ho2 : ops[j]? = some o' := by simpa using ho'
          unfold yielded
          rw [ho2]
          simp only [Option.bind_some, ht]
          have : a.tmps[t]? = some (.bool b) := by
            cases hx : a.tmps[t]? with
            | none => rw [Array.getD_eq_getD_getElem?, hx] at hb; simp [undef] at hb
            | some x => rw [Array.getD_eq_getD_getElem?, hx] at hb; simpa using hb
          rw [this]
        · simp at ht
      obtain ⟨E', R', hval⟩ := hat.get t
      split at hw
      · rename_i b hl
        rw [hl] at hval
        have hb := hwd b (hy b hval)
        split at hw
        · rename_i hs
          exact .inl ⟨by rw [hb, sameB_eq hs]; simp, s, hw, hat⟩
        · rename_i hs
          exact .inr ⟨by rw [hb]; simpa using sameB_ne hs, s, hw, hat⟩
      · rename_i b hl
        rw [hl] at hval
        have hb := hwd b (hy b hval)
        have hlit := fun c (e : b = c) => hat.setLit (t := t) (b := c) (by rw [← e]; exact hval)
        split at hw
        · cases hbb : b with
          | true => exact .inl ⟨by rw [hb, hbb]; rfl, _, hw.1 hbb, hlit true hbb⟩
          | false => exact .inr ⟨by rw [hb, hbb]; rfl, _, hw.2 hbb, hlit false hbb⟩
        · cases hbb : b with
          | false => exact .inl ⟨by rw [hb, hbb]; rfl, _, hw.1 hbb, hlit false hbb⟩
          | true => exact .inr ⟨by rw [hb, hbb]; rfl, _, hw.2 hbb, hlit true hbb⟩
      · rename_i vs hl
        rw [hl] at hval
        obtain ⟨us, hv, _⟩ := hval
        refine .inr ⟨?_, s, hw, hat⟩
        have : yielded ops a.tmps j = none := by
          unfold gslot at ht
          rw [nth_eq] at ht
          split at ht
          · rename_i o' ho'
            have ho2 : ops[j]? = some o' := by simpa using ho'
            unfold yielded
            rw [ho2]
            simp only [Option.bind_some, ht]
            cases hx : a.tmps[t]? with
            | none => rfl
            | some x =>
              rw [Array.getD_eq_getD_getElem?, hx] at hv
              simp at hv
              subst hv
              rfl
          · simp at ht
        simp [Region.wanted, hg, this]
      · exact hw.elim
variable (hτ : TysOk P τ) {C : Ctx} (hC : CtxOk P τ C)
include hτ hC
theorem step_wp {o : Oper} {s : St} {a : Act} {w : World} {K : St → Prop} {next : Act → World → Prop} {Q : Exit → Act → World → Prop} (h : At τ w0 base M nn as s a w) (hd : ∀ t, o.dst = some t → t < nn)
    (hw : (step τ C o s).wp K) (hK : ∀ s' a' w', K s' → At τ w0 base M nn as s' a' w' → next a' w') : o.wp P a w next Q := by
  obtain ⟨E, h0, h1, h2, h3, h4⟩ := h
  obtain ⟨fr, stk, bx, rw', dep⟩ := s
  have hg := step_good hτ hC h0 (o := o) fun t ht => Nat.lt_of_lt_of_le (hd t ht) h3
  have fin : ∀ s', OpGood P τ w0 E as o a w s' → K s' → o.wp P a w next Q := fun s' hgood hk =>
    hgood next Q fun E' v w' hden hb hM => hK s' _ w' hk ⟨E', hden, hb.trans h1, by rw [hM]; exact h2, by rw [(put_size _ _ _).1]; exact h3, by rw [(put_size _ _ _).2]; exact h4⟩
  cases hs : step τ C o ⟨fr, stk, bx, rw', dep⟩ with
  | bad => rw [hs] at hw; exact hw.elim
  | ok s' => rw [hs] at hw hg; simp only [RS.wp, forceSt_eq] at hw; exact fin s' hg hw
  | ob p s' => rw [hs] at hw hg; simp only [RS.wp, forceSt_eq] at hw; exact fin s' (hg hw.1.out) (hw.2 hw.1.out)
theorem stepW_wp {o : Oper} {s : St} {a : Act} {w : World} {K : St → Prop} {next : Act → World → Prop} {Q : Exit → Act → World → Prop} (h : At τ w0 base M nn as s a w) (hd : ∀ t, o.dst = some t → t < nn)
    (hw : stepW τ C o s K) (hK : ∀ s' a' w', K s' → At τ w0 base M nn as s' a' w' → next a' w') : o.wp P a w next Q := by
  unfold stepW at hw
  split at hw
  · rename_i c ho
    split at hw
    · rename_i x hb
      rw [SV.force_eq] at hw
      split at hw
      · rename_i g ls cs hg
        split at hw
        · rename_i T hT
          rw [forceL_eq] at hw
          obtain ⟨E, h0, h1, h2, h3, h4⟩ := h
          obtain ⟨fr, stk, bx, rw', dep⟩ := s
          have hx := h0.get x
          rw [hg] at hx
          obtain ⟨us, vs, hf, hl1, hl2⟩ := hx
          have hargs : L0 (vd3 E rw' w) (ls ++ getN τ ⟨fr, stk, bx, rw', dep⟩ c.args.toList c.argTypes.toList ++ cs) (us ++ c.args.toList.map a.eval ++ vs) :=
            ((hl1.mono fun _ _ _ h => vd3_of_vdf h).append (getN_vd h0 _ _)).append (hl2.mono fun _ _ _ h => vd3_of_vd0 h)
          have hrun : (execOp a.eval o).run P w = .ok (.enter g (us ++ c.args.toList.map a.eval ++ vs).toArray) w := by
            have he := hC.trEnters g T hT (us ++ c.args.toList.map a.eval ++ vs).toArray w
            simp only [execOp, ho, resolve, hb, hf, Deferred.ofValue, invoke, Sem.run_bind, Sem.run_pure, Result.andThen_ok]
            rw [← he]
            congr 2
            apply Array.toList_inj.1
            simp
          unfold Oper.wp
          rw [hrun, Oper.upon_enter]
          refine (hC.trOk g T hT w0 E _ _ w _ _ _ h0 hargs hw).mono ?_
          rintro e w' ⟨z, v, s', E', rfl, hk, hden, hb', hM', hv⟩
          rw [SV.force_eq, forceSt_eq] at hk
          obtain ⟨fr', stk', bx', rw2, dep'⟩ := s'
          exact hK _ _ w' hk ⟨E', hden.put hv (fun t ht => Nat.lt_of_lt_of_le (hd t ht) h3), hb'.trans h1, Nat.le_trans h2 hM', by rw [(put_size _ _ _).1]; exact h3, by rw [(put_size _ _ _).2]; exact h4⟩
        · exact step_wp hτ hC h hd hw hK
      · exact step_wp hτ hC h hd hw hK
    · exact step_wp hτ hC h hd hw hK
  · exact step_wp hτ hC h hd hw hK
theorem opsL_sound {ops : Array Oper} {K : St → Prop} {Q : Exit → Act → World → Prop} (hok : dstOk nn ops.toList = true) (hK : ∀ s a w, K s → At τ w0 base M nn as s a w → Q .normal a w) :
    ∀ (os : List Oper) (i : Nat) (s : St) (a : Act) (w : World), ops.toList.drop i = os → wpOpsL τ C ops.toList os s K → At τ w0 base M nn as s a w → wpOps P ops Q (List.range' i os.length) a w := by
  intro os
  induction os with
  | nil => intro i s a w _ hw hat; simpa [wpOps] using hK s a w hw hat
  | cons o os ih =>
    intro i s a w hdrop hw hat
    have hi : ops[i]? = some o := by
      have : (ops.toList.drop i)[0]? = some o := by rw [hdrop]; rfl
      rw [List.getElem?_drop] at this
      simpa using this
    have hdrop' : ops.toList.drop (i + 1) = os := by
      have : (ops.toList.drop i).drop 1 = os := by rw [hdrop]; rfl
      simpa [List.drop_drop] using this
    have hd : ∀ t, o.dst = some t → t < nn := dstOk_mem hok o (by
      have : o ∈ ops.toList.drop i := by rw [hdrop]; simp
      exact List.mem_of_mem_drop this)
    simp only [List.length_cons, List.range'_succ, wpOps, hi]
    have exec : ∀ s', At τ w0 base M nn as s' a w → (stepW τ C o s' fun s => wpOpsL τ C ops.toList os s K) → o.wp P a w (wpOps P ops Q (List.range' (i + 1) os.length)) Q := fun s' hat' hw' =>
      stepW_wp hτ hC hat' hd hw' fun s2 a2 w2 h2 hat2 => ih (i + 1) s2 a2 w2 hdrop' h2 hat2
    have skip : ∀ s', At τ w0 base M nn as s' a w → wpOpsL τ C ops.toList os (skipO o.dst s') K → wpOps P ops Q (List.range' (i + 1) os.length) (a.put o.dst undef) w := fun s' hat' hw' =>
      ih (i + 1) _ _ w hdrop' hw' (hat'.skip hd)
    have yes : Region.wanted o (yielded ops a.tmps) = true → o.wp P a w (wpOps P ops Q (List.range' (i + 1) os.length)) Q → (if Region.wanted o (yielded ops a.tmps) = true then o.wp P a w (wpOps P ops Q (List.range' (i + 1) os.length)) Q ∨ (o.asks P a w ∧ LetsOut Q) else wpOps P ops Q (List.range' (i + 1) os.length) (a.put o.dst undef) w) := fun h1 h2 => by rw [if_pos h1]; exact .inl h2
    have no : Region.wanted o (yielded ops a.tmps) = false → wpOps P ops Q (List.range' (i + 1) os.length) (a.put o.dst undef) w → (if Region.wanted o (yielded ops a.tmps) = true then o.wp P a w (wpOps P ops Q (List.range' (i + 1) os.length)) Q ∨ (o.asks P a w ∧ LetsOut Q) else wpOps P ops Q (List.range' (i + 1) os.length) (a.put o.dst undef) w) := fun h1 h2 => by rw [if_neg (by rw [h1]; simp)]; exact h2
    unfold wpOpsL at hw
    rcases guardO_sound hat hw with ⟨h1, s', h2, h3⟩ | ⟨h1, s', h2, h3⟩
    · exact yes h1 (exec s' h3 h2)
    · exact no h1 (skip s' h3 h2)
end
end Go.Proofs.Ytmgccphapkmmeaa
