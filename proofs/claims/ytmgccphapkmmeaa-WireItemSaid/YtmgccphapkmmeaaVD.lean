/- A symbolic executor for loaded Go code: its steps in memory are the machine's. -/
import Derived.Test.YtmgccphapkmmeaaVC
namespace Go.Proofs.Ytmgccphapkmmeaa
open Go.RowKit

/-! ### 1. Association lists -/
theorem lk_upd {α : Type} (l : List (Nat × α)) (k : Nat) (v : α) (t : Nat) : lk (upd l k v) t = if t = k then some v else lk l t := by
  induction l with
  | nil =>
    simp only [upd, lk]
    by_cases h : t = k
    · subst h; simp [show Nat.beq t t = true from Nat.beq_refl t]
    · have : Nat.beq k t = false := by
        cases hb : Nat.beq k t with
        | false => rfl
        | true => exact absurd (Nat.eq_of_beq_eq_true hb).symm h
      simp [h, this]
  | cons x l ih =>
    obtain ⟨j, u⟩ := x
    simp only [upd]
    split
    · rename_i hb
      obtain rfl := Nat.eq_of_beq_eq_true hb
      simp only [lk]
      by_cases h : t = j
      · subst h; simp [show Nat.beq t t = true from Nat.beq_refl t]
      · have : Nat.beq j t = false := by
          cases hb' : Nat.beq j t with
          | false => rfl
          | true => exact absurd (Nat.eq_of_beq_eq_true hb').symm h
        simp [h, this]
    · rename_i hb
      simp only [lk, ih]
      by_cases h : t = k
      · subst h
        simp [hb]
      · simp [h]
theorem lk_dropKey {α : Type} (l : List (Nat × α)) (k t : Nat) : lk (dropKey l k) t = if t = k then none else lk l t := by
  induction l with
  | nil => simp [dropKey, lk]
  | cons x l ih =>
    obtain ⟨j, u⟩ := x
    simp only [dropKey]
    split
    · rename_i hb
      obtain rfl := Nat.eq_of_beq_eq_true hb
      rw [ih]
      by_cases h : t = j
      · simp [h]
      · have : Nat.beq j t = false := by
          cases hb' : Nat.beq j t with
          | false => rfl
          | true => exact absurd (Nat.eq_of_beq_eq_true hb').symm h
        simp [h, lk, this]
    · rename_i hb
      simp only [lk, ih]
      by_cases h : t = k
      · subst h
        simp [hb]
      · simp [h]

section
variable {P : Program} {τ : Tys} {w0 : World} {E : Env} {as : List (Array Value)} {a : Act} {w : World}
variable {k lo : Nat} {r : Rw} {s : St} {bs : List (Array Value)}
variable {fr : List (Nat × SV)} {stk : List (List (Nat × SV))} {bx : List (Nat × (TypeId × List SV))} {rw' : List (Nat × Ent)} {dep : Nat}

/-! ### 2. A value into the frame -/
theorem Den.put {x : SV} {v : Value} {d : Option Tmp} (h : Den τ w0 E ⟨fr, stk, bx, rw', dep⟩ (a.tmps :: as) w) (hx : vd3 E rw' w x v) (hd : ∀ t, d = some t → t < a.tmps.size) :
    Den τ w0 E (putv d x ⟨fr, stk, bx, rw', dep⟩) ((a.put d v).tmps :: as) w := by
  cases d with
  | none => exact h
  | some d =>
    refine ⟨h.below, h.bM, h.Mh, h.owb, ?_, h.box, h.own, h.bb, h.br, h.rr⟩
    intro i f hf
    cases i with
    | zero =>
      simp [putv] at hf
      subst hf
      obtain ⟨b, hb, hfr⟩ := h.fr 0 fr (by simp)
      simp at hb
      subst hb
      exact ⟨_, by simp, FrD.put hfr hx (hd d rfl)⟩
    | succ i =>
      obtain ⟨b, hb, hfr⟩ := h.fr (i + 1) f hf
      exact ⟨b, by simpa using hb, hfr⟩

/-! ### 3. Another world, another state -/
/-- The names of a state mean what they meant, up to keys that it doesn't hold. -/
structure Shift (E E' : Env) (s s' : St) (w' : World) : Prop where
  own : ∀ k, s.has (own0 k) = true → E'.hs k = E.hs k ∧ entLike w' E' (E.hs k) (lk s.rows k) (lk s'.rows k)
  box : ∀ k, s.has (box0 k) = true → E'.bs k = E.bs k
theorem stkHas_of_mem {p : SV → Bool} {f : List (Nat × SV)} (hF : frHas p f = true) : ∀ l : List (List (Nat × SV)), f ∈ l → stkHas p l = true
  | [], hm => by simp at hm
  | g :: l, hm => by
    simp only [stkHas]
    rcases List.mem_cons.1 hm with rfl | hm
    · rw [hF]
    · split
      · rfl
      · exact stkHas_of_mem hF l hm
theorem boxesHas_of_lk {p : SV → Bool} {k : Nat} {T : TypeId} {cs : List SV} (hc : anyL (deep1 p) cs = true) : ∀ l : List (Nat × (TypeId × List SV)), lk l k = some (T, cs) → boxesHas p l = true
  | [], hk => by simp [lk] at hk
  | (j, (T', cs')) :: l, hk => by
    simp only [lk] at hk
    simp only [boxesHas]
    split at hk
    · simp at hk
      obtain ⟨rfl, rfl⟩ := hk
      rw [hc]
    · split
      · rfl
      · exact boxesHas_of_lk hc l hk
theorem has_fr {s : St} {p : SV → Bool} (hj : p .junk = false) {i : Nat} {f : List (Nat × SV)} (hf : (s.fr :: s.stk)[i]? = some f) {t : Nat} (h : deep3 p (lkv f t) = true) : s.has p = true := by
  have hF : frHas p f = true := by
    cases hb : frHas p f with
    | true => rfl
    | false => rw [lkv_junk_of_has hb t hj] at h; exact absurd h (by simp)
  unfold St.has
  cases i with
  | zero => simp at hf; subst hf; rw [hF]
  | succ i =>
    have := stkHas_of_mem hF s.stk (List.mem_of_getElem? (by simpa using hf))
    split
    · rfl
    · rw [this]
theorem has_box {s : St} {p : SV → Bool} {k : Nat} {T : TypeId} {cs : List SV} (hk : lk s.boxes k = some (T, cs)) {x : SV} (hx : x ∈ cs) (h : deep1 p x = true) : s.has p = true := by
  have := boxesHas_of_lk (anyL_of_mem hx h) s.boxes hk
  unfold St.has
  split
  · rfl
  · split
    · rfl
    · exact this
theorem Shift.names {E E' : Env} {s s' : St} {w' : World} (h : Shift E E' s s' w') {i : Nat} {f : List (Nat × SV)} (hf : (s.fr :: s.stk)[i]? = some f) (t : Nat) : Names E E' s.rows s'.rows w' (lkv f t) :=
  ⟨fun k hk => h.own k (has_fr rfl hf hk), fun k hk => h.box k (has_fr rfl hf hk)⟩
theorem Shift.frD {E E' : Env} {s s' : St} {w w' : World} (h : Shift E E' s s' w') (hk : Keeps E E' w w') {i : Nat} {f : List (Nat × SV)} (hf : (s.fr :: s.stk)[i]? = some f) {b : Array Value} (hd : FrD E s.rows w f b) : FrD E' s'.rows w' f b :=
  hd.keeps hk fun t => h.names hf t
theorem Shift.cells {E E' : Env} {s s' : St} {w w' : World} (h : Shift E E' s s' w') (hk : Keeps E E' w w') {k : Nat} {T : TypeId} {cs : List SV} (hb : lk s.boxes k = some (T, cs)) {us : List Value} (hd : L0 (vd1 E s.rows w) cs us) : L0 (vd1 E' s'.rows w') cs us :=
  hd.mono fun x u hx hp => vd1.keeps hk (fun j hj => h.own j (has_box hb hx hj)) (fun j hj => h.box j (has_box hb hx hj)) hp
theorem OwnD.keeps {E E' : Env} {w w' : World} {k lo : Nat} {r : Rw} (h : OwnD τ E w k lo r) (hk : Keeps E E' w w') (hh : E'.hs k = E.hs k) (hM : E'.M = E.M) (how : ∀ g, (E.hs k).ownBlock = some g → E'.ow g)
    (hb : ∀ g, (E.hs k).ownBlock = some g → w'.heap[g]? = w.heap[g]?) : OwnD τ E' w' k lo r := by
  obtain ⟨us, hrow, hc⟩ := h.row
  refine ⟨by rw [hh]; exact how, h.fits, us, ?_, fun i j x hi hx => ?_⟩
  · rw [hh, hM]
    refine ⟨hrow.1, ?_⟩
    rcases hrow.2 with h1 | ⟨g, cap, cur, hv, hg, hheap, h2⟩
    · exact .inl h1
    · exact .inr ⟨g, cap, cur, hv, hg, by rw [hb g (by rw [hv]; rfl)]; exact hheap, h2⟩
  · obtain ⟨u, hu, hd⟩ := hc i j x hi hx
    exact ⟨u, hu, cd1.mono hd (hk.F _)⟩
theorem OwnD.lt (h : OwnD τ E w k lo r) (hE : ∀ g, E.ow g → E.base ≤ g ∧ g < w.heap.size) {g : Nat} (hg : (E.hs k).ownBlock = some g) : g < w.heap.size := (hE g (h.ow g hg)).2
/-- Frames alone are carried over by this. -/
theorem Den.move {s s' : St} {E' : Env} {w' : World} {bs : List (Array Value)} (h : Den τ w0 E s bs w) (hk : Keeps E E' w w') (hb : E'.base = E.base) (hw : Below E.base w w') (hs : Shift E E' s s' w') (hfr : s'.fr = s.fr) (hst : s'.stk = s.stk)
    (how : ∀ g, E'.ow g → E'.base ≤ g ∧ g < w'.heap.size) (hbox : ∀ k T cs, lk s'.boxes k = some (T, cs) → BoxD E' s'.rows w' k T cs)
    (hown : ∀ k e lo r, lk s'.rows k = some e → e.mine = some (lo, r) → OwnD τ E' w' k lo r)
    (bb : ∀ k k' b b', lk s'.boxes k = some b → lk s'.boxes k' = some b' → k ≠ k' → E'.bs k ≠ E'.bs k')
    (br : ∀ k k' b e m, lk s'.boxes k = some b → lk s'.rows k' = some e → e.mine = some m → (E'.hs k').ownBlock ≠ some (E'.bs k))
    (rr : ∀ k k' e e' m m' g, lk s'.rows k = some e → lk s'.rows k' = some e' → e.mine = some m → e'.mine = some m' → k ≠ k' → (E'.hs k).ownBlock = some g → (E'.hs k').ownBlock ≠ some g) : Den τ w0 E' s' bs w' := by
  refine ⟨?_, by rw [hb, hk.M]; exact h.bM, by rw [hk.M]; exact Nat.le_trans h.Mh hk.size, how, ?_, hbox, hown, bb, br, rr⟩
  · rw [hb]; exact h.below.trans hw
  · intro i f hf
    rw [hfr, hst] at hf
    obtain ⟨b, hb, hd⟩ := h.fr i f hf
    exact ⟨b, hb, hs.frD hk hf hd⟩
theorem ptr_put {E : Env} {R : List (Nat × Ent)} {w : World} {f : List (Nat × SV)} {a : Act} {d : Nat} {x : SV} {v : Value} (h : FrD E R w f a.tmps) (hx : vd3 E R w x v) (hd : d < a.tmps.size) : FrD E R w ((d, x) :: f) (a.put (some d) v).tmps := FrD.put h hx hd
theorem below_of_alloc (h : Den τ w0 E s bs w) (o : Obj) : Below E.base w (w.alloc o) := (Below.refl _ _).alloc (Nat.le_trans h.bM h.Mh) o
/-- A new box. -/
theorem Den.newBox (h : Den τ w0 E ⟨fr, stk, bx, rw', dep⟩ as w) (k : Nat) (hno : St.has (box0 k) ⟨fr, stk, bx, rw', dep⟩ = false) (T : TypeId) (cs : List SV) (us : List Value)
    (hc : ∀ E' : Env, E'.hs = E.hs → E'.M = E.M → (∀ j, j ≠ k → E'.bs j = E.bs j) → (∀ g, E'.ow g → E.ow g ∨ w.heap.size ≤ g) → L0 (vd1 E' rw' (w.alloc (.cells us.toArray T))) cs us) :
    ∃ E', E'.base = E.base ∧ E'.M = E.M ∧ E'.bs k = w.heap.size ∧ Den τ w0 E' ⟨fr, stk, upd bx k (T, cs), rw', dep⟩ as (w.alloc (.cells us.toArray T)) := by
  let E' : Env := { E with bs := fun j => if j = k then w.heap.size else E.bs j, ow := fun g => E.ow g ∨ g = w.heap.size }
  have hlt : ∀ j T' cs', lk bx j = some (T', cs') → E.bs j < w.heap.size := fun j T' cs' hj => (h.owb _ (h.box j T' cs' hj).ow).2
  have hk : Keeps E E' w (w.alloc (.cells us.toArray T)) := ⟨rfl, by simp, fun g _ hg => Below.heap_alloc w _ g hg, fun g hg => hg.imp id (fun e => by omega)⟩
  have hs : Shift E E' ⟨fr, stk, bx, rw', dep⟩ ⟨fr, stk, upd bx k (T, cs), rw', dep⟩ (w.alloc (.cells us.toArray T)) := by
    refine ⟨fun j _ => ⟨rfl, entLike.refl _ _ _ _⟩, fun j hj => ?_⟩
    have : j ≠ k := fun e => by subst e; rw [hno] at hj; exact absurd hj (by simp)
    simp [E', this]
  have hbs : ∀ j, j ≠ k → E'.bs j = E.bs j := fun j hj => by simp [E', hj]
  refine ⟨E', rfl, rfl, by simp [E'], h.move hk rfl (below_of_alloc h _) hs rfl rfl ?_ ?_ ?_ ?_ ?_ ?_⟩
  · rintro g (hg | rfl)
    · have := h.owb g hg
      exact ⟨this.1, by simp; omega⟩
    · exact ⟨Nat.le_trans h.bM h.Mh, by simp⟩
  · intro j T' cs' hj
    simp only [lk_upd] at hj
    split at hj
    · rename_i e
      subst e
      simp at hj
      obtain ⟨rfl, rfl⟩ := hj
      refine ⟨.inr (by simp [E']), us, ?_, hc E' rfl rfl hbs fun g hg => hg.imp id (fun e => by omega)⟩
      simp only [E', if_true]
      exact heap_alloc_new w _
    · rename_i e
      obtain ⟨h1, us', h2, h3⟩ := h.box j T' cs' hj
      refine ⟨?_, us', ?_, hs.cells hk hj h3⟩
      · rw [hbs j e]; exact .inl h1
      · rw [hbs j e, Below.heap_alloc w _ _ (hlt j T' cs' hj)]; exact h2
  · intro j e lo r hj hm
    exact (h.own j e lo r hj hm).keeps hk rfl rfl (fun g hg => .inl ((h.own j e lo r hj hm).ow g hg)) fun g hg => Below.heap_alloc w _ g ((h.own j e lo r hj hm).lt h.owb hg)
  · intro j j' b b' hj hj' hne
    simp only [lk_upd] at hj hj'
    split at hj <;> split at hj'
    · omega
    · rename_i e e'
      rw [hbs j' e']
      have := hlt j' b'.1 b'.2 hj'
      subst e
      simp only [E', if_true]
      omega
    · rename_i e e'
      rw [hbs j e]
      have := hlt j b.1 b.2 hj
      subst e'
      simp only [E', if_true]
      omega
    · rename_i e e'
      rw [hbs j e, hbs j' e']
      exact h.bb j j' b b' hj hj' hne
  · intro j j' b e m hj hj' hm
    simp only [lk_upd] at hj
    split at hj
    · rename_i e'
      subst e'
      intro hg
      have := (h.own j' e m.1 m.2 hj' hm).lt h.owb hg
      simp [E'] at this
    · rename_i e'
      rw [hbs j e']
      exact h.br j j' b e m hj hj' hm
  · exact h.rr

/-! ### 4. A store into a box -/
theorem setRange_eq {α : Type} (vs : List α) : ∀ (cs : List α) (off : Nat), off + vs.length ≤ cs.length → setRange cs off vs = cs.take off ++ vs ++ cs.drop (off + vs.length) := by
  induction vs with
  | nil => intro cs off h; cases cs <;> simp [setRange]
  | cons v vs ih =>
    intro cs off h
    induction cs generalizing off with
    | nil => simp at h
    | cons c cs ihc =>
      cases off with
      | zero =>
        simp only [setRange]
        rw [ih cs 0 (by simpa using h)]
        simp
      | succ off =>
        simp only [setRange]
        rw [ihc off (by simp at h ⊢; omega)]
        simp [show off + 1 + (vs.length + 1) = (off + (vs.length + 1)) + 1 by omega]
theorem setRange_length {α : Type} (vs cs : List α) (off : Nat) (h : off + vs.length ≤ cs.length) : (setRange cs off vs).length = cs.length := by
  rw [setRange_eq vs cs off h]
  simp
  omega
theorem L0.setRange {p : SV → Value → Prop} {cs vs : List SV} {us ws : List Value} (h : L0 p cs us) (hv : L0 p vs ws) (off : Nat) (hl : off + vs.length ≤ cs.length) :
    L0 p (setRange cs off vs) (us.take off ++ ws ++ us.drop (off + ws.length)) := by
  rw [setRange_eq vs cs off hl, ← hv.1]
  exact ((h.take off).append hv).append (h.drop _)
theorem sc_one {x : SV} {u : Value} (h : sc x u) : u.oneCell' = true := by cases x <;> first | exact h.elim | (obtain rfl : u = _ := h; rfl)
theorem vd1_one {E : Env} {R : List (Nat × Ent)} {w : World} {x : SV} {u : Value} (hR : ∀ k e m, lk R k = some e → e.mine = some m → (E.hs k).oneCell' = true) (h : vd1 E R w x u) (ho : oneOk R x = true) : u.oneCell' = true := by
  cases x with
  | row t r => obtain ⟨_, A, c, rfl, _⟩ := h; rfl
  | nilS r => obtain ⟨rfl, _⟩ := h; rfl
  | own k =>
    simp only [oneOk] at ho
    simp only [vd1, vd0] at h
    split at ho
    · rename_i e he
      rw [he] at h
      cases e with
      | own r => rw [show u = _ from h]; exact hR k _ _ he rfl
      | part lo r => rw [show u = _ from h]; exact hR k _ _ he rfl
      | shared t r => obtain ⟨_, A, c, rfl, _⟩ := h; rfl
    · simp at ho
  | box k off => obtain rfl : u = _ := h; rfl
  | pt t cs => obtain ⟨ad, rfl, _⟩ := h; rfl
  | oel k i off =>
    simp only [oneOk] at ho
    simp only [vd1, vd0] at h
    split at ho
    · rename_i r he; rw [he] at h; obtain ⟨g, n, c, _, _, _, rfl⟩ := h; rfl
    · rename_i lo r he; rw [he] at h; obtain ⟨g, n, c, _, _, _, rfl⟩ := h; rfl
    · simp at ho
  | clo f a c => obtain ⟨us, vs, rfl, _⟩ := h; rfl
  | junk => simp [oneOk] at ho
  | agg cs => simp [oneOk] at ho
  | tup vs => simp [oneOk] at ho
  | _ => obtain rfl : u = _ := h; rfl
theorem allOne_mem {R : List (Nat × Ent)} {l : List SV} (h : allOne R l = true) {x : SV} (hx : x ∈ l) : oneOk R x = true := by
  induction l with
  | nil => simp at hx
  | cons y l ih =>
    simp only [allOne] at h
    split at h
    · rcases List.mem_cons.1 hx with rfl | hx
      · assumption
      · exact ih h hx
    · simp at h
theorem L0.one {p : SV → Value → Prop} {cs : List SV} {us : List Value} (h : L0 p cs us) (hp : ∀ x u, x ∈ cs → p x u → u.oneCell' = true) : ∀ u ∈ us, u.oneCell' = true := by
  intro u hu
  obtain ⟨j, hj, rfl⟩ := List.getElem_of_mem hu
  obtain ⟨x, hx⟩ : ∃ x, cs[j]? = some x := ⟨cs[j]'(by rw [h.1]; exact hj), List.getElem?_eq_getElem _⟩
  obtain ⟨u', hu', hd⟩ := h.2 j x hx
  rw [List.getElem?_eq_getElem hj] at hu'
  injection hu' with hu'
  rw [hu']
  exact hp x _ (List.mem_of_getElem? hx) hd
theorem OwnD.one (h : OwnD τ E w k lo r) : (E.hs k).oneCell' = true := by
  obtain ⟨us, hrow, _⟩ := h.row
  rcases hrow.2 with ⟨hv, _⟩ | ⟨g, cap, cur, hv, _⟩ <;> rw [hv] <;> rfl
theorem Den.hs_one (h : Den τ w0 E s bs w) : ∀ k e m, lk s.rows k = some e → e.mine = some m → (E.hs k).oneCell' = true := fun k e m hk hm => (h.own k e m.1 m.2 hk hm).one
theorem keeps_setRow (h : Den τ w0 E s bs w) {g : Nat} (hg : E.ow g) (cs : Array Value) : Keeps E E w (w.setRow g cs) :=
  ⟨rfl, by simp, fun g' hg' _ => setRow_other w g g' cs (fun e => hg' (e ▸ hg)), fun _ h => .inl h⟩
theorem below_setRow (h : Den τ w0 E s bs w) {g : Nat} (hg : E.ow g) (cs : Array Value) : Below E.base w (w.setRow g cs) :=
  ⟨rfl, rfl, rfl, by simp, fun k hk => setRow_other w g k cs (fun e => by have := (h.owb g hg).1; omega)⟩
theorem Shift.refl (E : Env) (s s' : St) (w' : World) (hr : s'.rows = s.rows) : Shift E E s s' w' := ⟨fun k _ => ⟨rfl, by rw [hr]; exact entLike.refl _ _ _ _⟩, fun _ _ => rfl⟩
theorem Den.setBox (h : Den τ w0 E ⟨fr, stk, bx, rw', dep⟩ as w) {k : Nat} {T : TypeId} {cs : List SV} (hb : lk bx k = some (T, cs)) {off : Nat} {vs : List SV} {us : List Value} (hl : off + vs.length ≤ cs.length) (hv : L0 (vd1 E rw' w) vs us) :
    ∃ cur : Array Value, w.heap[E.bs k]? = some (.cells cur T (0, 0)) ∧ off + us.length ≤ cur.size ∧
      Den τ w0 E ⟨fr, stk, upd bx k (T, setRange cs off vs), rw', dep⟩ as (w.setRow (E.bs k) (cur.toList.take off ++ us ++ cur.toList.drop (off + us.length)).toArray) := by
  obtain ⟨how, us0, hheap, hcs⟩ := h.box k T cs hb
  refine ⟨us0.toArray, hheap, by rw [← hv.1]; simpa [← hcs.1] using hl, ?_⟩
  have hk := keeps_setRow h how (us0.take off ++ us ++ us0.drop (off + us.length)).toArray
  have hs := Shift.refl E ⟨fr, stk, bx, rw', dep⟩ ⟨fr, stk, upd bx k (T, setRange cs off vs), rw', dep⟩ (w.setRow (E.bs k) (us0.take off ++ us ++ us0.drop (off + us.length)).toArray) rfl
  refine h.move hk rfl (below_setRow h how _) hs rfl rfl ?_ ?_ ?_ ?_ ?_ h.rr
  · intro g hg; simpa using h.owb g hg
  · intro j T' cs' hj
    simp only [lk_upd] at hj
    split at hj
    · rename_i e
      subst e
      simp at hj
      obtain ⟨rfl, rfl⟩ := hj
      refine ⟨how, us0.take off ++ us ++ us0.drop (off + us.length), setRow_heap w _ _ _ _ _ hheap, ?_⟩
      have hv' : L0 (vd1 E rw' (w.setRow (E.bs j) (us0.take off ++ us ++ us0.drop (off + us.length)).toArray)) vs us := hv.mono fun x u _ hp => vd1.keeps hk (fun _ _ => ⟨rfl, entLike.refl _ _ _ _⟩) (fun _ _ => rfl) hp
      have hc' := hs.cells hk hb hcs
      exact hc'.setRange hv' off hl
    · rename_i e
      obtain ⟨h1, us', h2, h3⟩ := h.box j T' cs' hj
      refine ⟨h1, us', ?_, hs.cells hk hj h3⟩
      rw [setRow_other w _ _ _ (h.bb j k _ _ hj hb e)]
      exact h2
  · intro j e lo r hj hm
    refine (h.own j e lo r hj hm).keeps hk rfl rfl (h.own j e lo r hj hm).ow fun g hg => setRow_other w _ _ _ ?_
    rintro rfl
    exact h.br k j _ e _ hb hj hm hg
  · intro j j' b b' hj hj' hne
    have key : ∀ i c, lk (upd bx k (T, setRange cs off vs)) i = some c → ∃ c', lk bx i = some c' := by
      intro i c hi
      rw [lk_upd] at hi
      split at hi
      · rename_i e; subst e; exact ⟨_, hb⟩
      · exact ⟨_, hi⟩
    obtain ⟨c, hc⟩ := key j b hj
    obtain ⟨c', hc'⟩ := key j' b' hj'
    exact h.bb j j' c c' hc hc' hne
  · intro j j' b e m hj hj' hm
    have : ∃ c', lk bx j = some c' := by
      simp only [lk_upd] at hj
      split at hj
      · rename_i e; subst e; exact ⟨_, hb⟩
      · exact ⟨_, hj⟩
    obtain ⟨c, hc⟩ := this
    exact h.br j j' c e m hc hj' hm
end
end Go.Proofs.Ytmgccphapkmmeaa
