/- A part of the proof of a law: VW, XA, XB1, XB. -/
import Derived.Test.YtjjpakdlkjaigaaGreatMB2
import Derived.Deep.LoopGhost
import Derived.Orders
set_option linter.all false
set_option linter.unusedVariables false
set_option linter.unusedSimpArgs false
set_option linter.unusedSectionVars false
/- A symbolic executor for loaded Go code: a body that meets what it has to is what the contract says. -/
namespace Go.Proofs.YtjjpakdlkjaigaaGreat
open Go.RowKit
section
variable {P : Program} {τ : Tys} {w0 : World} {base M nn : Nat} {aS : List (Array Value)}
theorem subV_cases {v x : SV} (h : subV v x) : v = .junk ∨ v = x ∨ (∃ b, v = .bool b ∧ x = .lit b) ∨ (∃ t r, v = .row .any r ∧ x = .row t r) ∨ ∃ t r, v = .row t r ∧ x = .nilS r := by
 unfold subV at h
 split at h
 · exact .inl rfl
 · subst h; exact .inr (.inr (.inl ⟨_, rfl, rfl⟩))
 · subst h; exact .inr (.inl rfl)
 · subst h; exact .inr (.inl rfl)
 · obtain ⟨rfl, rfl⟩ := h; exact .inr (.inl rfl)
 · subst h; exact .inr (.inl rfl)
 · subst h; exact .inr (.inr (.inr (.inl ⟨_, _, rfl, rfl⟩)))
 · subst h; exact .inr (.inl rfl)
 · subst h; exact .inr (.inl rfl)
 · subst h; exact .inr (.inr (.inr (.inr ⟨_, _, rfl, rfl⟩)))
 · exact .inr (.inl h)
def RwLe (R' R : List (Nat × Ent)) : Prop := ∀ k e, lk R' k = some e → lk R k = some e
theorem vd0.less {E : Env} {R R' : List (Nat × Ent)} {w : World} (hR : RwLe R' R) {x : SV} {u : Value} (h : vd0 E R w x u) : vd0 E R' w x u := by
 cases x with
 | own k =>
   simp only [vd0] at h ⊢
   cases hk : lk R' k with
   | none => trivial
   | some e => rw [hR k e hk] at h; exact h
 | oel k i off =>
   simp only [vd0] at h ⊢
   cases hk : lk R' k with
   | none => trivial
   | some e => rw [hR k e hk] at h; exact h
 | _ => exact h
theorem vdf.less {E : Env} {R R' : List (Nat × Ent)} {w : World} (hR : RwLe R' R) {x : SV} {u : Value} (h : vdf E R w x u) : vdf E R' w x u := by
 cases x with
 | agg cs => obtain ⟨us, rfl, hl⟩ := h; exact ⟨us, rfl, hl.mono fun _ _ _ h => vd0.less hR h⟩
 | own k => exact vd0.less (x := .own k) hR h
 | oel k i off => exact vd0.less (w := w) (x := .oel k i off) hR h
 | _ => exact h
theorem vd1.less {E : Env} {R R' : List (Nat × Ent)} {w : World} (hR : RwLe R' R) {x : SV} {u : Value} (h : vd1 E R w x u) : vd1 E R' w x u := by
 cases x with
 | clo f b c => obtain ⟨us, vs, rfl, h1, h2⟩ := h; exact ⟨us, vs, rfl, h1.mono fun _ _ _ h => vdf.less hR h, h2.mono fun _ _ _ h => vd0.less hR h⟩
 | own k => exact vd0.less (x := .own k) hR h
 | oel k i off => exact vd0.less (w := w) (x := .oel k i off) hR h
 | _ => exact h
theorem vd2.less {E : Env} {R R' : List (Nat × Ent)} {w : World} (hR : RwLe R' R) {x : SV} {u : Value} (h : vd2 E R w x u) : vd2 E R' w x u := by
 cases x with
 | agg cs => obtain ⟨us, rfl, hl⟩ := h; exact ⟨us, rfl, hl.mono fun _ _ _ h => vd1.less hR h⟩
 | clo f b c => exact vd1.less (x := .clo f b c) hR h
 | own k => exact vd0.less (x := .own k) hR h
 | oel k i off => exact vd0.less (w := w) (x := .oel k i off) hR h
 | _ => exact h
theorem vd3.less {E : Env} {R R' : List (Nat × Ent)} {w : World} (hR : RwLe R' R) {x : SV} {u : Value} (h : vd3 E R w x u) : vd3 E R' w x u := by
 cases x with
 | tup cs => obtain ⟨us, rfl, hl⟩ := h; exact ⟨us, rfl, hl.mono fun _ _ _ h => vd2.less hR h⟩
 | agg cs => exact vd2.less (x := .agg cs) hR h
 | clo f b c => exact vd1.less (x := .clo f b c) hR h
 | own k => exact vd0.less (x := .own k) hR h
 | oel k i off => exact vd0.less (w := w) (x := .oel k i off) hR h
 | _ => exact h
theorem sub_vd3 {E : Env} {R R' : List (Nat × Ent)} {w : World} (hR : RwLe R' R) {v x : SV} {u : Value} (hs : subV v x) (h : vd3 E R w x u) : vd3 E R' w v u := by
 rcases subV_cases hs with rfl | rfl | ⟨b, rfl, rfl⟩ | ⟨t, r, rfl, rfl⟩ | ⟨t, r, rfl, rfl⟩
 · trivial
 · exact h.less hR
 · exact h
 · exact RowDen.any h
 · obtain ⟨rfl, h0⟩ := h; exact empty_row h0 _
theorem sub_vd1 {E : Env} {R R' : List (Nat × Ent)} {w : World} (hR : RwLe R' R) {v x : SV} {u : Value} (hs : subV v x) (h : vd1 E R w x u) : vd1 E R' w v u := by
 rcases subV_cases hs with rfl | rfl | ⟨b, rfl, rfl⟩ | ⟨t, r, rfl, rfl⟩ | ⟨t, r, rfl, rfl⟩
 · trivial
 · exact h.less hR
 · exact h
 · exact RowDen.any h
 · obtain ⟨rfl, h0⟩ := h; exact empty_row h0 _
theorem subFr_lkv {f : List (Nat × SV)} : ∀ {l : List (Nat × SV)}, subFr f l → ∀ t, subV (lkv l t) (lkv f t)
 | [], _, t => by unfold lkv; exact trivial
 | (k, v) :: l, h, t => by
   simp only [lkv]
   split
   · rename_i hk
     obtain rfl := Nat.eq_of_beq_eq_true hk
     exact h.1
   · exact subFr_lkv h.2 t
theorem subE_eq {e e' : Ent} (h : subE e e') : e = e' := by
 unfold subE at h
 split at h
 · subst h; rfl
 · exact h
theorem subRw_le {R : List (Nat × Ent)} : ∀ {l : List (Nat × Ent)}, subRw R l → RwLe l R
 | [], _, k, e, hk => by simp [lk] at hk
 | (j, e') :: l, h, k, e, hk => by
   simp only [lk] at hk
   split at hk
   · rename_i hj
     obtain rfl := Nat.eq_of_beq_eq_true hj
     simp at hk
     subst hk
     have := h.1
     split at this
     · rename_i e2 he2; rw [he2, subE_eq this]
     · exact this.elim
   · exact subRw_le h.2 k e hk
theorem subBx_lk {b : List (Nat × (TypeId × List SV))} : ∀ {l : List (Nat × (TypeId × List SV))}, subBx b l → ∀ k T cs, lk l k = some (T, cs) → ∃ cs', lk b k = some (T, cs') ∧ subL cs cs'
 | [], _, k, T, cs, hk => by simp [lk] at hk
 | (j, (T', cs')) :: l, h, k, T, cs, hk => by
   simp only [lk] at hk
   split at hk
   · rename_i hj
     obtain rfl := Nat.eq_of_beq_eq_true hj
     simp at hk
     obtain ⟨rfl, rfl⟩ := hk
     have := h.1
     split at this
     · rename_i T2 cs2 he2
       obtain ⟨rfl, h2⟩ := this
       exact ⟨cs2, he2, h2⟩
     · exact this.elim
   · exact subBx_lk h.2 k T cs hk
theorem subL_get : ∀ {cs cs' : List SV}, subL cs cs' → cs.length = cs'.length ∧ ∀ (j : Nat) x, cs[j]? = some x → ∃ y, cs'[j]? = some y ∧ subV x y
 | [], [], _ => ⟨rfl, fun j x h => by simp at h⟩
 | x :: l, y :: l', h => by
   obtain ⟨h1, h2⟩ := subL_get h.2
   refine ⟨by simp [h1], fun j z hz => ?_⟩
   cases j with
   | zero => simp at hz; subst hz; exact ⟨y, by simp, h.1⟩
   | succ j => simpa using h2 j z (by simpa using hz)
 | [], _ :: _, h => h.elim
 | _ :: _, [], h => h.elim
theorem subStk_eq : ∀ {k k' : List (List (Nat × SV))}, subStk k k' → k = k'
 | [], [], _ => rfl
 | f :: l, f' :: l', h => by rw [h.1, subStk_eq h.2]
 | [], _ :: _, h => h.elim
 | _ :: _, [], h => h.elim
theorem St.sub_spec {T s : St} (h : St.sub T s) : T.stk = s.stk ∧ T.dep = s.dep ∧ subFr s.fr T.fr ∧ subBx s.boxes T.boxes ∧ subRw s.rows T.rows := by
 obtain ⟨fr, stk, bx, rw, dep⟩ := T
 obtain ⟨fr', stk', bx', rw', dep'⟩ := s
 simp only [St.sub] at h
 split at h
 · rename_i hd
   exact ⟨subStk_eq h.1, Nat.eq_of_beq_eq_true hd, h.2⟩
 · exact h.elim
theorem Den.sub {E : Env} {T s : St} {bs : List (Array Value)} {w : World} (hs : St.sub T s) (h : Den τ w0 E s bs w) : Den τ w0 E T bs w := by
 obtain ⟨h1, h2, h3, h4, h5⟩ := St.sub_spec hs
 have hR := subRw_le h5
 refine ⟨h.below, h.bM, h.Mh, h.owb, ?_, ?_, ?_, ?_, ?_, ?_⟩
 · intro i f hf
   cases i with
   | zero =>
     simp at hf
     subst hf
     obtain ⟨b, hb, hd⟩ := h.fr 0 s.fr (by simp)
     exact ⟨b, hb, fun t => sub_vd3 hR (subFr_lkv h3 t) (hd t)⟩
   | succ i =>
     obtain ⟨b, hb, hd⟩ := h.fr (i + 1) f (by simpa [h1] using hf)
     exact ⟨b, hb, fun t => (hd t).less hR⟩
 · intro k T' cs hk
   obtain ⟨cs', hk', hl⟩ := subBx_lk h4 k T' cs hk
   obtain ⟨ho, us, hheap, hcs⟩ := h.box k T' cs' hk'
   obtain ⟨g1, g2⟩ := subL_get hl
   refine ⟨ho, us, hheap, g1.trans hcs.1, fun j x hx => ?_⟩
   obtain ⟨y, hy, hv⟩ := g2 j x hx
   obtain ⟨u, hu, hp⟩ := hcs.2 j y hy
   exact ⟨u, hu, sub_vd1 hR hv hp⟩
 · intro k e lo r hk hm; exact h.own k e lo r (hR k e hk) hm
 · intro k k' b b' hk hk'
   obtain ⟨c, hc, _⟩ := subBx_lk h4 k b.1 b.2 hk
   obtain ⟨c', hc', _⟩ := subBx_lk h4 k' b'.1 b'.2 hk'
   exact h.bb k k' _ _ hc hc'
 · intro k k' b e m hk hk' hm
   obtain ⟨c, hc, _⟩ := subBx_lk h4 k b.1 b.2 hk
   exact h.br k k' _ e m hc (hR k' e hk') hm
 · intro k k' e e' m m' g hk hk'; exact h.rr k k' e e' m m' g (hR k e hk) (hR k' e' hk')
def At (τ : Tys) (w0 : World) (base M nn : Nat) (aS : List (Array Value)) (s : St) (a : Act) (w : World) : Prop :=
 ∃ E, Den τ w0 E s (a.tmps :: aS) w ∧ E.base = base ∧ M ≤ E.M ∧ nn ≤ a.tmps.size ∧ a.defers = []
theorem put_size (a : Act) (d : Option Tmp) (v : Value) : (a.put d v).tmps.size = a.tmps.size ∧ (a.put d v).defers = a.defers := by
 cases d <;> simp [Act.put]
theorem At.sub {s T : St} {a : Act} {w : World} (h : At τ w0 base M nn aS s a w) (hs : St.sub T s) : At τ w0 base M nn aS T a w := by
 obtain ⟨E, hd, h1⟩ := h
 exact ⟨E, hd.sub hs, h1⟩
def Ex.of : Ex → Exit
 | .normal => .normal
 | .exit id => .exit id
 | .ret => .ret
theorem flatC0_eq {α : Type} (keep : List Nat) (s : St) (K : St → α) : flatC0 keep s K = K (flatS0 keep s) := by
 obtain ⟨fr, stk, bx, rw, dep⟩ := s
 simp only [flatC0, flatS0, forceF_eq, forceB_eq, forceR_eq]
theorem ageC_eq {α : Type} (s : St) (K : St → α) : ageC s K = K (ageSt s) := by
 obtain ⟨fr, stk, bx, rw, dep⟩ := s
 simp only [ageC, ageSt, forceF_eq, forceB_eq]
theorem flatC_eq {α : Type} (keep : List Nat) (s : St) (K : St → α) : flatC keep s K = K (flatSt keep s) := by
 unfold flatC flatSt
 cases memN 999999999 keep with
 | true => simp only [flatC0_eq, ageC_eq]
 | false => exact flatC0_eq keep s K
theorem dem_dem (e : Ent) : dem (dem e) = dem e := by
 unfold dem
 rfl
theorem lk_demoteM (keep : List Nat) : ∀ (R : List (Nat × Ent)) (k : Nat), lk (demoteM keep R) k = (lk R k).map fun e => if memN k keep = true then e else dem e
 | [], k => rfl
 | (j, e) :: l, k => by
   simp only [demoteM]
   split
   · rename_i h
     simp only [lk]
     split
     · rename_i hj; obtain rfl := Nat.eq_of_beq_eq_true hj; simp [h]
     · exact lk_demoteM keep l k
   · rename_i h
     simp only [lk]
     split
     · rename_i hj; obtain rfl := Nat.eq_of_beq_eq_true hj; simp [h]
     · exact lk_demoteM keep l k
theorem lk_demote1 (R : List (Nat × Ent)) (j k : Nat) : lk (demote1 R j) k = (lk R k).map fun e => if k = j then dem e else e := by
 unfold demote1
 split
 · rename_i e he
   show lk (upd R j (dem e)) k = _
   rw [lk_upd]
   split
   · rename_i h; subst h; simp [he]
   · rename_i h; simp
 · rename_i he
   by_cases h : k = j
   · subst h; simp [he]
   · simp [h]
theorem lk_demoteL : ∀ (ks : List Nat) (R : List (Nat × Ent)) (k : Nat), lk (demoteL (ks.map .own) R) k = (lk R k).map fun e => if k ∈ ks then dem e else e
 | [], R, k => by simp [demoteL]
 | j :: ks, R, k => by
   simp only [List.map_cons, demoteL]
   rw [lk_demoteL ks, lk_demote1]
   cases lk R k with
   | none => rfl
   | some e =>
     simp only [Option.map_some, List.mem_cons]
     by_cases h1 : k = j
     · subst h1
       by_cases h2 : k ∈ ks <;> simp [h2, dem_dem]
     · by_cases h2 : k ∈ ks <;> simp [h1, h2]
def keysK (keep : List Nat) : List (Nat × Ent) → List Nat
 | [] => []
 | (k, _) :: l => match memN k keep with
   | true => keysK keep l
   | false => k :: keysK keep l
theorem ownKeys_eq (keep : List Nat) : ∀ R : List (Nat × Ent), ownKeys keep R = (keysK keep R).map .own
 | [] => rfl
 | (k, e) :: l => by
   simp only [ownKeys, keysK]
   cases memN k keep with
   | true => exact ownKeys_eq keep l
   | false =>
     dsimp only
     rw [List.map_cons, ownKeys_eq keep l]
theorem mem_keysK {keep : List Nat} : ∀ {R : List (Nat × Ent)} {k : Nat} {e : Ent}, lk R k = some e → (k ∈ keysK keep R ↔ memN k keep = false)
 | [], k, e, h => by simp [lk] at h
 | (j, e') :: l, k, e, h => by
   simp only [lk] at h
   simp only [keysK]
   split at h
   · rename_i hj
     obtain rfl := Nat.eq_of_beq_eq_true hj
     split
     · rename_i hm
       have : ∀ (R : List (Nat × Ent)), j ∉ keysK keep R := by
        intro R
        induction R with
        | nil => simp [keysK]
        | cons x R ih =>
          obtain ⟨q, e2⟩ := x
          simp only [keysK]
          split
          · exact ih
          · rename_i hq
            intro hx
            rcases List.mem_cons.1 hx with rfl | hx
            · rw [hm] at hq; simp at hq
            · exact ih hx
       constructor
       · intro hx; exact absurd hx (this l)
       · intro hx; rw [hm] at hx; simp at hx
     · rename_i hm
       simp [hm]
   · rename_i hj
     have hne : k ≠ j := fun e => by subst e; rw [Nat.beq_refl] at hj; simp at hj
     split
     · exact mem_keysK h
     · rw [List.mem_cons, mem_keysK h]
       simp [hne]
theorem lk_same (keep : List Nat) (R : List (Nat × Ent)) (k : Nat) : lk (demoteM keep R) k = lk (demoteL (ownKeys keep R) R) k := by
 rw [ownKeys_eq, lk_demoteL, lk_demoteM]
 cases h : lk R k with
 | none => rfl
 | some e =>
   simp only [Option.map_some]
   have := mem_keysK (keep := keep) h
   cases hm : memN k keep with
   | true => rw [if_pos rfl, if_neg (fun h2 => by rw [this.1 h2] at hm; simp at hm)]
   | false => rw [if_neg (by simp), if_pos (this.2 hm)]
theorem Den.rows {E : Env} {fr : List (Nat × SV)} {stk : List (List (Nat × SV))} {bx : List (Nat × (TypeId × List SV))} {R R' : List (Nat × Ent)} {dep : Nat} {bs : List (Array Value)} {w : World} (h : Den τ w0 E ⟨fr, stk, bx, R, dep⟩ bs w) (hR : RwLe R' R) : Den τ w0 E ⟨fr, stk, bx, R', dep⟩ bs w := by
 refine ⟨h.below, h.bM, h.Mh, h.owb, ?_, ?_, ?_, h.bb, ?_, ?_⟩
 · intro i f hf
   obtain ⟨a, ha, hfr⟩ := h.fr i f hf
   exact ⟨a, ha, fun t => vd3.less hR (hfr t)⟩
 · intro k T cs hk
   obtain ⟨h1, us, h2, h3⟩ := h.box k T cs hk
   exact ⟨h1, us, h2, h3.mono fun x u _ hp => vd1.less hR hp⟩
 · intro k e lo r hk hm
   exact h.own k e lo r (hR k e hk) hm
 · intro k k' b e m hk hk' hm
   exact h.br k k' b e m hk (hR k' e hk') hm
 · intro k k' e e' m m' g hk hk' hm hm' hne hg
   exact h.rr k k' e e' m m' g (hR k e hk) (hR k' e' hk') hm hm' hne hg
theorem flat0_vd {E : Env} {R : List (Nat × Ent)} {w : World} {x : SV} {u : Value} (h : vd0 E R w x u) : vd0 E R w (flat0 R x) u := by
 cases x with
 | own k =>
   simp only [flat0]
   split
   · rename_i t r hk
     simp only [vd0] at h
     rw [hk] at h
     exact h
   · exact h
 | _ => exact h
theorem flat0_vd1 {E : Env} {R : List (Nat × Ent)} {w : World} {x : SV} {u : Value} (h : vd1 E R w x u) : vd1 E R w (flat0 R x) u := by
 cases x with
 | own k =>
   have := flat0_vd (R := R) (x := .own k) h
   revert this
   simp only [flat0]
   split <;> exact fun h => h
 | _ => exact h
theorem flatL_vd {E : Env} {R : List (Nat × Ent)} {w : World} {cs : List SV} {us : List Value} (h : L0 (vd1 E R w) cs us) : L0 (vd1 E R w) (flatL R cs) us := by
 induction cs generalizing us with
 | nil => exact h
 | cons x cs ih =>
   obtain ⟨u, us', rfl, h1, h2⟩ := h.inv_cons
   exact .cons (flat0_vd1 h1) (ih h2)
theorem flat1_vd {E : Env} {R : List (Nat × Ent)} {w : World} {x : SV} {u : Value} (h : vd3 E R w x u) : vd3 E R w (flat1 R x) u := by
 cases x with
 | agg cs =>
   obtain ⟨us, rfl, hl⟩ := h
   exact ⟨us, rfl, flatL_vd hl⟩
 | own k =>
   have := flat0_vd (R := R) (x := .own k) h
   revert this
   simp only [flat1, flat0]
   split <;> exact fun h => h
 | _ => exact h
theorem flatF_lkv {R : List (Nat × Ent)} : ∀ (f : List (Nat × SV)) (t : Nat), lkv (flatF R f) t = flat1 R (lkv f t)
 | [], t => rfl
 | (k, v) :: l, t => by
   simp only [flatF, lkv]
   split
   · rfl
   · exact flatF_lkv l t
theorem flatB_lk {R : List (Nat × Ent)} : ∀ {b : List (Nat × (TypeId × List SV))} {k : Nat} {T : TypeId} {cs : List SV}, lk (flatB R b) k = some (T, cs) → ∃ cs', lk b k = some (T, cs') ∧ cs = flatL R cs'
 | [], _, _, _, h => by simp [flatB, lk] at h
 | (j, (T', cs')) :: l, k, T, cs, h => by
   simp only [flatB, lk] at h ⊢
   split at h
   · simp at h
     obtain ⟨rfl, rfl⟩ := h
     exact ⟨cs', rfl, rfl⟩
   · exact flatB_lk h
theorem At.flat0 {keep : List Nat} {s : St} {a : Act} {w : World} (h : At τ w0 base M nn aS s a w) : At τ w0 base M nn aS (flatS0 keep s) a w := by
 obtain ⟨E, hd, h1, h2, h3⟩ := h
 obtain ⟨fr, stk, bx, rw', dep⟩ := s
 obtain ⟨E', g1, g2, _, _, _, hd0, _, _⟩ := hd.demoteL (ownKeys keep rw')
 have hd' := hd0.rows (R' := demoteM keep rw') fun k e hk => by rw [← lk_same]; exact hk
 refine ⟨E', ?_, g1.trans h1, by rw [g2]; exact h2, h3⟩
 refine ⟨hd'.below, hd'.bM, hd'.Mh, hd'.owb, ?_, ?_, hd'.own, ?_, ?_, hd'.rr⟩
 · intro i f hf
   cases i with
   | zero =>
     simp [flatS0] at hf
     subst hf
     obtain ⟨b, hb, hfr⟩ := hd'.fr 0 fr (by simp)
     refine ⟨b, hb, fun t => ?_⟩
     rw [flatF_lkv]
     exact flat1_vd (hfr t)
   | succ i => exact hd'.fr (i + 1) f hf
 · intro k T cs hk
   obtain ⟨cs', hk', rfl⟩ := flatB_lk hk
   have hb := hd'.box k T cs' hk'
   obtain ⟨us, hu, hl⟩ := hb.cells
   exact ⟨hb.ow, us, hu, flatL_vd hl⟩
 · rintro k k' ⟨T, cs⟩ ⟨T', cs'⟩ hk hk' hne
   obtain ⟨_, hk, _⟩ := flatB_lk hk
   obtain ⟨_, hk', _⟩ := flatB_lk hk'
   exact hd'.bb k k' _ _ hk hk' hne
 · rintro k k' ⟨T, cs⟩ e m hk hk' hm
   obtain ⟨_, hk, _⟩ := flatB_lk hk
   exact hd'.br k k' _ e m hk hk' hm
def Env.age (E : Env) (w : World) : Env := { E with M := w.heap.size }
theorem age_F {E : Env} {w : World} {t : Tag} : ∀ g, E.F w t g → g < w.heap.size → w.heap[g]? = w.heap[g]? ∧ (E.age w).F w .old g := fun g h hlt => ⟨rfl, h.1, hlt⟩
theorem ag0_vd {E : Env} {R : List (Nat × Ent)} {w : World} {x : SV} {u : Value} (h : vd1 E R w x u) : vd1 (E.age w) [] w (ag0 x) u := by
 cases x with
 | row t r => exact RowDen.mono h age_F
 | pre t r n => obtain ⟨A, c, h1, h2, h3⟩ := h; exact ⟨A, c, h1, h2, RowDen.mono h3 age_F⟩
 | pt t cs =>
   obtain ⟨ad, h1, h2, h3, h4, h5⟩ := h
   exact ⟨ad, h1, h2, h3, (age_F _ h4 h3).2, fun j x hx => by
    obtain ⟨u', hu, hd⟩ := h5 j x hx
    exact ⟨u', hu, cd2.mono hd age_F⟩⟩
 | own k => trivial
 | oel k i off => trivial
 | agg cs => trivial
 | tup cs => trivial
 | clo f a c => trivial
 | _ => exact h
theorem agL_vd {E : Env} {R : List (Nat × Ent)} {w : World} {cs : List SV} {us : List Value} (h : L0 (vd1 E R w) cs us) : L0 (vd1 (E.age w) [] w) (agL cs) us := by
 induction cs generalizing us with
 | nil => exact ⟨h.1, fun j x hx => by simp [agL] at hx⟩
 | cons x cs ih =>
   obtain ⟨u, us', rfl, h1, h2⟩ := h.inv_cons
   exact .cons (ag0_vd h1) (ih h2)
theorem ag1_vd {E : Env} {R : List (Nat × Ent)} {w : World} {x : SV} {u : Value} (h : vd3 E R w x u) : vd3 (E.age w) [] w (ag1 x) u := by
 cases x with
 | agg cs =>
   obtain ⟨us, rfl, hl⟩ := h
   exact ⟨us, rfl, agL_vd hl⟩
 | tup cs => trivial
 | clo f a c => trivial
 | row t r => exact ag0_vd (R := R) (x := .row t r) h
 | pre t r n => exact ag0_vd (R := R) (x := .pre t r n) h
 | pt t cs => exact ag0_vd (R := R) (x := .pt t cs) h
 | own k => trivial
 | oel k i off => trivial
 | _ => exact h
theorem agF_lkv : ∀ (f : List (Nat × SV)) (t : Nat), lkv (agF f) t = ag1 (lkv f t)
 | [], t => rfl
 | (k, v) :: l, t => by
   simp only [agF, lkv]
   split
   · rfl
   · exact agF_lkv l t
theorem agS_get : ∀ {l : List (List (Nat × SV))} {i : Nat} {f : List (Nat × SV)}, (agS l)[i]? = some f → ∃ f0, l[i]? = some f0 ∧ f = agF f0
 | [], i, f, h => by simp [agS] at h
 | g :: l, 0, f, h => by simp [agS] at h; exact ⟨g, rfl, h.symm⟩
 | g :: l, i + 1, f, h => by simpa using agS_get (l := l) (i := i) (by simpa [agS] using h)
theorem agB_lk : ∀ {b : List (Nat × (TypeId × List SV))} {k : Nat} {T : TypeId} {cs : List SV}, lk (agB b) k = some (T, cs) → ∃ cs', lk b k = some (T, cs') ∧ cs = agL cs'
 | [], _, _, _, h => by simp [agB, lk] at h
 | (j, (T', cs')) :: l, k, T, cs, h => by
   simp only [agB, lk] at h ⊢
   split at h
   · simp at h
     obtain ⟨rfl, rfl⟩ := h
     exact ⟨cs', rfl, rfl⟩
   · exact agB_lk h
theorem At.age {s : St} {a : Act} {w : World} (h : At τ w0 base M nn aS s a w) : At τ w0 base M nn aS (ageSt s) a w := by
 obtain ⟨E, hd, h1, h2, h3⟩ := h
 obtain ⟨fr, stk, bx, rw', dep⟩ := s
 refine ⟨E.age w, ⟨hd.below, Nat.le_trans hd.bM hd.Mh, Nat.le_refl _, hd.owb, ?_, ?_, ?_, ?_, ?_, ?_⟩, h1, Nat.le_trans h2 hd.Mh, h3⟩
 · intro i f hf
   cases i with
   | zero =>
     simp [ageSt] at hf
     subst hf
     obtain ⟨b, hb, hfr⟩ := hd.fr 0 fr (by simp)
     refine ⟨b, hb, fun t => ?_⟩
     rw [agF_lkv]
     exact ag1_vd (hfr t)
   | succ i =>
     obtain ⟨f0, hf0, rfl⟩ := agS_get (l := stk) (i := i) (by simpa [ageSt] using hf)
     obtain ⟨b, hb, hfr⟩ := hd.fr (i + 1) f0 (by simpa using hf0)
     refine ⟨b, hb, fun t => ?_⟩
     rw [agF_lkv]
     exact ag1_vd (hfr t)
 · intro k T cs hk
   obtain ⟨cs', hk', rfl⟩ := agB_lk hk
   obtain ⟨ho, us, hu, hl⟩ := hd.box k T cs' hk'
   exact ⟨ho, us, hu, agL_vd hl⟩
 · intro k e lo r hk; simp [ageSt, lk] at hk
 · rintro k k' ⟨T, cs⟩ ⟨T', cs'⟩ hk hk' hne
   obtain ⟨_, hk, _⟩ := agB_lk hk
   obtain ⟨_, hk', _⟩ := agB_lk hk'
   exact hd.bb k k' _ _ hk hk' hne
 · intro k k' b e m _ hk'; simp [ageSt, lk] at hk'
 · intro k k' e e' m m' g hk; simp [ageSt, lk] at hk
theorem At.flat {keep : List Nat} {s : St} {a : Act} {w : World} (h : At τ w0 base M nn aS s a w) : At τ w0 base M nn aS (flatSt keep s) a w := by
 unfold flatSt
 cases memN 999999999 keep with
 | true => exact (At.flat0 h).age
 | false => exact At.flat0 h
theorem At.adopt1 {s : St} {a : Act} {w : World} (h : At τ w0 base M nn aS s a w) (t k kd : Nat) : At τ w0 base M nn aS (adopt1 t k kd s) a w := by
 obtain ⟨fr, stk, bx, rw', dep⟩ := s
 unfold Go.Proofs.YtjjpakdlkjaigaaGreat.adopt1
 dsimp only
 split
 · rename_i r hr
   split
   · rename_i h1 h2 h3
     obtain ⟨E, hd, g1, g2, g3⟩ := h
     have hk12 : kd < 12 := Nat.lt_of_succ_le (Nat.le_of_ble_eq_true h2)
     have hkd : (mkEmpty kd).kd = kd := by
      match kd, hk12 with
      | 0, _ | 1, _ | 2, _ | 3, _ | 4, _ | 5, _ | 6, _ | 7, _ | 8, _ | 9, _ | 10, _ | 11, _ => rfl
     have hl := len_mkEmpty kd
     have hg : w.grownBy w none := ⟨rfl, rfl, rfl, Nat.le_refl _, fun _ _ _ => rfl⟩
     have hv : vd3 E rw' w (.nilS r) (a.tmps.getD t undef) := by
      obtain ⟨b, hb, hf⟩ := hd.fr 0 fr (by simp)
      simp at hb
      subst hb
      have := hf t
      rwa [hr] at this
     obtain ⟨hv, _⟩ : a.tmps.getD t undef = .slice none 0 0 ∧ r.len = 0 := hv
     have hd2 := hd.newRow (dep + k) h3 w hg (.slice none 0 0) (.own (mkEmpty kd)) (mkEmpty kd).len (mkEmpty kd) rfl [] (fun g hg => by simp [Value.ownBlock] at hg) (by rw [hl]; simp) (by rw [hl]; exact World.ownsRow_nil _ _ _ _) (fun i j x hi => by rw [hl] at hi; omega)
     refine ⟨E.add (dep + k) (.slice none 0 0), ⟨hd2.below, hd2.bM, hd2.Mh, hd2.owb, ?_, hd2.box, hd2.own, hd2.bb, hd2.br, hd2.rr⟩, g1, g2, g3⟩
     intro i f hf
     cases i with
     | zero =>
       simp at hf
       subst hf
       obtain ⟨b, hb, hfr⟩ := hd2.fr 0 fr (by simp)
       refine ⟨b, hb, fun t' => ?_⟩
       simp at hb
       subst hb
       simp only [lkv]
       split
       · rename_i ht
         obtain rfl := Nat.eq_of_beq_eq_true ht
         rw [hv]
         simp [vd3, vd2, vd1, vd0, lk_upd, Env.add]
       · exact hfr t'
     | succ i => exact hd2.fr (i + 1) f hf
   · exact h
 · exact h
theorem At.adopt {a : Act} {w : World} : ∀ (ad : List (Nat × (Nat × Nat))) {s : St}, At τ w0 base M nn aS s a w → At τ w0 base M nn aS (adoptSt ad s) a w
 | [], _, h => h
 | (t, (k, kd)) :: l, _, h => At.adopt l (h.adopt1 t k kd)
theorem sameB_eq {b c : Bool} (h : sameB b c = true) : b = c := by cases b <;> cases c <;> simp_all [sameB]
theorem sameB_ne {b c : Bool} (h : sameB b c = false) : b ≠ c := by cases b <;> cases c <;> simp_all [sameB]
theorem At.setLit {s : St} {a : Act} {w : World} (h : At τ w0 base M nn aS s a w) {t : Nat} {b : Bool} (hv : a.tmps.getD t undef = .bool b) : At τ w0 base M nn aS (setLit t b s) a w := by
 obtain ⟨E, hd, h1⟩ := h
 refine ⟨E, ?_, h1⟩
 obtain ⟨fr, stk, bx, rw', dep⟩ := s
 refine ⟨hd.below, hd.bM, hd.Mh, hd.owb, ?_, hd.box, hd.own, hd.bb, hd.br, hd.rr⟩
 intro i f hf
 cases i with
 | zero =>
   simp [Go.Proofs.YtjjpakdlkjaigaaGreat.setLit] at hf
   subst hf
   obtain ⟨c, hc, hfr⟩ := hd.fr 0 fr (by simp)
   refine ⟨c, hc, fun t' => ?_⟩
   simp at hc
   subst hc
   simp only [lkv]
   split
   · rename_i hk
     obtain rfl := Nat.eq_of_beq_eq_true hk
     exact hv
   · exact hfr t'
 | succ i => exact hd.fr (i + 1) f hf
theorem At.skip {s : St} {a : Act} {w : World} (h : At τ w0 base M nn aS s a w) {d : Option Tmp} (hd : ∀ t, d = some t → t < nn) : At τ w0 base M nn aS (skipO d s) (a.put d undef) w := by
 obtain ⟨E, h0, h1, h2, h3, h4⟩ := h
 refine ⟨E, ?_, h1, h2, by rw [(put_size a d undef).1]; exact h3, by rw [(put_size a d undef).2]; exact h4⟩
 obtain ⟨fr, stk, bx, rw', dep⟩ := s
 have := h0.put (x := .tup []) (v := undef) (d := d) ⟨[], rfl, L0.nil⟩ (fun t ht => Nat.lt_of_lt_of_le (hd t ht) h3)
 cases d with
 | none => exact this
 | some d => exact this
theorem At.get {s : St} {a : Act} {w : World} (h : At τ w0 base M nn aS s a w) (t : Nat) : ∃ E R, vd3 E R w (lkv s.fr t) (a.tmps.getD t undef) := by
 obtain ⟨E, hd, _⟩ := h
 obtain ⟨b, hb, hfr⟩ := hd.fr 0 s.fr (by simp)
 simp at hb
 subst hb
 exact ⟨E, _, hfr t⟩
theorem dstOk_mem {n : Nat} : ∀ {l : List Oper}, dstOk n l = true → ∀ o ∈ l, ∀ t, o.dst = some t → t < n
 | [], _, o, ho => by simp at ho
 | o' :: l, h, o, ho => by
   unfold dstOk at h
   split at h
   · rename_i d hd
     split at h
     · rename_i hlt
       rcases List.mem_cons.1 ho with rfl | ho
       · intro t ht; rw [hd] at ht; simp at ht; subst ht; exact Nat.lt_of_succ_le (Nat.le_of_ble_eq_true hlt)
       · exact dstOk_mem h o ho
     · simp at h
   · rename_i hd
     rcases List.mem_cons.1 ho with rfl | ho
     · intro t ht; rw [hd] at ht; simp at ht
     · exact dstOk_mem h o ho
theorem guardO_sound {ops : Array Oper} {o : Oper} {s : St} {a : Act} {w : World} {yes no : St → Prop} (hat : At τ w0 base M nn aS s a w) (hw : guardO ops.toList o s yes no) :
  (Region.wanted o (yielded ops a.tmps) = true ∧ ∃ s', yes s' ∧ At τ w0 base M nn aS s' a w) ∨ (Region.wanted o (yielded ops a.tmps) = false ∧ ∃ s', no s' ∧ At τ w0 base M nn aS s' a w) := by
 unfold guardO at hw
 split at hw
 · rename_i hg
   exact .inl ⟨by simp [Region.wanted, hg], s, hw, hat⟩
 · rename_i j want hg
   have hwd : ∀ b, yielded ops a.tmps j = some b → Region.wanted o (yielded ops a.tmps) = (b == want) := fun b hb => by simp [Region.wanted, hg, hb]
   split at hw
   · exact hw.elim
   · rename_i t ht
     have hy : ∀ b, a.tmps.getD t undef = .bool b → yielded ops a.tmps j = some b := by
      intro b hb
      unfold gslot at ht
      rw [nth_eq] at ht
      split at ht
      · rename_i o' ho'
        have ho2 : ops[j]? = some o' := by simpa using ho'
        unfold yielded
        rw [ho2]
        simp only [Option.bind_some, ht]
        have : a.tmps[t]? = some (.bool b) := by
         cases hx : a.tmps[t]? with
         | none => rw [Array.getD_eq_getD_getElem?, hx] at hb; simp [undef] at hb
         | some x => rw [Array.getD_eq_getD_getElem?, hx] at hb; simpa using hb
        rw [this]
      · simp at ht
     obtain ⟨E', R', hval⟩ := hat.get t
     split at hw
     · rename_i b hl
       rw [hl] at hval
       have hb := hwd b (hy b hval)
       split at hw
       · rename_i hs
         exact .inl ⟨by rw [hb, sameB_eq hs]; simp, s, hw, hat⟩
       · rename_i hs
         exact .inr ⟨by rw [hb]; simpa using sameB_ne hs, s, hw, hat⟩
     · rename_i b hl
       rw [hl] at hval
       have hb := hwd b (hy b hval)
       have hlit := fun c (e : b = c) => hat.setLit (t := t) (b := c) (by rw [← e]; exact hval)
       split at hw
       · cases hbb : b with
         | true => exact .inl ⟨by rw [hb, hbb]; rfl, _, hw.1 hbb, hlit true hbb⟩
         | false => exact .inr ⟨by rw [hb, hbb]; rfl, _, hw.2 hbb, hlit false hbb⟩
       · cases hbb : b with
         | false => exact .inl ⟨by rw [hb, hbb]; rfl, _, hw.1 hbb, hlit false hbb⟩
         | true => exact .inr ⟨by rw [hb, hbb]; rfl, _, hw.2 hbb, hlit true hbb⟩
     · rename_i vs hl
       rw [hl] at hval
       obtain ⟨us, hv, _⟩ := hval
       refine .inr ⟨?_, s, hw, hat⟩
       have : yielded ops a.tmps j = none := by
        unfold gslot at ht
        rw [nth_eq] at ht
        split at ht
        · rename_i o' ho'
          have ho2 : ops[j]? = some o' := by simpa using ho'
          unfold yielded
          rw [ho2]
          simp only [Option.bind_some, ht]
          cases hx : a.tmps[t]? with
          | none => rfl
          | some x =>
            rw [Array.getD_eq_getD_getElem?, hx] at hv
            simp at hv
            subst hv
            rfl
        · simp at ht
       simp [Region.wanted, hg, this]
     · exact hw.elim
variable (hτ : TysOk P τ) {C : Ctx} (hC : CtxOk P τ C)
include hτ hC
theorem step_wp {o : Oper} {s : St} {a : Act} {w : World} {K : St → Prop} {next : Act → World → Prop} {Q : Exit → Act → World → Prop} (h : At τ w0 base M nn aS s a w) (hd : ∀ t, o.dst = some t → t < nn)
  (hw : (step τ C o s).wp K) (hK : ∀ s' a' w', K s' → At τ w0 base M nn aS s' a' w' → next a' w') : o.wp P a w next Q := by
 obtain ⟨E, h0, h1, h2, h3, h4⟩ := h
 obtain ⟨fr, stk, bx, rw', dep⟩ := s
 have hg := step_good hτ hC h0 (o := o) fun t ht => Nat.lt_of_lt_of_le (hd t ht) h3
 have fin : ∀ s', OpGood P τ w0 E aS o a w s' → K s' → o.wp P a w next Q := fun s' hgood hk =>
  hgood next Q fun E' v w' hden hb hM => hK s' _ w' hk ⟨E', hden, hb.trans h1, by rw [hM]; exact h2, by rw [(put_size _ _ _).1]; exact h3, by rw [(put_size _ _ _).2]; exact h4⟩
 cases hs : step τ C o ⟨fr, stk, bx, rw', dep⟩ with
 | bad => rw [hs] at hw; exact hw.elim
 | ok s' => rw [hs] at hw hg; simp only [RS.wp, forceSt_eq] at hw; exact fin s' hg hw
 | ob p s' => rw [hs] at hw hg; simp only [RS.wp, forceSt_eq] at hw; exact fin s' (hg hw.1.out) (hw.2 hw.1.out)
theorem stepW_wp {o : Oper} {s : St} {a : Act} {w : World} {K : St → Prop} {next : Act → World → Prop} {Q : Exit → Act → World → Prop} (h : At τ w0 base M nn aS s a w) (hd : ∀ t, o.dst = some t → t < nn)
  (hw : stepW τ C o s K) (hK : ∀ s' a' w', K s' → At τ w0 base M nn aS s' a' w' → next a' w') : o.wp P a w next Q := by
 unfold stepW at hw
 split at hw
 · rename_i c ho
   split at hw
   · rename_i x hb
     rw [SV.force_eq] at hw
     split at hw
     · rename_i g ls cs hg
       split at hw
       · rename_i T hT
         rw [forceL_eq] at hw
         obtain ⟨E, h0, h1, h2, h3, h4⟩ := h
         obtain ⟨fr, stk, bx, rw', dep⟩ := s
         have hx := h0.get x
         rw [hg] at hx
         obtain ⟨us, vs, hf, hl1, hl2⟩ := hx
         have hargs : L0 (vd3 E rw' w) (ls ++ rawN τ ⟨fr, stk, bx, rw', dep⟩ c.args.toList c.argTypes.toList ++ cs) (us ++ c.args.toList.map a.eval ++ vs) :=
          ((hl1.mono fun _ _ _ h => vd3_of_vdf h).append (rawN_vd h0 _ _)).append (hl2.mono fun _ _ _ h => vd3_of_vd0 h)
         have hrun : (execOp a.eval o).run P w = .ok (.enter g (us ++ c.args.toList.map a.eval ++ vs).toArray) w := by
          have he := hC.trEnters g T hT (us ++ c.args.toList.map a.eval ++ vs).toArray w
          simp only [execOp, ho, resolve, hb, hf, Deferred.ofValue, invoke, Sem.run_bind, Sem.run_pure, Result.andThen_ok]
          rw [← he]
          congr 2
          apply Array.toList_inj.1
          simp
         unfold Oper.wp
         rw [hrun, Oper.upon_enter]
         refine (hC.trOk g T hT w0 E _ _ w _ _ _ h0 hargs hw).mono ?_
         rintro e w' ⟨z, v, s', E', rfl, hk, hden, hb', hM', hv⟩
         rw [SV.force_eq, forceSt_eq] at hk
         obtain ⟨fr', stk', bx', rw2, dep'⟩ := s'
         exact hK _ _ w' hk ⟨E', hden.put hv (fun t ht => Nat.lt_of_lt_of_le (hd t ht) h3), hb'.trans h1, Nat.le_trans h2 hM', by rw [(put_size _ _ _).1]; exact h3, by rw [(put_size _ _ _).2]; exact h4⟩
       · exact step_wp hτ hC h hd hw hK
     · exact step_wp hτ hC h hd hw hK
   · exact step_wp hτ hC h hd hw hK
 · exact step_wp hτ hC h hd hw hK
theorem opsL_sound {ops : Array Oper} {K : St → Prop} {Q : Exit → Act → World → Prop} (hok : dstOk nn ops.toList = true) (hK : ∀ s a w, K s → At τ w0 base M nn aS s a w → Q .normal a w) :
  ∀ (os : List Oper) (i : Nat) (s : St) (a : Act) (w : World), ops.toList.drop i = os → wpOpsL τ C ops.toList os s K → At τ w0 base M nn aS s a w → wpOps P ops Q (List.range' i os.length) a w := by
 intro os
 induction os with
 | nil => intro i s a w _ hw hat; simpa [wpOps] using hK s a w hw hat
 | cons o os ih =>
   intro i s a w hdrop hw hat
   have hi : ops[i]? = some o := by
    have : (ops.toList.drop i)[0]? = some o := by rw [hdrop]; rfl
    rw [List.getElem?_drop] at this
    simpa using this
   have hdrop' : ops.toList.drop (i + 1) = os := by
    have : (ops.toList.drop i).drop 1 = os := by rw [hdrop]; rfl
    simpa [List.drop_drop] using this
   have hd : ∀ t, o.dst = some t → t < nn := dstOk_mem hok o (by
    have : o ∈ ops.toList.drop i := by rw [hdrop]; simp
    exact List.mem_of_mem_drop this)
   simp only [List.length_cons, List.range'_succ, wpOps, hi]
   have exec : ∀ s', At τ w0 base M nn aS s' a w → (stepW τ C o s' fun s => wpOpsL τ C ops.toList os s K) → o.wp P a w (wpOps P ops Q (List.range' (i + 1) os.length)) Q := fun s' hat' hw' =>
    stepW_wp hτ hC hat' hd hw' fun s2 a2 w2 h2 hat2 => ih (i + 1) s2 a2 w2 hdrop' h2 hat2
   have skip : ∀ s', At τ w0 base M nn aS s' a w → wpOpsL τ C ops.toList os (skipO o.dst s') K → wpOps P ops Q (List.range' (i + 1) os.length) (a.put o.dst undef) w := fun s' hat' hw' =>
    ih (i + 1) _ _ w hdrop' hw' (hat'.skip hd)
   have yes : Region.wanted o (yielded ops a.tmps) = true → o.wp P a w (wpOps P ops Q (List.range' (i + 1) os.length)) Q → (if Region.wanted o (yielded ops a.tmps) = true then o.wp P a w (wpOps P ops Q (List.range' (i + 1) os.length)) Q ∨ (o.asks P a w ∧ LetsOut Q) else wpOps P ops Q (List.range' (i + 1) os.length) (a.put o.dst undef) w) := fun h1 h2 => by rw [if_pos h1]; exact .inl h2
   have no : Region.wanted o (yielded ops a.tmps) = false → wpOps P ops Q (List.range' (i + 1) os.length) (a.put o.dst undef) w → (if Region.wanted o (yielded ops a.tmps) = true then o.wp P a w (wpOps P ops Q (List.range' (i + 1) os.length)) Q ∨ (o.asks P a w ∧ LetsOut Q) else wpOps P ops Q (List.range' (i + 1) os.length) (a.put o.dst undef) w) := fun h1 h2 => by rw [if_neg (by rw [h1]; simp)]; exact h2
   unfold wpOpsL at hw
   rcases guardO_sound hat hw with ⟨h1, s', h2, h3⟩ | ⟨h1, s', h2, h3⟩
   · exact yes h1 (exec s' h3 h2)
   · exact no h1 (skip s' h3 h2)
end
end Go.Proofs.YtjjpakdlkjaigaaGreat

/- A symbolic executor for loaded Go code: drawn regions: what reads alone; places and edges. -/
namespace Go.Proofs.YtjjpakdlkjaigaaGreat
open Go.RowKit
section
variable {P : Program} {τ : Tys} {w0 : World} {E : Env} {aS : List (Array Value)} {a : Act} {w : World} {s : St} {o : Oper}
theorem evR_good (hτ : TysOk P τ) (hd : Den τ w0 E s (a.tmps :: aS) w) : (evR τ s o).good (Yld P o a w E s.rows) := by
 obtain ⟨fr, stk, bx, rw', dep⟩ := s
 unfold evR
 split
 · rename_i x ho; exact move_ok hτ hd x (.inl ho)
 · rename_i x ho; exact move_ok hτ hd x (.inr ho)
 · rename_i c x y ho; simp only [SV.force_eq]; exact pick_ok hd c x y ho
 · rename_i T x ho; rw [SV.force_eq]; exact loadOp_ok hτ hd T x ho
 · rename_i x ho; rw [SV.force_eq]; exact check_ok hd x ho
 · rename_i op T x y T' ho; simp only [SV.force_eq]; exact bin_ok hτ hd op T T' x y ho
 · rename_i op T x ho; simp only [SV.force_eq]; exact un_ok hd op T x ho
 · rename_i b c x ho; simp only [SV.force_eq]; exact conv_ok hτ hd b c x ho
 · rename_i fn b c ho; exact func_ok hd fn b c ho
 · rename_i S x j ho; rw [SV.force_eq]; exact fieldAddr_ok hτ hd S x j ho
 · rename_i S x j ho; rw [SV.force_eq]; exact field_ok hτ hd S x j ho
 · rename_i T x i ho; simp only [SV.force_eq]; exact indexAddr_ok hτ hd T x i ho
 · rename_i T x i ho; simp only [SV.force_eq]; exact index_ok hτ hd T x i ho
 · rename_i x j ho; rw [SV.force_eq]; exact extract_ok hd x j ho
 · rename_i T ps ho; exact build_ok hτ hd T ps ho
 · rename_i c ho
   split
   · rename_i hb
     split
     · rename_i x T hx hT
       rw [SV.force_eq]
       split
       · rename_i n b hn htd hs
         exact len_ok hτ hd c x T ho hb hx hT hn (.inl ⟨htd, b, hs⟩)
       · rename_i n e t r hn htd hs
         exact len_ok hτ hd c x T ho hb hx hT hn (.inr ⟨⟨_, htd⟩, fun b => by rw [hs]; simp⟩)
       · rename_i n e k hn htd hs
         exact len_ok hτ hd c x T ho hb hx hT hn (.inr ⟨⟨_, htd⟩, fun b => by rw [hs]; simp⟩)
       · rename_i n e r hn htd hs
         exact len_ok hτ hd c x T ho hb hx hT hn (.inr ⟨⟨_, htd⟩, fun b => by rw [hs]; simp⟩)
       · trivial
     · trivial
   · rename_i hb
     split
     · rename_i x y hx
       rw [SV.force_eq, SV.force_eq]
       exact min_ok hd c x y .min (.inl rfl) ho hb hx
     · trivial
   · rename_i hb
     split
     · rename_i x y hx
       rw [SV.force_eq, SV.force_eq]
       exact min_ok hd c x y .max (.inr rfl) ho hb hx
     · trivial
   · trivial
 · trivial
end
theorem inM_iff (j m : Nat) : inM j m = m.testBit j := by
 have h : ∀ n : Nat, Nat.beq n 1 = decide (n = 1) := fun n => by
  cases hb : Nat.beq n 1 with
  | true => simp [Nat.eq_of_beq_eq_true hb]
  | false => simp [Nat.ne_of_beq_eq_false hb]
 unfold inM
 rw [h]
 show decide ((m >>> j) &&& 1 = 1) = _
 unfold Nat.testBit
 rw [Nat.and_comm 1]
 rcases Nat.mod_two_eq_zero_or_one (m >>> j) with h2 | h2 <;> simp [Nat.and_one_is_mod, h2]
theorem inM_add (i j m : Nat) : inM i (addM j m) = (inM i m || decide (i = j)) := by
 simp only [inM_iff]
 show (m ||| (1 <<< j)).testBit i = _
 rw [Nat.testBit_or, Nat.shiftLeft_eq, Nat.one_mul, Nat.testBit_two_pow]
 congr 1
 simp [eq_comm]
theorem inM_zero (i : Nat) : inM i 0 = false := by simp [inM_iff]
theorem inM_or (i a b : Nat) : inM i (Nat.lor a b) = (inM i a || inM i b) := by
 simp only [inM_iff]
 exact Nat.testBit_or a b i
theorem subM_iff (a b : Nat) : subM a b = true ↔ ∀ i, inM i a = true → inM i b = true := by
 unfold subM
 constructor
 · intro h i hi
   have h : Nat.land a b = a := Nat.eq_of_beq_eq_true h
   rw [inM_iff] at hi ⊢
   have : (a &&& b).testBit i = true := by rw [show a &&& b = a from h]; exact hi
   rw [Nat.testBit_and] at this
   simp at this
   exact this.2
 · intro h
   have : a &&& b = a := by
    apply Nat.eq_of_testBit_eq
    intro i
    rw [Nat.testBit_and]
    have := h i
    simp only [inM_iff] at this
    cases ha : a.testBit i with
    | false => simp
    | true => simp [this ha]
   show Nat.beq (a &&& b) a = true
   rw [this]
   exact Nat.beq_refl a
section
variable {ops : Array Oper} {tab : List (Nat × Nat)}
theorem bindsB_eq (e : Edge) : bindsB e = Region.binds .any e := by
 obtain ⟨on, g⟩ := e
 cases g <;> rfl
theorem inM_edgeM (i : Nat) : ∀ (l : List Edge) (m : Nat), inM i (edgeM l m) = true ↔ inM i m = true ∨ ∃ e ∈ l, bindsB e = true ∧ e.on = i
 | [], m => by simp [edgeM]
 | e :: l, m => by
   simp only [edgeM]
   split
   · rename_i hb
     rw [inM_edgeM i l, inM_add]
     simp only [Bool.or_eq_true, decide_eq_true_eq, List.mem_cons]
     constructor
     · rintro ((h | h) | ⟨e', h1, h2⟩)
       · exact .inl h
       · exact .inr ⟨e, .inl rfl, hb, h.symm⟩
       · exact .inr ⟨e', .inr h1, h2⟩
     · rintro (h | ⟨e', rfl | h1, h2⟩)
       · exact .inl (.inl h)
       · exact .inl (.inr h2.2.symm)
       · exact .inr ⟨e', h1, h2⟩
   · rename_i hb
     rw [inM_edgeM i l]
     simp only [List.mem_cons]
     constructor
     · rintro (h | ⟨e', h1, h2⟩)
       · exact .inl h
       · exact .inr ⟨e', .inr h1, h2⟩
     · rintro (h | ⟨e', rfl | h1, h2⟩)
       · exact .inl h
       · rw [hb] at h2; exact absurd h2.1 (by simp)
       · exact .inr ⟨e', h1, h2⟩
def Waits (ops : Array Oper) (i j : Nat) : Prop := ∃ o, ops[j]? = some o ∧ ∃ e ∈ o.after, bindsB e = true ∧ e.on = i
structure DrawD (ops : Array Oper) (tb : List (Nat × Nat)) : Prop where
 len : tb.length = ops.size
 tab : ∀ (j : Nat) (o : Oper), ops[j]? = some o → tb[j]? = some (j, edgeM o.after.toList 0)
 back : ∀ i j, Waits ops i j → i < j
 dst : ∀ (i j : Nat) (o q : Oper) (t : Tmp), ops[j]? = some o → ops[i]? = some q → i ≠ j → q.dst = some t → o.dst ≠ some t
 reads : ∀ (i j : Nat) (o q : Oper) (t : Tmp), ops[j]? = some o → ops[i]? = some q → i ≠ j → q.dst = some t → t ∈ looks ops.toList o → Waits ops i j ∨ Waits ops j i
 sel : ∀ (j : Nat) (o : Oper) cs b, ops[j]? = some o → o.op ≠ .select cs b
theorem tabOk_spec : ∀ (os : List Oper) (tab : List (Nat × Nat)) (n : Nat), tabOk os tab n = true → tab.length = os.length ∧ ∀ (j : Nat) o, os[j]? = some o → tab[j]? = some (n + j, edgeM o.after.toList 0) ∧ ∀ e ∈ o.after, bindsB e = true → e.on < n + j
 | [], [], n, _ => ⟨rfl, fun j o h => by simp at h⟩
 | o :: os, (k, b) :: tab, n, h => by
   simp only [tabOk, Bool.and_eq_true] at h
   obtain ⟨⟨⟨h1, h2⟩, h3⟩, h4⟩ := h
   obtain ⟨g1, g2⟩ := tabOk_spec os tab (n + 1) h4
   refine ⟨by simp [g1], fun j q hq => ?_⟩
   cases j with
   | zero =>
     simp at hq
     subst hq
     refine ⟨by simp [Nat.eq_of_beq_eq_true h1, Nat.eq_of_beq_eq_true h2], fun e he hb => ?_⟩
     have := List.all_eq_true.1 h3 e (by simpa using he)
     simp only [hb, Bool.not_true, Bool.or_false] at this
     exact Nat.lt_of_succ_le (Nat.le_of_ble_eq_true this)
   | succ j =>
     obtain ⟨g3, g4⟩ := g2 j q (by simpa using hq)
     refine ⟨by simpa [Nat.add_assoc, Nat.add_comm 1] using g3, fun e he hb => by have := g4 e he hb; omega⟩
 | [], _ :: _, n, h => by simp [tabOk] at h
 | _ :: _, [], n, h => by simp [tabOk] at h
theorem pairsOk_spec {all : List Oper} {T : List (Nat × Nat)} {j b : Nat} {o : Oper} : ∀ {qs : List Oper} {t : List (Nat × Nat)}, pairsOk all T j b o qs t = true → t.length = qs.length → ∀ (i : Nat) q p, qs[i]? = some q → t[i]? = some p → pairOk all j b o p.1 p.2 q = true
 | [], t, _, _, i, q, p, hq, _ => by simp at hq
 | q' :: qs, (k, c) :: t, h, hl, i, q, p, hq, hp => by
   simp only [pairsOk, Bool.and_eq_true] at h
   cases i with
   | zero => simp at hq hp; subst hq; subst hp; exact h.1
   | succ i => exact pairsOk_spec h.2 (by simpa using hl) i q p (by simpa using hq) (by simpa using hp)
 | _ :: _, [], _, hl, i, q, p, hq, _ => by simp at hl
theorem allPairs_spec {all : List Oper} {T : List (Nat × Nat)} : ∀ {os : List Oper} {t : List (Nat × Nat)}, allPairs all T os t = true → t.length = os.length → ∀ (j : Nat) o p, os[j]? = some o → t[j]? = some p → pairsOk all T p.1 p.2 o all T = true
 | [], t, _, _, i, q, p, hq, _ => by simp at hq
 | q' :: qs, (k, c) :: t, h, hl, i, q, p, hq, hp => by
   simp only [allPairs, Bool.and_eq_true] at h
   cases i with
   | zero => simp at hq hp; subst hq; subst hp; exact h.1
   | succ i => exact allPairs_spec h.2 (by simpa using hl) i q p (by simpa using hq) (by simpa using hp)
 | _ :: _, [], _, hl, i, q, p, hq, _ => by simp at hl
theorem memT_iff (t : Nat) : ∀ l : List Nat, pairOk.memT t l = true ↔ t ∈ l
 | [] => by simp [pairOk.memT]
 | x :: l => by
   simp only [pairOk.memT, Bool.or_eq_true, memT_iff t l, List.mem_cons]
   constructor
   · rintro (h | h)
     · exact .inl (Nat.eq_of_beq_eq_true h).symm
     · exact .inr h
   · rintro (rfl | h)
     · exact .inl (Nat.beq_refl _)
     · exact .inr h
theorem noSel_spec : ∀ {os : List Oper}, noSel os = true → ∀ o ∈ os, ∀ cs b, o.op ≠ .select cs b
 | [], _, o, ho => by simp at ho
 | q :: os, h, o, ho => by
   unfold noSel at h
   split at h
   · simp at h
   · rename_i hne
     rcases List.mem_cons.1 ho with rfl | ho
     · exact fun cs b e => hne cs b e
     · exact noSel_spec h o ho
theorem waits_inM {i j : Nat} {o : Oper} (h : ops[j]? = some o) : inM i (edgeM o.after.toList 0) = true ↔ Waits ops i j := by
 rw [inM_edgeM]
 simp only [inM_zero, Bool.false_eq_true, false_or]
 constructor
 · rintro ⟨e, he, h1⟩; exact ⟨o, h, e, by simpa using he, h1⟩
 · rintro ⟨o', h', e, he, h1⟩
   rw [h] at h'
   injection h' with h'
   subst h'
   exact ⟨e, by simpa using he, h1⟩
theorem inM_slotsM (t : Nat) : ∀ l : List Nat, inM t (slotsM l) = true ↔ t ∈ l
 | [] => by simp [slotsM, inM_zero]
 | x :: l => by
   unfold slotsM
   rw [inM_add, Bool.or_eq_true, inM_slotsM t l, decide_eq_true_eq, List.mem_cons]
   exact ⟨fun h => h.symm, fun h => h.symm⟩
theorem memT_slots (t : Nat) (l : List Nat) : inM t (slotsM l) = pairOk.memT t l := by
 have h1 := inM_slotsM t l
 have h2 := memT_iff t l
 cases h3 : inM t (slotsM l) <;> cases h4 : pairOk.memT t l <;> simp_all
theorem pairB_eq (all : List Oper) (j b : Nat) (o : Oper) (i c : Nat) (q : Oper) : pairB j b (slotsM (looks all o)) o.dst i c q.dst = pairOk all j b o i c q := by
 unfold pairB pairOk
 cases q.dst with
 | none => rfl
 | some t =>
   dsimp only
   rw [memT_slots]
theorem pairsB_eq (all : List Oper) (T : List (Nat × Nat)) (j b : Nat) (o : Oper) : ∀ (qs : List Oper) (t : List (Nat × Nat)), pairsB j b (slotsM (looks all o)) o.dst qs t = pairsOk all T j b o qs t
 | [], t => by cases t <;> simp [pairsB, pairsOk]
 | _ :: _, [] => by simp [pairsB, pairsOk]
 | q :: qs, (i, c) :: t => by
   unfold pairsB pairsOk
   rw [pairB_eq, pairsB_eq all T j b o qs t]
   cases pairOk all j b o i c q <;> rfl
theorem allPairsB_eq (all : List Oper) (T : List (Nat × Nat)) : ∀ (os : List Oper) (t : List (Nat × Nat)), allPairsB all T os t = allPairs all T os t
 | [], t => by cases t <;> simp [allPairsB, allPairs]
 | _ :: _, [] => by simp [allPairsB, allPairs]
 | o :: os, (j, b) :: t => by
   unfold allPairsB allPairs
   rw [forceN_eq, pairsB_eq all T, allPairsB_eq all T os t]
   cases pairsOk all T j b o all T <;> rfl
theorem drawOk_spec (h : drawOk ops.toList tab = true) : DrawD ops tab := by
 simp only [drawOk, Bool.and_eq_true, allPairsB_eq] at h
 obtain ⟨⟨h1, h2⟩, h3⟩ := h
 obtain ⟨g1, g2⟩ := tabOk_spec _ _ _ h1
 have ht : ∀ (j : Nat) (o : Oper), ops[j]? = some o → tab[j]? = some (j, edgeM o.after.toList 0) := fun j o ho => by simpa using (g2 j o (by simpa using ho)).1
 have pr : ∀ (i j : Nat) (o q : Oper), ops[j]? = some o → ops[i]? = some q → pairOk ops.toList j (edgeM o.after.toList 0) o i (edgeM q.after.toList 0) q = true := by
  intro i j o q ho hq
  have a1 := allPairs_spec h2 g1 j o _ (by simpa using ho) (ht j o ho)
  exact pairsOk_spec a1 g1 i q _ (by simpa using hq) (ht i q hq)
 refine ⟨by simpa using g1, ht, ?_, ?_, ?_, ?_⟩
 · rintro i j ⟨o, ho, e, he, hb, rfl⟩
   simpa using (g2 j o (by simpa using ho)).2 e he hb
 · intro i j o q t ho hq hne hd hod
   have := pr i j o q ho hq
   unfold pairOk at this
   rw [hd] at this
   simp only at this
   split at this
   · rename_i hij; exact hne (Nat.eq_of_beq_eq_true hij)
   · rw [hod] at this; simp at this
 · intro i j o q t ho hq hne hd hl
   have := pr i j o q ho hq
   unfold pairOk at this
   rw [hd] at this
   simp only at this
   split at this
   · rename_i hij; exact absurd (Nat.eq_of_beq_eq_true hij) hne
   · simp only [Bool.and_eq_true, Bool.or_eq_true, Bool.not_eq_true'] at this
     rcases this.2 with h | h | h
     · have := (memT_iff t _).2 hl; rw [h] at this; exact absurd this (by simp)
     · exact .inl ((waits_inM ho).1 h)
     · exact .inr ((waits_inM hq).1 h)
 · intro j o cs b ho
   exact noSel_spec h3 o (by
    have : ops.toList[j]? = some o := by simpa using ho
    exact List.mem_of_getElem? this) cs b
structure Fills (ops : Array Oper) (S : Nat → Prop) (z : Nat → Value) (a0 x : Array Value) : Prop where
 size : x.size = a0.size
 at_ : ∀ t, (∃ j o, ops[j]? = some o ∧ o.dst = some t ∧ S j ∧ x.getD t undef = z j) ∨ ((∀ j o, ops[j]? = some o → o.dst = some t → ¬ S j) ∧ x.getD t undef = a0.getD t undef)
variable {S S' : Nat → Prop} {z : Nat → Value} {a0 : Array Value} {x y : Act}
theorem getD_put (a : Act) (d : Option Tmp) (v : Value) (t : Nat) : (a.put d v).tmps.getD t undef = if d = some t ∧ t < a.tmps.size then v else a.tmps.getD t undef := by
 cases d with
 | none => simp [Act.put]
 | some d =>
   simp only [Act.put, Array.getD_eq_getD_getElem?, Option.some.injEq]
   by_cases h : d = t
   · subst h
     by_cases hl : d < a.tmps.size
     · simp [hl]
     · simp [hl]
   · simp [h, Array.getElem?_setIfInBounds_ne h]
theorem Fills.get (h : Fills ops S z a0 x.tmps) (D : DrawD ops tab) {j : Nat} {o : Oper} {t : Nat} (ho : ops[j]? = some o) (hd : o.dst = some t) (hS : S j) : x.tmps.getD t undef = z j := by
 rcases h.at_ t with ⟨i, q, hq, hqd, hSi, hv⟩ | ⟨hn, _⟩
 · by_cases e : i = j
   · subst e; exact hv
   · exact absurd hd (D.dst i j o q t ho hq e hqd)
 · exact absurd hS (hn j o ho hd)
theorem Fills.put (h : Fills ops S z a0 x.tmps) (D : DrawD ops tab) {j : Nat} {o : Oper} (ho : ops[j]? = some o) (hlt : ∀ t, o.dst = some t → t < x.tmps.size) (hS' : ∀ i, S' i ↔ S i ∨ i = j) : Fills ops S' z a0 (x.put o.dst (z j)).tmps := by
 refine ⟨by rw [(put_size _ _ _).1]; exact h.size, fun t => ?_⟩
 rw [getD_put]
 by_cases hd : o.dst = some t
 · rw [if_pos ⟨hd, hlt t hd⟩]
   exact .inl ⟨j, o, ho, hd, (hS' j).2 (.inr rfl), rfl⟩
 · rw [if_neg (fun h => hd h.1)]
   rcases h.at_ t with ⟨i, q, hq, hqd, hSi, hv⟩ | ⟨hn, hv⟩
   · exact .inl ⟨i, q, hq, hqd, (hS' i).2 (.inl hSi), hv⟩
   · refine .inr ⟨fun i q hq hqd hSi => ?_, hv⟩
     rcases (hS' i).1 hSi with h1 | rfl
     · exact hn i q hq hqd h1
     · rw [ho] at hq; injection hq with hq; subst hq; exact hd hqd
theorem Fills.congr {z' : Nat → Value} (h : Fills ops S z a0 x.tmps) (hS : ∀ i, S i ↔ S' i) (hz : ∀ i, S i → z' i = z i) : Fills ops S' z' a0 x.tmps := by
 refine ⟨h.size, fun t => ?_⟩
 rcases h.at_ t with ⟨i, q, hq, hqd, hSi, hv⟩ | ⟨hn, hv⟩
 · exact .inl ⟨i, q, hq, hqd, (hS i).1 hSi, by rw [hz i hSi]; exact hv⟩
 · exact .inr ⟨fun i q hq hqd hSi => hn i q hq hqd ((hS i).2 hSi), hv⟩
theorem Fills.agree (h : Fills ops S z a0 x.tmps) (h' : Fills ops S' z a0 y.tmps) (D : DrawD ops tab) {j : Nat} {o : Oper} (ho : ops[j]? = some o) (hp : ∀ i, Waits ops i j → S i ∧ S' i) (hq : ∀ i, Waits ops j i → ¬ S i ∧ ¬ S' i) (hS : ¬ S j) (hS' : ¬ S' j) :
  ∀ t ∈ looks ops.toList o, x.tmps.getD t undef = y.tmps.getD t undef := by
 intro t ht
 have key : ∀ {S1 S2 : Nat → Prop} {i : Nat} {q : Oper}, (∀ i, Waits ops i j → S1 i ∧ S2 i) → (∀ i, Waits ops j i → ¬ S1 i ∧ ¬ S2 i) → ¬ S1 j → ops[i]? = some q → q.dst = some t → S1 i → S2 i := by
  intro S1 S2 i q h1 h2 h3 hiq hd hSi
  have hne : i ≠ j := fun e => by subst e; exact h3 hSi
  rcases D.reads i j o q t ho hiq hne hd ht with hw | hw
  · exact (h1 i hw).2
  · exact absurd hSi (h2 i hw).1
 rcases h.at_ t with ⟨i, q, hiq, hqd, hSi, hv⟩ | ⟨hn, hv⟩
 · rw [hv, h'.get D hiq hqd (key hp hq hS hiq hqd hSi)]
 · rcases h'.at_ t with ⟨i, q, hiq, hqd, hSi, hv'⟩ | ⟨_, hv'⟩
   · exact absurd (key (fun i hi => (hp i hi).symm) (fun i hi => (hq i hi).symm) hS' hiq hqd hSi) (hn i q hiq hqd)
   · rw [hv, hv']
theorem tmpsOf_mem : ∀ {l : List Operand} {t : Nat}, Operand.tmp t ∈ l → t ∈ tmpsOf l
 | [], t, h => by simp at h
 | x :: l, t, h => by
   rcases List.mem_cons.1 h with rfl | h
   · simp [tmpsOf]
   · have := tmpsOf_mem h
     unfold tmpsOf
     split <;> first | (rename_i h1; simp at h1; done) | skip
     · rename_i h1; injection h1 with h1 h2; subst h2; exact List.mem_cons_of_mem _ this
     · rename_i h1; injection h1 with h1 h2; subst h2; exact this
theorem looks_tmps {o : Oper} {t : Nat} (h : t ∈ tmpsOf o.op.operands.toList) : t ∈ looks ops.toList o := by
 unfold looks
 split
 · split
   · exact List.mem_cons_of_mem _ h
   · exact h
 · exact h
theorem same_op (D : DrawD ops tab) {j : Nat} {o : Oper} (ho : ops[j]? = some o) (hs : x.tmps.size = y.tmps.size) (h : ∀ t ∈ looks ops.toList o, x.tmps.getD t undef = y.tmps.getD t undef) :
  execOp x.eval o = execOp y.eval o ∧ Region.wanted o (yielded ops x.tmps) = Region.wanted o (yielded ops y.tmps) := by
 constructor
 · refine execOp_congr o (fun cs b => D.sel j o cs b ho) fun u hu => ?_
   cases u with
   | tmp t => exact h t (looks_tmps (tmpsOf_mem (by simpa using hu)))
   | _ => rfl
 · unfold Region.wanted
   cases hg : o.guard with
   | none => rfl
   | some gw =>
     obtain ⟨g, want⟩ := gw
     have : yielded ops x.tmps g = yielded ops y.tmps g := by
      unfold yielded
      cases hd : (ops[g]?).bind (·.dst) with
      | none => rfl
      | some t =>
        have ht : t ∈ looks ops.toList o := by
         unfold looks
         rw [hg]
         have : gslot ops.toList g = some t := by
          unfold gslot
          rw [nth_eq]
          cases hq : ops[g]? with
          | none => rw [hq] at hd; simp at hd
          | some q => rw [hq] at hd; simp at hd; simp [hq, hd]
         simp [this]
        have hv := h t ht
        have : x.tmps[t]? = y.tmps[t]? := by
         by_cases hl : t < x.tmps.size
         · have hl' : t < y.tmps.size := hs ▸ hl
           simp only [Array.getD_eq_getD_getElem?, Array.getElem?_eq_getElem hl, Array.getElem?_eq_getElem hl', Option.getD_some] at hv ⊢
           rw [hv]
         · have hl' : ¬ t < y.tmps.size := hs ▸ hl
           rw [Array.getElem?_eq_none (Nat.le_of_not_lt hl), Array.getElem?_eq_none (Nat.le_of_not_lt hl')]
        simp [this]
     simp only [this]
end
end Go.Proofs.YtjjpakdlkjaigaaGreat

/- A symbolic executor for loaded Go code: drawn regions: the ghost's frame. -/
namespace Go.Proofs.YtjjpakdlkjaigaaGreat
open Go.RowKit
section
variable {P : Program} {τ : Tys} {w0 : World} {base M nn : Nat} {aS : List (Array Value)} {ops : Array Oper} {tab : List (Nat × Nat)} {w : World} {a0 oldA : Array Value}
def Comes' (P : Program) (ops : Array Oper) (w : World) (g : Act) (o : Oper) (v : Value) : Prop :=
 (Region.wanted o (yielded ops g.tmps) = true ∧ (execOp g.eval o).run P w = .ok (.value v) w) ∨ (Region.wanted o (yielded ops g.tmps) = false ∧ v = undef)
def RunFact (P : Program) (ops : Array Oper) (w : World) (z : Nat → Value) (a0 : Array Value) (j : Nat) (o : Oper) : Prop :=
 ∃ (g : Act) (S : Nat → Prop), Fills ops S z a0 g.tmps ∧ (∀ k, S k → k < j) ∧ (∀ k, Waits ops k j → S k) ∧ Comes' P ops w g o (z j)
theorem RunFact.congr {z z' : Nat → Value} {j : Nat} {o : Oper} (h : RunFact P ops w z a0 j o) (hz : ∀ k, k ≤ j → z' k = z k) : RunFact P ops w z' a0 j o := by
 obtain ⟨g, S, h1, h2, h3, h4⟩ := h
 exact ⟨g, S, h1.congr (fun _ => Iff.rfl) (fun i hi => hz i (Nat.le_of_lt (h2 i hi))), h2, h3, by rw [hz j (Nat.le_refl _)]; exact h4⟩
def Avl (ops : Array Oper) (p av j : Nat) (o : Oper) : Prop := (isR o = true ∧ ∀ k, Waits ops k j → inM k av = true) ∨ (isR o = false ∧ inM j p = true)
def AtV (τ : Tys) (w0 : World) (base M nn : Nat) (aS : List (Array Value)) (s : St) (a : Act) (w : World) (x : SV) (v : Value) : Prop :=
 ∃ E, Den τ w0 E s (a.tmps :: aS) w ∧ E.base = base ∧ M ≤ E.M ∧ nn ≤ a.tmps.size ∧ a.defers = [] ∧ vd3 E s.rows w x v
theorem AtV.put {s : St} {g : Act} {x : SV} {v : Value} {d : Tmp} (h : AtV τ w0 base M nn aS s g w x v) (hd : d < nn) : At τ w0 base M nn aS (putS d x s) (g.put (some d) v) w := by
 obtain ⟨E, h0, h1, h2, h3, h4, h5⟩ := h
 refine ⟨E, ?_, h1, h2, by rw [(put_size _ _ _).1]; exact h3, by rw [(put_size _ _ _).2]; exact h4⟩
 obtain ⟨fr, stk, bx, rw', dep⟩ := s
 exact h0.put (d := some d) h5 fun t ht => by simp at ht; subst ht; exact Nat.lt_of_lt_of_le hd h3
theorem At.junk {s : St} {g : Act} (h : At τ w0 base M nn aS s g w) (v : Value) : AtV τ w0 base M nn aS s g w .junk v := by
 obtain ⟨E, h0, h1, h2, h3, h4⟩ := h
 exact ⟨E, h0, h1, h2, h3, h4, trivial⟩
theorem At.skipped {s : St} {g : Act} (h : At τ w0 base M nn aS s g w) : AtV τ w0 base M nn aS s g w (.tup []) undef := by
 obtain ⟨E, h0, h1, h2, h3, h4⟩ := h
 exact ⟨E, h0, h1, h2, h3, h4, [], rfl, L0.nil⟩
theorem skipV_vd {E : Env} {R : List (Nat × Ent)} {x : SV} {v : Value} (h : vd3 E R w x v) : vd3 E R w (skipV x) v := by
 unfold skipV
 split
 · exact h
 · trivial
theorem skipV_undef {E : Env} {R : List (Nat × Ent)} (x : SV) {v : Value} (h : vd3 E R w (.tup []) v) : vd3 E R w (skipV x) v := by
 unfold skipV
 split
 · exact h
 · trivial
theorem At.second {s : St} {g : Act} {old : List (Nat × SV)} (h : At τ w0 base M nn (oldA :: aS) s g w) (hs : ∃ r, s.stk = old :: r) (t : Nat) : AtV τ w0 base M nn (oldA :: aS) s g w (lkv old t) (oldA.getD t undef) := by
 obtain ⟨E, h0, h1, h2, h3, h4⟩ := h
 obtain ⟨r, hr⟩ := hs
 obtain ⟨b, hb, hf⟩ := h0.fr 1 old (by simp [hr])
 simp at hb
 subst hb
 exact ⟨E, h0, h1, h2, h3, h4, hf t⟩
theorem AtV.conv {s : St} {g : Act} {x y : SV} {v : Value} (h : AtV τ w0 base M nn aS s g w x v) (hc : ∀ (E : Env) (R : List (Nat × Ent)), vd3 E R w x v → vd3 E R w y v) : AtV τ w0 base M nn aS s g w y v := by
 obtain ⟨E, h0, h1, h2, h3, h4, h5⟩ := h
 exact ⟨E, h0, h1, h2, h3, h4, hc _ _ h5⟩
theorem RwLe.refl (R : List (Nat × Ent)) : RwLe R R := fun _ _ h => h
theorem relV_spec {x v : SV} {K : SV → Prop} (h : relV (some x) v K) : ∃ v', K v' ∧ (∀ (E : Env) (R : List (Nat × Ent)) (w : World) (u : Value), vd3 E R w x u → vd3 E R w v' u) ∧ ∀ (E : Env) (R : List (Nat × Ent)) (w : World) (u : Value), vd3 E R w v u → vd3 E R w v' u := by
 unfold relV at h
 dsimp only at h
 split at h
 · rename_i b c
   have hbc := h.1.out
   subst hbc
   exact ⟨_, h.2, fun _ _ _ _ h => h, fun _ _ _ _ h => h⟩
 · exact ⟨v, h.2, fun E R w u hx => sub_vd3 (RwLe.refl R) h.1 hx, fun _ _ _ _ h => h⟩
theorem RV.wp_good {r : RV} {K Y : SV → Prop} (h : r.wp K) (hg : r.good Y) : ∃ v, K v ∧ Y v := by
 cases r with
 | bad => exact h.elim
 | ok v => simp only [RV.wp, SV.force_eq] at h; exact ⟨v, h, hg⟩
 | ob q v => simp only [RV.wp, SV.force_eq] at h; exact ⟨v, h.2 h.1.out, hg h.1.out⟩
theorem setLit_stk (t : Nat) (b : Bool) (s : St) : (setLit t b s).stk = s.stk := by cases s; rfl
theorem putS_stk (d : Nat) (x : SV) (s : St) : (putS d x s).stk = s.stk := by cases s; rfl
theorem guardO_stk {o : Oper} {s : St} {yes no : St → Prop} (hw : guardO ops.toList o s yes no) : guardO ops.toList o s (fun s' => yes s' ∧ s'.stk = s.stk) (fun s' => no s' ∧ s'.stk = s.stk) := by
 unfold guardO at hw ⊢
 split
 · rename_i hg; rw [hg] at hw; exact ⟨hw, rfl⟩
 · rename_i j want hg
   rw [hg] at hw
   dsimp only at hw
   split
   · rename_i h; rw [h] at hw; exact hw
   · rename_i t ht
     rw [ht] at hw
     dsimp only at hw
     split
     · rename_i b hb
       rw [hb] at hw
       dsimp only at hw
       split
       · rename_i h; rw [h] at hw; exact ⟨hw, rfl⟩
       · rename_i h; rw [h] at hw; exact ⟨hw, rfl⟩
     · rename_i b hb
       rw [hb] at hw
       dsimp only at hw
       split
       · exact ⟨fun h => ⟨hw.1 h, setLit_stk _ _ _⟩, fun h => ⟨hw.2 h, setLit_stk _ _ _⟩⟩
       · exact ⟨fun h => ⟨hw.1 h, setLit_stk _ _ _⟩, fun h => ⟨hw.2 h, setLit_stk _ _ _⟩⟩
     · rename_i vs hb
       rw [hb] at hw
       exact ⟨hw, rfl⟩
     · rename_i h1 h2 h3
       split at hw
       · rename_i b hb; exact absurd hb (h1 b)
       · rename_i b hb; exact absurd hb (h2 b)
       · rename_i b hb; exact absurd hb (h3 b)
       · exact hw
variable (hτ : TysOk P τ)
include hτ
theorem fill_sound (D : DrawD ops tab) {p avO su : Nat} {old : List (Nat × SV)} {Dn : Nat → Prop} {z : Nat → Value} (hdst : dstOk nn ops.toList = true)
  (hW : ∀ (j : Nat) (o : Oper), ops[j]? = some o → isR o = false → inM j p = true → Dn j)
  (hR : ∀ (j : Nat) (o : Oper), ops[j]? = some o → isR o = true → Dn j → inM j avO = true)
  (hsu : ∀ j, inM j su = true → Dn j)
  (hold : ∀ (j : Nat) (o : Oper) (t : Tmp), ops[j]? = some o → o.dst = some t → Dn j → oldA.getD t undef = z j)
  {K : Nat → St → Prop} {G : Prop}
  (hK : ∀ (av : Nat) (s : St) (g : Act) (z' : Nat → Value), K av s → At τ w0 base M nn (oldA :: aS) s g w → (∃ r, s.stk = old :: r) → Fills ops (fun i => inM i av = true) z' a0 g.tmps → (∀ j, Dn j → z' j = z j) →
    (∀ (j : Nat) (o : Oper), ops[j]? = some o → (inM j av = true ↔ Avl ops p av j o)) → (∀ (j : Nat) (o : Oper), ops[j]? = some o → isR o = true → inM j av = true → ¬ Dn j → RunFact P ops w z' a0 j o) → G) :
  ∀ (os : List Oper) (tb : List (Nat × Nat)) (m av : Nat) (s : St) (g : Act) (z' : Nat → Value), ops.toList.drop m = os → tab.drop m = tb → fill τ ops.toList p avO su old os tb av s K → At τ w0 base M nn (oldA :: aS) s g w → (∃ r, s.stk = old :: r) →
   Fills ops (fun i => inM i av = true) z' a0 g.tmps → (∀ j, Dn j → z' j = z j) → (∀ (j : Nat) (o : Oper), ops[j]? = some o → j < m → (inM j av = true ↔ Avl ops p av j o)) → (∀ j, inM j av = true → j < m) →
   (∀ (j : Nat) (o : Oper), ops[j]? = some o → isR o = true → inM j av = true → ¬ Dn j → RunFact P ops w z' a0 j o) → G := by
 intro os
 induction os with
 | nil =>
   intro tb m av s g z' hos htb hw hat hstk hF hD hA hU hRun
   have htn : tb = [] := by
    have h1 : ops.toList.length ≤ m := by simpa using List.drop_eq_nil_iff.1 hos
    rw [← htb]
    exact List.drop_eq_nil_of_le (by rw [D.len]; simpa using h1)
   subst htn
   have hm : ∀ (j : Nat) (o : Oper), ops[j]? = some o → j < m := fun j o ho => by
    have h1 : ops.toList.length ≤ m := by simpa using List.drop_eq_nil_iff.1 hos
    have h2 := (Array.getElem?_eq_some_iff.1 ho).1
    simp at h1
    omega
   exact hK av s g z' hw hat hstk hF hD (fun j o ho => hA j o ho (hm j o ho)) hRun
 | cons o os ih =>
   intro tb m av s g z' hos htb hw hat hstk hF hD hA hU hRun
   have ho : ops[m]? = some o := by
    have : (ops.toList.drop m)[0]? = some o := by rw [hos]; rfl
    rw [List.getElem?_drop] at this
    simpa using this
   have hos' : ops.toList.drop (m + 1) = os := by
    have : (ops.toList.drop m).drop 1 = os := by rw [hos]; rfl
    simpa [List.drop_drop] using this
   have htab := D.tab m o ho
   have htb0 : tb = (m, edgeM o.after.toList 0) :: tab.drop (m + 1) := by
    rw [← htb]
    have hlt := (List.getElem?_eq_some_iff.1 htab).1
    rw [List.drop_eq_getElem_cons hlt]
    congr 1
    exact (List.getElem?_eq_some_iff.1 htab).2
   subst htb0
   have hdn : ∀ t, o.dst = some t → t < nn := dstOk_mem hdst o (by
    have : o ∈ ops.toList.drop m := by rw [hos]; simp
    exact List.mem_of_mem_drop this)
   have hmav : inM m av = false := by
    cases h : inM m av with
    | false => rfl
    | true => exact absurd (hU m h) (Nat.lt_irrefl _)
   -- one more has run
   have next : ∀ (s1 : St) (g1 : Act) (v0 : Value), At τ w0 base M nn (oldA :: aS) s1 (g.put o.dst v0) w → (∃ r, s1.stk = old :: r) → (Dn m → v0 = z m) → (isR o = true → ¬ Dn m → Comes' P ops w g o v0) → Avl ops p av m o →
     fill τ ops.toList p avO su old os (tab.drop (m + 1)) (addM m av) s1 K → G := by
    intro s1 _ v0 hat1 hstk1 hDm hcm havl hfill
    let z2 : Nat → Value := fun k => if k = m then v0 else z' k
    have hz2 : ∀ k, k ≠ m → z2 k = z' k := fun k hk => by simp [z2, hk]
    have hz2m : z2 m = v0 := by simp [z2]
    have hF2 : Fills ops (fun i => inM i av = true) z2 a0 g.tmps := hF.congr (fun _ => Iff.rfl) fun i hi => hz2 i (Nat.ne_of_lt (hU i hi))
    have hsz : nn ≤ g.tmps.size := by obtain ⟨_, _, _, _, h, _⟩ := hat; exact h
    have hin : ∀ i, inM i (addM m av) = true ↔ inM i av = true ∨ i = m := fun i => by rw [inM_add]; simp
    refine ih _ (m + 1) (addM m av) s1 (g.put o.dst v0) z2 hos' rfl hfill hat1 hstk1 ?_ ?_ ?_ ?_ ?_
    · rw [← hz2m]
      exact hF2.put D ho (fun t ht => Nat.lt_of_lt_of_le (hdn t ht) hsz) hin
    · intro j hj
      by_cases e : j = m
      · subst e; rw [hz2m]; exact hDm hj
      · rw [hz2 j e]; exact hD j hj
    · intro j q hq hlt
      have hmono : ∀ (j : Nat) (q : Oper), ops[j]? = some q → j ≤ m → (Avl ops p (addM m av) j q ↔ Avl ops p av j q) := by
       intro j q hq hle
       unfold Avl
       constructor
       · rintro (⟨h1, h2⟩ | h)
         · exact .inl ⟨h1, fun k hk => ((hin k).1 (h2 k hk)).resolve_right (fun e => by subst e; have := D.back _ _ hk; omega)⟩
         · exact .inr h
       · rintro (⟨h1, h2⟩ | h)
         · exact .inl ⟨h1, fun k hk => (hin k).2 (.inl (h2 k hk))⟩
         · exact .inr h
      rw [hin, hmono j q hq (by omega)]
      by_cases e : j = m
      · subst e
        rw [ho] at hq
        injection hq with hq
        subst hq
        exact ⟨fun _ => havl, fun _ => .inr rfl⟩
      · rw [← hA j q hq (by omega)]
        exact ⟨fun h => h.resolve_right e, .inl⟩
    · intro j hj
      rcases (hin j).1 hj with h | rfl
      · have := hU j h; omega
      · omega
    · intro j q hq hRq hj hnd
      by_cases e : j = m
      · subst e
        rw [ho] at hq
        injection hq with hq
        subst hq
        refine ⟨g, _, hF2, hU, ?_, by rw [hz2m]; exact hcm hRq hnd⟩
        rcases havl with h | h
        · exact h.2
        · rw [hRq] at h; exact absurd h.1 (by simp)
      · have hj' := ((hin j).1 hj).resolve_right e
        exact (hRun j q hq hRq hj' hnd).congr fun k hk => hz2 k (by have := hU j hj'; omega)
   -- it has not run
   have pass : ¬ Avl ops p av m o → fill τ ops.toList p avO su old os (tab.drop (m + 1)) av s K → G := by
    intro hn hfill
    refine ih _ (m + 1) av s g z' hos' rfl hfill hat hstk hF hD ?_ (fun j hj => by have := hU j hj; omega) hRun
    intro j q hq hlt
    by_cases e : j = m
    · subst e
      rw [ho] at hq
      injection hq with hq
      subst hq
      rw [hmav]
      exact ⟨fun h => by simp at h, fun h => absurd h hn⟩
    · exact hA j q hq (by omega)
   have putD : ∀ {s1 : St} {x : SV} {v0 : Value} {d : Tmp}, o.dst = some d → AtV τ w0 base M nn (oldA :: aS) s1 g w x v0 → At τ w0 base M nn (oldA :: aS) (putS d x s1) (g.put o.dst v0) w := by
    intro s1 x v0 d hd h
    rw [hd]
    exact h.put (hdn d hd)
   simp only [fill, forceSt_eq] at hw
   split at hw
   · rename_i d hr hd
     have hav : subM (edgeM o.after.toList 0) av = true ↔ ∀ k, Waits ops k m → inM k av = true := by
      rw [subM_iff]
      exact ⟨fun h k hk => h k ((waits_inM ho).2 hk), fun h k hk => h k ((waits_inM ho).1 hk)⟩
     split at hw
     · rename_i hsub
       have havl : Avl ops p av m o := .inl ⟨hr, hav.1 hsub⟩
       have hat1 := fun (s1 : St) (h : s1.stk = s.stk) => show ∃ r, s1.stk = old :: r by rw [h]; exact hstk
       split at hw
       · rename_i h1 h2
         rw [SV.force_eq, forceN_eq] at hw
         have hDm := hsu m h2
         have hv := hat.second hstk d
         rw [hold m o d ho hd hDm] at hv
         exact next _ g (z m) (putD hd hv) (by rw [putS_stk]; exact hstk) (fun _ => rfl) (fun _ h => absurd hDm h) havl hw
       · rename_i h1 h2
         rw [forceN_eq] at hw
         rcases guardO_sound hat (guardO_stk hw) with ⟨hwd, s1, ⟨g2, gs⟩, g3⟩ | ⟨hwd, s1, ⟨g2, gs⟩, g3⟩
         · obtain ⟨E, e0, e1, e2, e3, e4⟩ := id g3
           obtain ⟨v, hKv, zz, hrun, hvd⟩ := RV.wp_good g2 (evR_good (o := o) hτ e0)
           rw [SV.force_eq] at hKv
           obtain ⟨v', hfill, hx, hv⟩ := relV_spec hKv
           by_cases hDm : Dn m
           · have hv0 := g3.second (hat1 s1 gs) d
             rw [hold m o d ho hd hDm] at hv0
             exact next _ g (z m) (putD hd (hv0.conv fun E R h => hx E R w _ h)) (by rw [putS_stk]; exact hat1 s1 gs) (fun _ => rfl) (fun _ h => absurd hDm h) havl hfill
           · exact next _ g zz (putD hd ⟨E, e0, e1, e2, e3, e4, hv _ _ _ _ hvd⟩) (by rw [putS_stk]; exact hat1 s1 gs) (fun h => absurd h hDm) (fun _ _ => .inl ⟨hwd, hrun⟩) havl hfill
         · rw [SV.force_eq] at g2
           by_cases hDm : Dn m
           · have hv0 := g3.second (hat1 s1 gs) d
             rw [hold m o d ho hd hDm] at hv0
             exact next _ g (z m) (putD hd (hv0.conv fun E R h => skipV_vd h)) (by rw [putS_stk]; exact hat1 s1 gs) (fun _ => rfl) (fun _ h => absurd hDm h) havl g2
           · exact next _ g undef (putD hd (g3.skipped.conv fun E R h => skipV_undef _ h)) (by rw [putS_stk]; exact hat1 s1 gs) (fun h => absurd h hDm) (fun _ _ => .inr ⟨hwd, rfl⟩) havl g2
       · rename_i h1
         have hDm : ¬ Dn m := fun h => by rw [hR m o ho hr h] at h1; exact absurd h1 (by simp)
         rw [forceN_eq] at hw
         rcases guardO_sound hat (guardO_stk hw) with ⟨hwd, s1, ⟨g2, gs⟩, g3⟩ | ⟨hwd, s1, ⟨g2, gs⟩, g3⟩
         · obtain ⟨E, e0, e1, e2, e3, e4⟩ := id g3
           obtain ⟨v, hKv, zz, hrun, hvd⟩ := RV.wp_good g2 (evR_good (o := o) hτ e0)
           exact next _ g zz (putD hd ⟨E, e0, e1, e2, e3, e4, hvd⟩) (by rw [putS_stk]; exact hat1 s1 gs) (fun h => absurd h hDm) (fun _ _ => .inl ⟨hwd, hrun⟩) havl hKv
         · exact next _ g undef (putD hd g3.skipped) (by rw [putS_stk]; exact hat1 s1 gs) (fun h => absurd h hDm) (fun _ _ => .inr ⟨hwd, rfl⟩) havl g2
     · rename_i hsub
       refine pass ?_ hw
       rintro (h | h)
       · rw [hav.2 h.2] at hsub; exact absurd hsub (by simp)
       · rw [hr] at h; exact absurd h.1 (by simp)
   · exact hw.elim
   · rename_i d0 hr
     split at hw
     · rename_i hp
       have hDm := hW m o ho hr hp
       rw [forceN_eq] at hw
       have havl : Avl ops p av m o := .inr ⟨hr, hp⟩
       split at hw
       · rename_i d hd
         rw [SV.force_eq] at hw
         have hv := hat.second hstk d
         rw [hold m o d ho hd hDm] at hv
         exact next _ g (z m) (putD hd hv) (by rw [putS_stk]; exact hstk) (fun _ => rfl) (fun _ h => absurd hDm h) havl hw
       · rename_i hd
         refine next s g (z m) (by rw [hd]; exact hat) hstk (fun _ => rfl) (fun _ h => absurd hDm h) havl hw
     · rename_i hp
       refine pass ?_ hw
       rintro (h | h)
       · rw [hr] at h; exact absurd h.1 (by simp)
       · rw [hp] at h; exact absurd h.2 (by simp)
end
end Go.Proofs.YtjjpakdlkjaigaaGreat

/- A symbolic executor for loaded Go code: drawn regions: every order. -/
namespace Go.Proofs.YtjjpakdlkjaigaaGreat
open Go.RowKit
section
variable {P : Program} {τ : Tys} {w0 : World} {base M nn : Nat} {aS : List (Array Value)} {ops : Array Oper} {tab : List (Nat × Nat)}
theorem nodup_le : ∀ (n : Nat) (l : List Nat), l.Nodup → (∀ j ∈ l, j < n) → l.length ≤ n
 | 0, l, _, h => by
   cases l with
   | nil => simp
   | cons x l => exact absurd (h x (by simp)) (Nat.not_lt_zero _)
 | n + 1, l, hn, h => by
   have h1 : (l.erase n).Nodup := hn.erase n
   have h2 : ∀ j ∈ l.erase n, j < n := by
    intro j hj
    have hj' := List.mem_of_mem_erase hj
    have hne : j ≠ n := fun e => by subst e; exact (List.Nodup.not_mem_erase hn) hj
    have := h j hj'
    omega
   have h3 := nodup_le n _ h1 h2
   have h4 : l.length ≤ (l.erase n).length + 1 := by
    rw [List.length_erase]
    split <;> omega
   omega
theorem wp_transfer {o : Oper} {g a : Act} {w : World} {Mx : Act → World → Prop} {next : Act → World → Prop} {Q : Exit → Act → World → Prop} (he : execOp g.eval o = execOp a.eval o) (h : o.wp P g w Mx fun _ _ _ => False)
  (hdef : ∀ g' w', Mx g' w' → g'.defers = []) (hn : ∀ v w', Mx (g.put o.dst v) w' → next (a.put o.dst v) w') : o.wp P a w next Q := by
 unfold Oper.wp at *
 rw [← he]
 generalize (execOp g.eval o).run P w = r at *
 cases r with
 | ok n w' =>
   cases n <;> simp only [Oper.upon] at h ⊢
   case value v => exact hn v w' h
   case skip => exact hn undef w' h
   case defer d =>
    have := hdef _ _ h
    rw [(put_size _ _ _).2] at this
    simp at this
   case enter f args =>
    refine Calls.mono h fun e w'' he => ?_
    cases e with
    | returned v => exact hn v w'' he
    | panicked c => exact he.elim
    | outgrown => obtain ⟨_, _, hf⟩ := he; exact hf.elim
   case row row args => exact Rows.mono h fun v w'' he => hn v w'' he
 | halt x w' =>
   cases x <;> simp only [Oper.upon] at h
theorem allW_true {p : Nat} : ∀ (os : List Oper) (tb : List (Nat × Nat)), (∀ (j : Nat) o q, os[j]? = some o → tb[j]? = some q → isR o = false → inM q.1 p = true) → allW p os tb = true
 | [], tb, _ => by unfold allW; rfl
 | _ :: _, [], _ => by unfold allW; rfl
 | o :: os, (j, b) :: tb, h => by
   simp only [allW]
   split
   · rename_i h1 h2
     have := h 0 o (j, b) (by simp) (by simp) h1
     rw [this] at h2
     simp at h2
   · exact allW_true os tb fun i q r hq hr => h (i + 1) q r (by simpa using hq) (by simpa using hr)
theorem allW_all {p : Nat} : ∀ (os : List Oper) (tb : List (Nat × Nat)), allW p os tb = true → ∀ (j : Nat) o q, os[j]? = some o → tb[j]? = some q → isR o = false → inM q.1 p = true
 | [], tb, _, j, o, q, h, _, _ => by simp at h
 | _ :: _, [], _, j, o, q, _, h, _ => by simp at h
 | o' :: os, (k, b) :: tb, h, j, o, q, ho, hq, hr => by
   simp only [allW] at h
   split at h
   · simp at h
   · rename_i hne
     cases j with
     | zero =>
       simp at ho hq
       subst ho; subst hq
       cases hp : inM k p with
       | true => rfl
       | false => exact absurd hp (hne hr)
     | succ j => exact allW_all os tb h j o q (by simpa using ho) (by simpa using hq) hr
theorem candO_get {p av : Nat} {F : Nat → Oper → Prop} : ∀ (os : List Oper) (tb : List (Nat × Nat)), candO p av F os tb → ∀ (j : Nat) o q, os[j]? = some o → tb[j]? = some q → isR o = false → inM q.1 p = false → subM q.2 av = true → F q.1 o
 | [], tb, _, j, o, q, h, _, _, _, _ => by simp at h
 | _ :: _, [], _, j, o, q, _, h, _, _, _ => by simp at h
 | o' :: os, (k, b) :: tb, h, j, o, q, ho, hq, hr, hp, hs => by
   simp only [candO] at h
   cases j with
   | zero =>
     simp at ho hq
     subst ho; subst hq
     split at h
     · exact h.1
     · rename_i hne; exact absurd hs (hne hr hp)
   | succ j =>
     have := candO_get os tb (by split at h <;> first | exact h.2 | exact h) j o q (by simpa using ho) (by simpa using hq) hr hp hs
     exact this
theorem sureM_sub {X : Nat → Prop} : ∀ (l : List (Nat × Nat)) (m : Nat), (∀ j, inM j m = true → X j) → (∀ q ∈ l, X q.1 → ∀ k, inM k q.2 = true → X k) → ∀ j, inM j (sureM l m) = true → X j
 | [], m, h, _, j, hj => h j hj
 | (i, b) :: l, m, h, hc, j, hj => by
   simp only [sureM] at hj
   split at hj
   · rename_i hi
     rw [forceN_eq] at hj
     refine sureM_sub l _ ?_ (fun q hq => hc q (List.mem_cons_of_mem _ hq)) j hj
     intro k hk
     rw [inM_or] at hk
     simp only [Bool.or_eq_true] at hk
     rcases hk with hk | hk
     · exact h k hk
     · exact hc (i, b) (by simp) (h i hi) k hk
   · exact sureM_sub l m h (fun q hq => hc q (List.mem_cons_of_mem _ hq)) j hj
theorem At.pop {s : St} {g : Act} {w : World} {x : Array Value} (h : At τ w0 base M nn (x :: aS) s g w) : At τ w0 base M nn aS (pop1 s) g w := by
 obtain ⟨E, hd, h1⟩ := h
 refine ⟨E, ?_, h1⟩
 obtain ⟨fr, stk, bx, rw', dep⟩ := s
 cases stk with
 | nil =>
   refine ⟨hd.below, hd.bM, hd.Mh, hd.owb, ?_, hd.box, hd.own, hd.bb, hd.br, hd.rr⟩
   intro i f hf
   cases i with
   | zero =>
     obtain ⟨b, hb, hfr⟩ := hd.fr 0 f hf
     exact ⟨b, by simpa using hb, hfr⟩
   | succ i => simp [pop1] at hf
 | cons f0 stk =>
   refine ⟨hd.below, hd.bM, hd.Mh, hd.owb, ?_, hd.box, hd.own, hd.bb, hd.br, hd.rr⟩
   intro i f hf
   cases i with
   | zero =>
     obtain ⟨b, hb, hfr⟩ := hd.fr 0 f (by simpa [pop1] using hf)
     exact ⟨b, by simpa using hb, hfr⟩
   | succ i =>
     obtain ⟨b, hb, hfr⟩ := hd.fr (i + 2) f (by simpa [pop1] using hf)
     exact ⟨b, by simpa using hb, hfr⟩
theorem At.refill {old fr0 : List (Nat × SV)} {stk : List (List (Nat × SV))} {bx : List (Nat × (TypeId × List SV))} {rw' : List (Nat × Ent)} {dep : Nat} {g : Act} {w : World} {a0 : Array Value}
  (h : At τ w0 base M nn (a0 :: aS) ⟨old, fr0 :: stk, bx, rw', dep⟩ g w) (hs : a0.size = g.tmps.size) : At τ w0 base M nn (g.tmps :: a0 :: aS) ⟨fr0, old :: fr0 :: stk, bx, rw', dep⟩ { tmps := a0, defers := [] } w := by
 obtain ⟨E, hd, h1, h2, h3, h4⟩ := h
 refine ⟨E, ⟨hd.below, hd.bM, hd.Mh, hd.owb, ?_, hd.box, hd.own, hd.bb, hd.br, hd.rr⟩, h1, h2, by simpa [hs] using h3, rfl⟩
 intro i f hf
 cases i with
 | zero =>
   obtain ⟨b, hb, hfr⟩ := hd.fr 1 f (by simpa using hf)
   exact ⟨b, by simpa using hb, hfr⟩
 | succ i =>
   obtain ⟨b, hb, hfr⟩ := hd.fr i f (by simpa using hf)
   exact ⟨b, by simpa using hb, hfr⟩
theorem Fills.same {S S' : Nat → Prop} {z : Nat → Value} {a0 : Array Value} {x y : Act} (h : Fills ops S z a0 x.tmps) (h' : Fills ops S' z a0 y.tmps) (D : DrawD ops tab) (hS : ∀ (j : Nat) (o : Oper), ops[j]? = some o → (S j ↔ S' j)) : x.tmps = y.tmps := by
 have hsz : x.tmps.size = y.tmps.size := h.size.trans h'.size.symm
 have hv : ∀ t, x.tmps.getD t undef = y.tmps.getD t undef := by
  intro t
  rcases h.at_ t with ⟨i, q, hiq, hqd, hSi, hv⟩ | ⟨hn, hv⟩
  · rw [hv, h'.get D hiq hqd ((hS i q hiq).1 hSi)]
  · rcases h'.at_ t with ⟨i, q, hiq, hqd, hSi, hv'⟩ | ⟨_, hv'⟩
    · exact absurd ((hS i q hiq).2 hSi) (hn i q hiq hqd)
    · rw [hv, hv']
 refine Array.ext hsz fun i h1 h2 => ?_
 have := hv i
 simpa [Array.getD_eq_getD_getElem?, h1, h2] using this
theorem getD_tf {l : Array Bool} {j : Nat} (hj : j < l.size) : l.getD j true = l.getD j false := by simp [Array.getD_eq_getD_getElem?, hj]
theorem opLt {j : Nat} {o : Oper} (h : ops[j]? = some o) : j < ops.size := (Array.getElem?_eq_some_iff.1 h).1
theorem listed_av (D : DrawD ops tab) {listed : Array Bool} {p av : Nat} (hcl : ∀ j, listed.getD j false = true → ∀ k, Waits ops k j → listed.getD k false = true)
  (hW : ∀ (j : Nat) (o : Oper), ops[j]? = some o → isR o = false → (inM j p = true ↔ listed.getD j false = true)) (hA : ∀ (j : Nat) (o : Oper), ops[j]? = some o → (inM j av = true ↔ Avl ops p av j o)) :
  ∀ j, j < ops.size → listed.getD j false = true → inM j av = true := by
 intro j
 induction j using Nat.strongRecOn with
 | _ j ih =>
   intro hj hL
   have ho : ops[j]? = some ops[j] := Array.getElem?_eq_getElem hj
   refine (hA j _ ho).2 ?_
   cases hr : isR ops[j] with
   | true => exact .inl ⟨hr, fun k hk => ih k (D.back k j hk) (Nat.lt_trans (D.back k j hk) hj) (hcl j hL k hk)⟩
   | false => exact .inr ⟨hr, (hW j _ ho hr).2 hL⟩
theorem all_listed (D : DrawD ops tab) {listed : Array Bool} (hsz : listed.size = ops.size) (hr : Region.ready .any ops listed = []) : ∀ j, j < ops.size → listed.getD j false = true := by
 intro j
 induction j using Nat.strongRecOn with
 | _ j ih =>
   intro hj
   cases hL : listed.getD j false with
   | true => rfl
   | false =>
     exfalso
     have ho : ops[j]? = some ops[j] := Array.getElem?_eq_getElem hj
     have : j ∈ Region.ready .any ops listed := by
      refine mem_ready.2 ⟨by rw [getD_tf (by rw [hsz]; exact hj)]; exact hL, ops[j], ho, fun e he hb => ?_⟩
      have hw : Waits ops e.on j := ⟨_, ho, e, he, by rw [bindsB_eq]; exact hb, rfl⟩
      have hlt := D.back _ _ hw
      exact ih e.on hlt (Nat.lt_trans hlt hj)
     rw [hr] at this
     simp at this
theorem node_fin (D : DrawD ops tab) {τ : Tys} {C : Ctx} {Q : Exit → Act → World → Prop} {K : St → Prop} (hK : ∀ s a w, K s → At τ w0 base M nn aS s a w → Q .normal a w) {listed : Array Bool} {a g : Act} {w : World} {f p av : Nat} {s : St} {z : Nat → Value} {a0 : Array Value}
  (hall : ∀ j, j < ops.size → listed.getD j false = true) (hcl : ∀ j, listed.getD j false = true → ∀ k, Waits ops k j → listed.getD k false = true)
  (hat : At τ w0 base M nn (a0 :: aS) s g w) (hF : Fills ops (fun j => inM j av = true) z a0 g.tmps) (hL : Fills ops (fun j => listed.getD j false = true) z a0 a.tmps) (hdef : a.defers = [])
  (hW : ∀ (j : Nat) (o : Oper), ops[j]? = some o → isR o = false → (inM j p = true ↔ listed.getD j false = true)) (hA : ∀ (j : Nat) (o : Oper), ops[j]? = some o → (inM j av = true ↔ Avl ops p av j o))
  (hw : wpNode τ C ops.toList tab f p av s K) : Q .normal a w := by
 have hav := listed_av D hcl hW hA
 have heq : g.tmps = a.tmps := hF.same hL D fun j o ho => ⟨fun _ => hall j (opLt ho), fun h => hav j (opLt ho) h⟩
 have hga : g = a := by
  obtain ⟨_, _, _, _, _, hgd⟩ := id hat
  cases g; cases a
  simp_all
 subst hga
 cases f with
 | zero => exact hw.elim
 | succ f =>
   simp only [wpNode] at hw
   have : allW p ops.toList tab = true := allW_true _ _ fun j o q ho hq hr => by
    have ho' : ops[j]? = some o := by simpa using ho
    rw [D.tab j o ho'] at hq
    injection hq with hq
    subst hq
    exact (hW j o ho' hr).2 (hall j (opLt ho'))
   rw [this] at hw
   exact hK _ _ _ hw hat.pop
theorem set_listed {listed : Array Bool} {i : Nat} (hi : i < listed.size) (j : Nat) : (listed.setIfInBounds i true).getD j false = true ↔ listed.getD j false = true ∨ j = i := by
 by_cases h : i = j
 · subst h
   simp [Array.getD_eq_getD_getElem?, hi]
 · rw [getD_set_ne false h]
   exact ⟨.inl, fun h' => h'.resolve_right fun e => h e.symm⟩
variable (hτ : TysOk P τ) {C : Ctx} (hC : CtxOk P τ C)
include hτ hC
theorem node_sound (D : DrawD ops tab) (hdst : dstOk nn ops.toList = true) {Q : Exit → Act → World → Prop} {K : St → Prop} (hK : ∀ s a w, K s → At τ w0 base M nn aS s a w → Q .normal a w) :
  ∀ (F : Nat) (listed : Array Bool) (a : Act) (w : World) (f p av : Nat) (s : St) (z : Nat → Value) (a0 : Array Value) (g : Act),
   listed.size = ops.size → (∀ l : List Nat, l.Nodup → (∀ j ∈ l, j < ops.size ∧ listed.getD j true = false) → l.length ≤ F) →
   (∀ j, listed.getD j false = true → ∀ k, Waits ops k j → listed.getD k false = true) →
   At τ w0 base M nn (a0 :: aS) s g w → Fills ops (fun j => inM j av = true) z a0 g.tmps → Fills ops (fun j => listed.getD j false = true) z a0 a.tmps → a.defers = [] →
   (∀ (j : Nat) (o : Oper), ops[j]? = some o → isR o = false → (inM j p = true ↔ listed.getD j false = true)) →
   (∀ (j : Nat) (o : Oper), ops[j]? = some o → (inM j av = true ↔ Avl ops p av j o)) →
   (∀ (j : Nat) (o : Oper), ops[j]? = some o → isR o = true → inM j av = true → ¬ listed.getD j false = true → RunFact P ops w z a0 j o) →
   (∀ j, inM j p = true → ∃ o, ops[j]? = some o ∧ isR o = false) →
   wpNode τ C ops.toList tab f p av s K → wpAny P .any ops Q F listed a w := by
 intro F
 induction F with
 | zero =>
   intro listed a w f p av s z a0 g hsz hcnt hcl hat hF hL hdef hW hA hRun hP hw
   have hall : ∀ j, j < ops.size → listed.getD j false = true := by
    intro j hj
    cases h : listed.getD j false with
    | true => rfl
    | false =>
      have := hcnt [j] (by simp) (by
       intro k hk
       simp at hk
       subst hk
       exact ⟨hj, by rw [getD_tf (by rw [hsz]; exact hj)]; exact h⟩)
      simp at this
   refine ⟨?_, node_fin D hK hall hcl hat hF hL hdef hW hA hw⟩
   apply List.eq_nil_iff_forall_not_mem.2
   intro j hj
   obtain ⟨h1, o, ho, _⟩ := mem_ready.1 hj
   have hlt := opLt ho
   rw [getD_tf (by rw [hsz]; exact hlt), hall j hlt] at h1
   simp at h1
 | succ F ih =>
   intro listed a w f p av s z a0 g hsz hcnt hcl hat hF hL hdef hW hA hRun hP hw
   refine ⟨fun hr => node_fin D hK (all_listed D hsz hr) hcl hat hF hL hdef hW hA hw, fun i hi => ?_⟩
   obtain ⟨hun, o, ho, hall⟩ := mem_ready.1 hi
   have hlt := opLt ho
   have hnl : ¬ listed.getD i false = true := by rw [← getD_tf (by rw [hsz]; exact hlt), hun]; simp
   have hwait : ∀ k, Waits ops k i → listed.getD k false = true := by
    rintro k ⟨o', ho', e, he, hb, rfl⟩
    rw [ho] at ho'
    injection ho' with ho'
    subst ho'
    exact hall e he (by rw [← bindsB_eq]; exact hb)
   have hset := set_listed (listed := listed) (i := i) (by rw [hsz]; exact hlt)
   have hav := listed_av D hcl hW hA
   have hdn : ∀ t, o.dst = some t → t < nn := dstOk_mem hdst o (by
    have : ops.toList[i]? = some o := by simpa using ho
    exact List.mem_of_getElem? this)
   have hsz0 : g.tmps.size = a.tmps.size := hF.size.trans hL.size.symm
   have hnn : nn ≤ g.tmps.size := by obtain ⟨_, _, _, _, h, _⟩ := hat; exact h
   have hdl : ∀ t, o.dst = some t → t < a.tmps.size := fun t ht => hsz0 ▸ Nat.lt_of_lt_of_le (hdn t ht) hnn
   -- the same, with one more listed
   have hsz' : (listed.setIfInBounds i true).size = ops.size := by simp [hsz]
   have hcnt' : ∀ l : List Nat, l.Nodup → (∀ j ∈ l, j < ops.size ∧ (listed.setIfInBounds i true).getD j true = false) → l.length ≤ F := by
    intro l hn hl
    have := hcnt (i :: l) (List.nodup_cons.2 ⟨fun hm => by
      have := (hl i hm).2
      rw [getD_tf (by rw [hsz']; exact hlt), (hset i).2 (.inr rfl)] at this
      simp at this, hn⟩) (by
     intro j hj
     rcases List.mem_cons.1 hj with rfl | hj
     · exact ⟨hlt, hun⟩
     · obtain ⟨h1, h2⟩ := hl j hj
       refine ⟨h1, ?_⟩
       rw [getD_tf (by rw [hsz]; exact h1)]
       rw [getD_tf (by rw [hsz']; exact h1)] at h2
       cases h : listed.getD j false with
       | false => rfl
       | true => rw [(hset j).2 (.inl h)] at h2; exact h2)
    simpa using this
   have hcl' : ∀ j, (listed.setIfInBounds i true).getD j false = true → ∀ k, Waits ops k j → (listed.setIfInBounds i true).getD k false = true := by
    intro j hj k hk
    rcases (hset j).1 hj with h | rfl
    · exact (hset k).2 (.inl (hcl j h k hk))
    · exact (hset k).2 (.inl (hwait k hk))
   cases hr : isR o with
   | true =>
     have hi_av : inM i av = true := (hA i o ho).2 (.inl ⟨hr, fun k hk => hav k (Nat.lt_trans (D.back k i hk) hlt) (hwait k hk)⟩)
     obtain ⟨g', S, hS, hSlt, hSw, hcm⟩ := hRun i o ho hr hi_av hnl
     have hag := hS.agree hL D ho (fun k hk => ⟨hSw k hk, hwait k hk⟩) (fun k hk => ⟨fun h => by have := hSlt k h; have := D.back i k hk; omega, fun h => hnl (hcl k h i hk)⟩) (fun h => Nat.lt_irrefl _ (hSlt i h)) hnl
     obtain ⟨he, hwd⟩ := same_op D ho (hS.size.trans hL.size.symm) hag
     have go : wpAny P .any ops Q F (listed.setIfInBounds i true) (a.put o.dst (z i)) w := by
      refine ih _ _ w f p av s z a0 g hsz' hcnt' hcl' hat hF (hL.put D ho hdl hset) (by rw [(put_size _ _ _).2]; exact hdef) ?_ hA ?_ hP hw
      · intro j q hq hrq
        rw [hW j q hq hrq, hset]
        exact ⟨.inl, fun h => h.resolve_right fun e => by subst e; rw [ho] at hq; injection hq with hq; subst hq; rw [hr] at hrq; simp at hrq⟩
      · intro j q hq hrq hj hn
        exact hRun j q hq hrq hj fun h => hn ((hset j).2 (.inl h))
     unfold wpOp
     rw [ho]
     dsimp only
     rcases hcm with ⟨h1, h2⟩ | ⟨h1, h2⟩
     · rw [if_pos (hwd ▸ h1)]
       refine .inl ?_
       unfold Oper.wp
       rw [← he, h2]
       exact go
     · rw [if_neg (by rw [← hwd, h1]; simp), ← h2]
       exact go
   | false =>
     have hip : inM i p = false := by
      cases h : inM i p with
      | false => rfl
      | true => exact absurd ((hW i o ho hr).1 h) hnl
     cases f with
     | zero => exact hw.elim
     | succ f =>
       simp only [wpNode] at hw
       split at hw
       · rename_i h
         have := allW_all _ _ h i o (i, edgeM o.after.toList 0) (by simpa using ho) (D.tab i o ho) hr
         rw [hip] at this
         exact absurd this (by simp)
       · have hcand := candO_get _ _ hw i o _ (by simpa using ho) (D.tab i o ho) hr hip ((subM_iff _ _).2 fun k hk => hav k (by
           have hk := (waits_inM ho).1 hk
           exact Nat.lt_trans (D.back k i hk) hlt) (hwait k ((waits_inM ho).1 hk)))
         simp only [forceN_eq] at hcand
         have hnav : ∀ k, Waits ops i k → ¬ inM k av = true := by
          rintro k hk h
          obtain ⟨q, hq, _⟩ := id hk
          rcases (hA k q hq).1 h with h1 | h1
          · have := (hA i o ho).1 (h1.2 i hk)
            rcases this with h2 | h2
            · rw [hr] at h2; simp at h2
            · rw [hip] at h2; simp at h2
          · exact hnl (hcl k ((hW k q hq h1.1).1 h1.2) i hk)
         have hiav : ¬ inM i av = true := fun h => by
          rcases (hA i o ho).1 h with h2 | h2
          · rw [hr] at h2; simp at h2
          · rw [hip] at h2; simp at h2
         have hag := hF.agree hL D ho (fun k hk => ⟨hav k (Nat.lt_trans (D.back k i hk) hlt) (hwait k hk), hwait k hk⟩) (fun k hk => ⟨hnav k hk, fun h => hnl (hcl k h i hk)⟩) hiav hnl
         obtain ⟨he, hwd⟩ := same_op D ho hsz0 hag
         -- behind it
         have go : ∀ (s' : St) (v : Value) (w' : World), refill τ ops.toList tab (addM i p) av (sureM tab.reverse (addM i p)) (fun av s => wpNode τ C ops.toList tab f (addM i p) av s K) s' → At τ w0 base M nn (a0 :: aS) s' (g.put o.dst v) w' →
           wpAny P .any ops Q F (listed.setIfInBounds i true) (a.put o.dst v) w' := by
          intro s' v w' hrf hat'
          obtain ⟨old, stk, bx, rw', dep⟩ := s'
          cases stk with
          | nil => exact hrf.elim
          | cons fr0 stk =>
            simp only [refill] at hrf
            let z2 : Nat → Value := fun k => if k = i then v else z k
            have hz2 : ∀ k, k ≠ i → z2 k = z k := fun k hk => by simp [z2, hk]
            have hz2i : z2 i = v := by simp [z2]
            have hpin : ∀ j, inM j (addM i p) = true ↔ inM j p = true ∨ j = i := fun j => by rw [inM_add]; simp
            have hpW : ∀ (j : Nat) (q : Oper), ops[j]? = some q → isR q = false → (inM j (addM i p) = true ↔ (listed.setIfInBounds i true).getD j false = true) := by
             intro j q hq hrq
             rw [hpin, hset, hW j q hq hrq]
            have hL2 : Fills ops (fun j => (listed.setIfInBounds i true).getD j false = true) z2 a0 (a.put o.dst v).tmps := by
             have h1 : Fills ops (fun j => listed.getD j false = true) z2 a0 a.tmps := hL.congr (fun _ => Iff.rfl) fun j hj => hz2 j fun e => by subst e; exact hnl hj
             rw [← hz2i]
             exact h1.put D ho hdl hset
            have hgs : a0.size = (g.put o.dst v).tmps.size := by rw [(put_size _ _ _).1]; exact hF.size.symm
            refine fill_sound hτ D (p := addM i p) (avO := av) (su := sureM tab.reverse (addM i p)) (old := old) (Dn := fun j => (listed.setIfInBounds i true).getD j false = true) (z := z2) (a0 := a0) (oldA := (g.put o.dst v).tmps) (aS := a0 :: aS) (w := w') (w0 := w0) (base := base) (M := M) (nn := nn) hdst
             (fun j q hq hrq h => (hpW j q hq hrq).1 h) ?_ ?_ ?_ ?_ ops.toList tab 0 0 _ { tmps := a0, defers := [] } z2 rfl rfl hrf (hat'.refill hgs) ⟨_, rfl⟩ ?_ (fun _ _ => rfl) (fun j q _ hj => absurd hj (Nat.not_lt_zero _)) (fun j hj => by rw [inM_zero] at hj; simp at hj) (fun j q _ _ hj => by rw [inM_zero] at hj; simp at hj)
            · intro j q hq hrq hj
              rcases (hset j).1 hj with h | rfl
              · exact hav j (opLt hq) h
              · rw [ho] at hq; injection hq with hq; subst hq; rw [hr] at hrq; simp at hrq
            · refine sureM_sub _ _ ?_ ?_
              · intro j hj
                rcases (hpin j).1 hj with h | rfl
                · obtain ⟨q, hq, hrq⟩ := hP j h
                  exact (hset j).2 (.inl ((hW j q hq hrq).1 h))
                · exact (hset _).2 (.inr rfl)
              · intro q hq hX k hk
                rw [List.mem_reverse] at hq
                obtain ⟨j, hj⟩ := List.mem_iff_getElem?.1 hq
                have hjl := (List.getElem?_eq_some_iff.1 hj).1
                rw [D.len] at hjl
                have hjo : ops[j]? = some ops[j] := Array.getElem?_eq_getElem hjl
                rw [D.tab j _ hjo] at hj
                injection hj with hj
                subst hj
                exact hcl' j hX k ((waits_inM hjo).1 hk)
            · intro j q t hq hqt hj
              rw [getD_put]
              rcases (hset j).1 hj with h | rfl
              · have hne : j ≠ i := fun e => by subst e; exact hnl h
                rw [if_neg (fun hc => (D.dst j i o q t ho hq hne hqt) hc.1), hz2 j hne]
                exact hF.get D hq hqt (hav j (opLt hq) h)
              · rw [ho] at hq
                injection hq with hq
                subst hq
                rw [if_pos ⟨hqt, Nat.lt_of_lt_of_le (hdn t hqt) hnn⟩, hz2i]
            · intro av' s'' g'' z3 hnode hat'' _ hF'' hz3 hA' hRun'
              refine ih _ _ w' f (addM i p) av' (pop1 s'') z3 a0 g'' hsz' hcnt' hcl' hat''.pop hF'' (hL2.congr (fun _ => Iff.rfl) hz3) (by rw [(put_size _ _ _).2]; exact hdef) hpW hA' hRun' (fun j hj => ((hpin j).1 hj).elim (hP j) fun e => ⟨o, by rw [e]; exact ho, hr⟩) hnode
            · exact ⟨rfl, fun t => .inr ⟨fun j q _ _ hj => by rw [inM_zero] at hj; simp at hj, rfl⟩⟩
         unfold wpOp
         rw [ho]
         dsimp only
         rcases guardO_sound hat hcand with ⟨h1, s1, h2, h3⟩ | ⟨h1, s1, h2, h3⟩
         · rw [if_pos (hwd ▸ h1)]
           refine .inl (wp_transfer (Mx := fun g' w' => ∃ s', refill τ ops.toList tab (addM i p) av (sureM tab.reverse (addM i p)) (fun av s => wpNode τ C ops.toList tab f (addM i p) av s K) s' ∧ At τ w0 base M nn (a0 :: aS) s' g' w') he (stepW_wp hτ hC h3 hdn h2 fun s' a' w' hk hat => ⟨s', hk, hat⟩) ?_ ?_)
           · rintro g' w' ⟨s', _, _, _, _, _, _, hgd⟩; exact hgd
           · rintro v w' ⟨s', hk, hat'⟩; exact go s' v w' hk hat'
         · rw [if_neg (by rw [← hwd, h1]; simp)]
           exact go _ undef w h2 (h3.skip hdn)
omit hτ hC in
theorem At.drew {s : St} {a : Act} {w : World} (h : At τ w0 base M nn aS s a w) : At τ w0 base M nn aS s a { w with drawn := w.drawn + 1 } := by
 obtain ⟨E, hd, h1⟩ := h
 refine ⟨E, ?_, h1⟩
 have hk : Keeps E E w { w with drawn := w.drawn + 1 } := ⟨rfl, Nat.le_refl _, fun _ _ _ => rfl, fun _ h => .inl h⟩
 have hs := Shift.refl E s s { w with drawn := w.drawn + 1 } rfl
 refine hd.move hk rfl ⟨rfl, rfl, rfl, Nat.le_refl _, fun _ _ => rfl⟩ hs rfl rfl hd.owb ?_ ?_ hd.bb hd.br hd.rr
 · intro k T cs hb
   obtain ⟨ho, us, hh, hc⟩ := hd.box k T cs hb
   exact ⟨ho, us, hh, hs.cells hk hb hc⟩
 · intro k e lo r hl hm
   exact (hd.own k e lo r hl hm).keeps hk rfl rfl (hd.own k e lo r hl hm).ow fun _ _ => rfl
omit hτ hC in
theorem At.begin {fr : List (Nat × SV)} {stk : List (List (Nat × SV))} {bx : List (Nat × (TypeId × List SV))} {rw' : List (Nat × Ent)} {dep : Nat} {a : Act} {w : World} (h : At τ w0 base M nn aS ⟨fr, stk, bx, rw', dep⟩ a w) :
  At τ w0 base M nn (a.tmps :: a.tmps :: aS) ⟨fr, [] :: fr :: stk, bx, rw', dep⟩ { tmps := a.tmps, defers := [] } w := by
 obtain ⟨E, hd, h1, h2, h3, h4⟩ := h
 refine ⟨E, ⟨hd.below, hd.bM, hd.Mh, hd.owb, ?_, hd.box, hd.own, hd.bb, hd.br, hd.rr⟩, h1, h2, h3, rfl⟩
 intro i f hf
 cases i with
 | zero =>
   obtain ⟨b, hb, hfr⟩ := hd.fr 0 f hf
   exact ⟨b, by simpa using hb, hfr⟩
 | succ i =>
   cases i with
   | zero =>
     simp at hf
     subst hf
     exact ⟨_, rfl, fun t => by unfold lkv; trivial⟩
   | succ i =>
     obtain ⟨b, hb, hfr⟩ := hd.fr i f (by simpa using hf)
     exact ⟨b, by simpa using hb, hfr⟩
theorem draw_sound (hm : P.follows .mixedOrders = true) {id : Nat} {Q : Exit → Act → World → Prop} {K : St → Prop} {s : St} {a : Act} {w : World} (hdst : dstOk nn ops.toList = true) (hdr : drawOk ops.toList tab = true)
  (hK : ∀ s a w, K s → At τ w0 base M nn aS s a w → Q .normal a w) (hw : wpDraw τ C ops.toList tab K s) (hat : At τ w0 base M nn aS s a w) : (Code.region id ops true).wp P Q a w := by
 refine wp_region_any hm ?_
 have D := drawOk_spec hdr
 obtain ⟨fr, stk, bx, rw', dep⟩ := s
 simp only [wpDraw, refill] at hw
 have hdef : a.defers = [] := by obtain ⟨_, _, _, _, _, h⟩ := hat; exact h
 have hemp : ∀ j, ¬ inM j 0 = true := fun j hj => by rw [inM_zero] at hj; simp at hj
 have hno : ∀ j, ¬ (Array.replicate ops.size false).getD j false = true := fun j => by
  rw [Array.getD_eq_getD_getElem?, Array.getElem?_replicate]
  split <;> simp
 refine fill_sound hτ D (p := 0) (avO := 0) (su := 0) (old := []) (Dn := fun _ => False) (z := fun _ => undef) (a0 := a.tmps) (oldA := a.tmps) (aS := a.tmps :: aS) (w0 := w0) (base := base) (M := M) (nn := nn) hdst
  (fun j q hq hrq h => hemp j h) (fun j q hq hrq h => h.elim) (fun j h => hemp j h) (fun j q t _ _ h => h.elim) ?_ ops.toList tab 0 0 _ { tmps := a.tmps, defers := [] } (fun _ => undef) rfl rfl hw hat.drew.begin ⟨_, rfl⟩
  ⟨rfl, fun t => .inr ⟨fun j q _ _ hj => hemp j hj, rfl⟩⟩ (fun _ h => h.elim) (fun j q _ hj => absurd hj (Nat.not_lt_zero _)) (fun j hj => absurd hj (hemp j)) (fun j q _ _ hj => absurd hj (hemp j))
 intro av s'' g z' hnode hat'' _ hF _ hA hRun
 refine node_sound hτ hC D hdst hK ops.size _ a _ _ 0 av (pop1 s'') z' a.tmps g (by simp) ?_ (fun j hj => absurd hj (hno j)) hat''.pop hF ⟨rfl, fun t => .inr ⟨fun j q _ _ hj => hno j hj, rfl⟩⟩ hdef ?_ hA (fun j q hq hrq hj _ => hRun j q hq hrq hj fun h => h) (fun j hj => absurd hj (hemp j)) hnode
 · intro l hn hl
   exact nodup_le _ l hn fun j hj => (hl j hj).1
 · intro j q hq hrq
   exact ⟨fun h => absurd h (hemp j), fun h => absurd h (hno j)⟩
end
end Go.Proofs.YtjjpakdlkjaigaaGreat
