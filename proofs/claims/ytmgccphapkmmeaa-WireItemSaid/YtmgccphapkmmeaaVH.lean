/- A symbolic executor for loaded Go code: each step is the machine's. -/
import Derived.Test.YtmgccphapkmmeaaVG
namespace Go.Proofs.Ytmgccphapkmmeaa
open Go.RowKit

section
variable {P : Program} {τ : Tys} {w0 : World} {E : Env} {as : List (Array Value)} {a : Act} {w : World}
variable {s : St} {bs : List (Array Value)} {o : Oper}
variable {fr : List (Nat × SV)} {stk : List (List (Nat × SV))} {bx : List (Nat × (TypeId × List SV))} {rw' : List (Nat × Ent)} {dep : Nat}

/-- The operation comes to what that state says. -/
def OpGood (P : Program) (τ : Tys) (w0 : World) (E : Env) (as : List (Array Value)) (o : Oper) (a : Act) (w : World) (s' : St) : Prop :=
  ∀ (next : Act → World → Prop) (Q : Exit → Act → World → Prop), (∀ E' v w', Den τ w0 E' s' ((a.put o.dst v).tmps :: as) w' → E'.base = E.base → E'.M = E.M → next (a.put o.dst v) w') → o.wp P a w next Q
def RS.good (r : RS) (p : St → Prop) : Prop := match r with
  | .ok s => p s
  | .ob q s => q → p s
  | .bad => True
theorem opGood_value {s' : St} {E' : Env} {v : Value} {w' : World} (hr : (execOp a.eval o).run P w = .ok (.value v) w') (hd : Den τ w0 E' s' ((a.put o.dst v).tmps :: as) w') (hb : E'.base = E.base) (hM : E'.M = E.M) : OpGood P τ w0 E as o a w s' := by
  intro next Q h
  unfold Oper.wp
  rw [hr]
  exact h E' v w' hd hb hM
theorem opGood_skip {s' : St} {E' : Env} {w' : World} (hr : (execOp a.eval o).run P w = .ok .skip w') (hd : Den τ w0 E' s' ((a.put o.dst undef).tmps :: as) w') (hb : E'.base = E.base) (hM : E'.M = E.M) : OpGood P τ w0 E as o a w s' := by
  intro next Q h
  unfold Oper.wp
  rw [hr]
  exact h E' undef w' hd hb hM
/-- A value that is told goes into the frame. -/
theorem RV.to_good (hd : Den τ w0 E ⟨fr, stk, bx, rw', dep⟩ (a.tmps :: as) w) (hdst : ∀ t, o.dst = some t → t < a.tmps.size) {r : RV} {c : Sem Value} (hc : ∀ z, c.run P w = .ok z w → (execOp a.eval o).run P w = .ok (.value z) w)
    (h : r.good fun x => Gives (P := P) w c x E rw') : (r.to o.dst ⟨fr, stk, bx, rw', dep⟩).good (OpGood P τ w0 E as o a w) := by
  have key : ∀ x, Gives (P := P) w c x E rw' → OpGood P τ w0 E as o a w (putv o.dst x ⟨fr, stk, bx, rw', dep⟩) := by
    rintro x ⟨z, hz, hv⟩
    exact opGood_value (v := z) (w' := w) (hc z hz) (hd.put hv hdst) rfl rfl
  cases r with
  | bad => trivial
  | ok x => simp only [RV.to, SV.force_eq]; exact key x h
  | ob q x => simp only [RV.to, SV.force_eq]; exact fun hq => key x (h hq)
theorem RV.to_good' (hd : Den τ w0 E ⟨fr, stk, bx, rw', dep⟩ (a.tmps :: as) w) (hdst : ∀ t, o.dst = some t → t < a.tmps.size) {r : RV}
    (h : r.good fun x => ∃ z, (execOp a.eval o).run P w = .ok (.value z) w ∧ vd3 E rw' w x z) : (r.to o.dst ⟨fr, stk, bx, rw', dep⟩).good (OpGood P τ w0 E as o a w) := by
  have key : ∀ x, (∃ z, (execOp a.eval o).run P w = .ok (.value z) w ∧ vd3 E rw' w x z) → OpGood P τ w0 E as o a w (putv o.dst x ⟨fr, stk, bx, rw', dep⟩) := by
    rintro x ⟨z, hz, hv⟩
    exact opGood_value (v := z) (w' := w) hz (hd.put hv hdst) rfl rfl
  cases r with
  | bad => trivial
  | ok x => simp only [RV.to, SV.force_eq]; exact key x h
  | ob q x => simp only [RV.to, SV.force_eq]; exact fun hq => key x (h hq)
/-- The operation yields a value of which that is told, and turns nothing. -/
abbrev Yld (P : Program) (o : Oper) (a : Act) (w : World) (E : Env) (R : List (Nat × Ent)) (x : SV) : Prop := ∃ z, (execOp a.eval o).run P w = .ok (.value z) w ∧ vd3 E R w x z
theorem RV.ok_of {r : RV} {c : Sem Value} (hc : ∀ z, c.run P w = .ok z w → (execOp a.eval o).run P w = .ok (.value z) w) (h : r.good fun x => Gives (P := P) w c x E rw') : r.good (Yld P o a w E rw') := by
  cases r with
  | bad => trivial
  | ok x => obtain ⟨z, hz, hv⟩ := h; exact ⟨z, hc z hz, hv⟩
  | ob q x => intro hq; obtain ⟨z, hz, hv⟩ := h hq; exact ⟨z, hc z hz, hv⟩
theorem move_ok (hτ : TysOk P τ) (hd : Den τ w0 E ⟨fr, stk, bx, rw', dep⟩ (a.tmps :: as) w) (x : Operand) (ho : o.op = .move x ∨ o.op = .assign x) :
    (RV.ok (getT τ ⟨fr, stk, bx, rw', dep⟩ o.type x)).good (Yld P o a w E rw') :=
  RV.ok_of (c := pure (a.eval x)) (fun z hz => by
    obtain rfl : a.eval x = z := by simpa using hz
    rcases ho with ho | ho <;> simp [execOp, ho]) ⟨_, rfl, hd.getT o.type x⟩
theorem move_good (hτ : TysOk P τ) (hd : Den τ w0 E ⟨fr, stk, bx, rw', dep⟩ (a.tmps :: as) w) (hdst : ∀ t, o.dst = some t → t < a.tmps.size) (x : Operand) (ho : o.op = .move x ∨ o.op = .assign x) :
    ((RV.ok (getT τ ⟨fr, stk, bx, rw', dep⟩ o.type x)).to o.dst ⟨fr, stk, bx, rw', dep⟩).good (OpGood P τ w0 E as o a w) :=
  RV.to_good' hd hdst (move_ok hτ hd x ho)
theorem pick_ok (hd : Den τ w0 E ⟨fr, stk, bx, rw', dep⟩ (a.tmps :: as) w) (c x y : Operand) (ho : o.op = .pick c x y) :
    (evPick (St.get ⟨fr, stk, bx, rw', dep⟩ c) (St.get ⟨fr, stk, bx, rw', dep⟩ x) (St.get ⟨fr, stk, bx, rw', dep⟩ y)).good (Yld P o a w E rw') := by
  refine RV.ok_of (c := do pure (if ← asBool (a.eval c) then a.eval x else a.eval y)) (fun z hz => ?_) ?_
  · simp only [execOp, ho]
    cases hc : (asBool (a.eval c)).run P w with
    | halt h w' => simp [hc, Result.andThen] at hz
    | ok t w' => simp [hc] at hz ⊢; exact hz
  have := evPick_ok (hd.get c) (hd.get x) (hd.get y)
  cases he : evPick (St.get ⟨fr, stk, bx, rw', dep⟩ c) (St.get ⟨fr, stk, bx, rw', dep⟩ x) (St.get ⟨fr, stk, bx, rw', dep⟩ y) with
  | bad => trivial
  | ok z => rw [he] at this; obtain ⟨t, h1, h2⟩ := this; exact ⟨_, by simp [h1, asBool], h2⟩
  | ob q z => rw [he] at this; intro hq; obtain ⟨t, h1, h2⟩ := this hq; exact ⟨_, by simp [h1, asBool], h2⟩
theorem pick_good (hd : Den τ w0 E ⟨fr, stk, bx, rw', dep⟩ (a.tmps :: as) w) (hdst : ∀ t, o.dst = some t → t < a.tmps.size) (c x y : Operand) (ho : o.op = .pick c x y) :
    ((evPick (St.get ⟨fr, stk, bx, rw', dep⟩ c) (St.get ⟨fr, stk, bx, rw', dep⟩ x) (St.get ⟨fr, stk, bx, rw', dep⟩ y)).to o.dst ⟨fr, stk, bx, rw', dep⟩).good (OpGood P τ w0 E as o a w) :=
  RV.to_good' hd hdst (pick_ok hd c x y ho)
theorem bin_ok (hτ : TysOk P τ) (hd : Den τ w0 E ⟨fr, stk, bx, rw', dep⟩ (a.tmps :: as) w) (op : BinOp) (T T' : TypeId) (x y : Operand) (ho : o.op = .binOp op T x y T') :
    (evBin τ T op (St.get ⟨fr, stk, bx, rw', dep⟩ x) (St.get ⟨fr, stk, bx, rw', dep⟩ y)).good (Yld P o a w E rw') :=
  RV.ok_of (c := do eqGuard op T x y (a.eval x) (a.eval y); binOp op T (a.eval x) (a.eval y)) (fun z hz => by simp only [execOp, ho, Sem.run_bind, hz]; rfl) (evBin_ok hτ T x y (hd.get x) (hd.get y))
theorem bin_good (hτ : TysOk P τ) (hd : Den τ w0 E ⟨fr, stk, bx, rw', dep⟩ (a.tmps :: as) w) (hdst : ∀ t, o.dst = some t → t < a.tmps.size) (op : BinOp) (T T' : TypeId) (x y : Operand) (ho : o.op = .binOp op T x y T') :
    ((evBin τ T op (St.get ⟨fr, stk, bx, rw', dep⟩ x) (St.get ⟨fr, stk, bx, rw', dep⟩ y)).to o.dst ⟨fr, stk, bx, rw', dep⟩).good (OpGood P τ w0 E as o a w) :=
  RV.to_good' hd hdst (bin_ok hτ hd op T T' x y ho)
theorem un_ok (hd : Den τ w0 E ⟨fr, stk, bx, rw', dep⟩ (a.tmps :: as) w) (op : UnOp) (T : TypeId) (x : Operand) (ho : o.op = .unOp op T x) :
    (evUn op (St.get ⟨fr, stk, bx, rw', dep⟩ x)).good (Yld P o a w E rw') :=
  RV.ok_of (c := Op.unary op (a.eval x)) (fun z hz => by simp only [execOp, ho, Sem.run_bind, hz]; rfl) (evUn_ok (hd.get x))

theorem un_good (hd : Den τ w0 E ⟨fr, stk, bx, rw', dep⟩ (a.tmps :: as) w) (hdst : ∀ t, o.dst = some t → t < a.tmps.size) (op : UnOp) (T : TypeId) (x : Operand) (ho : o.op = .unOp op T x) :
    ((evUn op (St.get ⟨fr, stk, bx, rw', dep⟩ x)).to o.dst ⟨fr, stk, bx, rw', dep⟩).good (OpGood P τ w0 E as o a w) :=
  RV.to_good' hd hdst (un_ok hd op T x ho)
/-! ### Loads -/
theorem exists_list {α β : Type} {p : Nat → α → β → Prop} : ∀ (cs : List α), (∀ (j : Nat) x, cs[j]? = some x → ∃ u, p j x u) → ∃ us : List β, cs.length = us.length ∧ ∀ (j : Nat) x, cs[j]? = some x → ∃ u, us[j]? = some u ∧ p j x u := by
  intro cs
  induction cs generalizing p with
  | nil => exact fun _ => ⟨[], rfl, fun j x h => by simp at h⟩
  | cons c cs ih =>
    intro h
    obtain ⟨u, hu⟩ := h 0 c (by simp)
    obtain ⟨us, hl, hus⟩ := ih (p := fun j => p (j + 1)) fun j x hx => h (j + 1) x (by simpa using hx)
    refine ⟨u :: us, by simp [hl], fun j x hx => ?_⟩
    cases j with
    | zero => simp at hx; subst hx; exact ⟨u, by simp, hu⟩
    | succ j => simpa using hus j x (by simpa using hx)
theorem add_add {ad : Addr} (h : ad.spot = none) (m n : Nat) : (ad.add m).add n = ad.add (m + n) := by
  obtain ⟨b, o, sp⟩ := ad
  simp at h
  subst h
  simp only [Addr.add_lit, Nat.add_assoc]
theorem loadVar_run (hτ : TysOk P τ) {T : TypeId} {i : TI} (hi : τ.ti T = some i) (ad : Addr) (hs : ad.spot = none) (cs : List SV) (us : List Value) (off : Nat) (h : L0 (vd1 E rw' w) cs us) (hc : ∀ (j : Nat) u, us[j]? = some u → w.cell? (ad.add j) = some u) :
    (part' τ T cs off).good fun z => Gives (P := P) w (loadVar T (ad.add off)) z E rw' := by
  unfold part'
  rw [hi]
  simp only
  split
  · rename_i hag
    split
    · rename_i hle
      rw [forceL_eq]
      have hle' := Nat.le_of_ble_eq_true hle
      refine ⟨.agg (cut us off (τ.sz T)).toArray, ?_, ⟨_, rfl, (h.drop off).take _⟩⟩
      have hcut : (cut us off (τ.sz T)).length = τ.sz T := by simp [cut, ← h.1]; omega
      have := run_loadCells_list (P := P) w (ad.add off) (cut us off (τ.sz T)) (fun j v hv => by
        rw [add_add hs]
        refine hc _ v ?_
        simp only [cut, List.getElem?_take, List.getElem?_drop] at hv
        split at hv
        · exact hv
        · simp at hv)
      rw [hcut] at this
      simp [loadVar, hτ.isAgg hi, hag, hτ.szOf hi, this]
    · trivial
  · rename_i hag
    split
    · rename_i v hv
      rw [nth_eq] at hv
      obtain ⟨u, hu, hp⟩ := h.2 off v hv
      refine ⟨u, ?_, vd_of_vd1 hp⟩
      simp [loadVar, hτ.isAgg hi, hag, hc off u hu]
    · trivial
theorem vd1_of_cd {t : Tag} {x : SV} {u : Value} (h : cd1 w (E.F t) x u) (hx : ∀ t' r, x = .row t' r → t' = t) : vd1 E rw' w x u := by
  cases x with
  | row t' r => obtain rfl := hx t' r rfl; exact RowD.up h
  | int k n => exact h
  | bool b => exact h
  | lit b => exact h
  | str s => exact h
  | _ => exact h.elim
theorem cd1.up {w : World} {F : Nat → Prop} {x : SV} {u : Value} (h : cd1 w F x u) : cd2 w F x u := by
  cases x <;> first
    | exact h
    | exact RowD.up h
theorem vd1_of_cd2 {t : Tag} {x : SV} {u : Value} (h : cd2 w (E.F t) x u) (hx : ∀ t' r, x = .row t' r → t' = t) : vd1 E rw' w x u := by
  cases x with
  | row t' r => obtain rfl := hx t' r rfl; exact h
  | int k n => exact h
  | bool b => exact h
  | lit b => exact h
  | str s => exact h
  | _ => exact h.elim
theorem retag_get (t : Tag) : ∀ (cs : List SV) (j : Nat) (x : SV), (retag t cs)[j]? = some x → ∃ y, cs[j]? = some y ∧ (∀ t' r, x = .row t' r → t' = t) ∧ ∀ (w : World) (F : Nat → Prop) (u : Value), cd2 w F y u → cd2 w F x u
  | [], j, x, h => by simp [retag] at h
  | c :: cs, j, x, h => by
    cases j with
    | zero =>
      refine ⟨c, by simp, ?_⟩
      cases c <;> simp [retag] at h <;> subst h <;> refine ⟨fun t' r e => ?_, fun _ _ _ h => h⟩ <;> injection e <;> simp_all
    | succ j =>
      have : (retag t (c :: cs))[j + 1]? = (retag t cs)[j]? := by cases c <;> simp [retag]
      rw [this] at h
      simpa using retag_get t cs j x h
theorem retag_len (t : Tag) : ∀ cs : List SV, (retag t cs).length = cs.length
  | [] => rfl
  | c :: cs => by cases c <;> simp [retag, retag_len t cs]
theorem cell_retag (t : Tag) (r : Rw) (i j : Nat) (x : SV) (h : (r.cell t i)[j]? = some x) : ∀ t' r', x = .row t' r' → t' = t := by
  intro t' r' e
  subst e
  have hm := List.mem_of_getElem? h
  cases r <;> simp [Rw.cell, GItem.cells, GPeer.cells, GTold.cells, GCut.cells, GMsg.cells, GNode.cells, GAct.cells] at hm <;> first
    | exact hm.1
    | (rcases hm with h | h | h | h <;> exact h.1)
theorem OwnD.elem {k lo : Nat} {r : Rw} (h : OwnD τ E w k lo r) {g n c : Nat} (hh : E.hs k = .slice (some ⟨g, 0, none⟩) n c) {i : Nat} (hi : i < r.len) {t : Tag} (ht : t = .new → i < lo) (ht' : t ≠ .old) :
    ∃ us : List Value, L0 (vd1 E rw' w) (r.cell t i) us ∧ ∀ (j : Nat) u, us[j]? = some u → w.cell? ((⟨g, i * r.sz, none⟩ : Addr).add j) = some u := by
  obtain ⟨us, hrow, hcell⟩ := h.row
  obtain ⟨vs, hl, hvs⟩ := exists_list (p := fun j x u => us[i * r.sz + j]? = some u ∧ vd1 E rw' w x u) (r.cell t i) fun j x hx => by
    obtain ⟨y, hy, hxy⟩ := cell_tag t .any r i j x hx
    obtain ⟨u, hu, hd⟩ := hcell i j y hi hy
    refine ⟨u, hu, vd1_of_cd (t := t) ?_ (cell_retag t r i j x hx)⟩
    rw [hxy]
    cases t with
    | old => exact absurd rfl ht'
    | new => rw [if_pos (ht rfl)] at hd; exact hd
    | any => exact cd1.any hd
  refine ⟨vs, ⟨hl, fun j x hx => ?_⟩, fun j u hu => ?_⟩
  · obtain ⟨u, hu, _, hd⟩ := hvs j x hx
    exact ⟨u, hu, hd⟩
  · have hj : j < (r.cell t i).length := by rw [hl]; exact (List.getElem?_eq_some_iff.1 hu).1
    obtain ⟨u', hu', hus, _⟩ := hvs j _ (List.getElem?_eq_getElem hj)
    rw [hu] at hu'
    injection hu' with hu'
    subst hu'
    have := hrow.cells (g := g) (by rw [hh]; rfl) _ _ hus
    rw [Addr.add_lit] at this ⊢
    simpa using this
theorem load_ok (hτ : TysOk P τ) (hd : Den τ w0 E ⟨fr, stk, bx, rw', dep⟩ as w) (T : TypeId) {x : SV} {p : Value} (hx : vd3 E rw' w x p) :
    (evLoad τ ⟨fr, stk, bx, rw', dep⟩ T x).good fun z => Gives (P := P) w (Instr.loadAt T p) z E rw' := by
  by_cases hti : ¬ ∃ i, τ.ti T = some i
  · have : ∀ cs off, part' τ T cs off = .bad := by
      intro cs off
      unfold part'
      cases h : τ.ti T with
      | none => rfl
      | some i => exact absurd ⟨i, h⟩ hti
    unfold evLoad
    split
    · split
      · rw [this]; trivial
      · trivial
    · rw [forceL_eq, this]; trivial
    · split
      · rw [this]; trivial
      · rw [this]; trivial
      · trivial
    · trivial
  obtain ⟨i, hi⟩ := Classical.not_not.1 hti
  unfold evLoad
  split
  · rename_i k off
    obtain rfl : p = _ := hx
    split
    · rename_i T' cs hk
      obtain ⟨_, us, hheap, hcs⟩ := hd.box k T' cs hk
      have := loadVar_run hτ hi ⟨E.bs k, 0, none⟩ rfl cs us off hcs fun j u hu => by
        rw [Addr.add_lit, cell_of_row w _ _ _ _ _ hheap]
        simpa using hu
      simpa [Instr.loadAt, Instr.sureAddr, Addr.add_lit, Gives] using this
    · trivial
  · rename_i t cs
    obtain ⟨ad, rfl, hs, hlt, hF, hc⟩ := hx
    rw [forceL_eq]
    obtain ⟨us, hl, hus⟩ := exists_list (p := fun j x u => w.cell? (ad.add j) = some u ∧ vd1 E rw' w x u) (retag t cs) fun j x hx => by
      obtain ⟨y, hy, h1, h2⟩ := retag_get t cs j x hx
      obtain ⟨u, hu, hd⟩ := hc j y hy
      exact ⟨u, hu, vd1_of_cd2 (h2 _ _ _ hd) h1⟩
    have := loadVar_run (P := P) (E := E) (rw' := rw') hτ hi ad hs (retag t cs) us 0 ⟨hl, fun j x hx => let ⟨u, hu, _, hd⟩ := hus j x hx; ⟨u, hu, hd⟩⟩ fun j u hu => by
      have hj : j < (retag t cs).length := by rw [hl]; exact (List.getElem?_eq_some_iff.1 hu).1
      obtain ⟨u', hu', hc', _⟩ := hus j _ (List.getElem?_eq_getElem hj)
      rw [hu] at hu'
      injection hu' with hu'
      subst hu'
      exact hc'
    simpa [Instr.loadAt, Instr.sureAddr, Gives, Addr.add_zero'] using this
  · rename_i k j off
    simp only [vd3, vd2, vd1, vd0] at hx
    split
    · rename_i r hk
      rw [hk] at hx
      obtain ⟨g, n, c, hh, h0, h1, rfl⟩ := hx
      have hO := hd.own k _ _ _ hk rfl
      obtain ⟨us, hcs, hcell⟩ := hO.elem (rw' := rw') hh (i := j.toNat) (by omega) (t := .new) (fun _ => by omega) (by simp)
      have := loadVar_run (P := P) hτ hi ⟨g, j.toNat * r.sz, none⟩ rfl _ us off hcs hcell
      simpa [Instr.loadAt, Instr.sureAddr, Addr.add_lit, Gives] using this
    · rename_i lo r hk
      rw [hk] at hx
      obtain ⟨g, n, c, hh, h0, h1, rfl⟩ := hx
      have hO := hd.own k _ _ _ hk rfl
      obtain ⟨us, hcs, hcell⟩ := hO.elem (rw' := rw') hh (i := j.toNat) (by omega) (t := .any) (fun h => by simp at h) (by simp)
      have := loadVar_run (P := P) hτ hi ⟨g, j.toNat * r.sz, none⟩ rfl _ us off hcs hcell
      simpa [Instr.loadAt, Instr.sureAddr, Addr.add_lit, Gives] using this
    · trivial
  · trivial
end
end Go.Proofs.Ytmgccphapkmmeaa
