/- A symbolic executor for loaded Go code: each step is the machine's: literals. -/
import Derived.Test.YtmgccphapkmmeaaVI
namespace Go.Proofs.Ytmgccphapkmmeaa
open Go.RowKit

section
variable {P : Program} {τ : Tys} {w0 : World} {E : Env} {as : List (Array Value)} {a : Act} {w : World}
variable {s : St} {bs : List (Array Value)} {o : Oper}
variable {fr : List (Nat × SV)} {stk : List (List (Nat × SV))} {bx : List (Nat × (TypeId × List SV))} {rw' : List (Nat × Ent)} {dep : Nat}

theorem fold_splice (off : Nat) : ∀ (vs : List Value) (k : Nat) (cs : Array Value), off + k + vs.length ≤ cs.size →
    ((vs.zipIdx k).foldl (fun (cs : Array Value) (p : Value × Nat) => cs.setIfInBounds (off + p.2) p.1) cs).toList = cs.toList.take (off + k) ++ vs ++ cs.toList.drop (off + k + vs.length)
  | [], k, cs, _ => by simp
  | v :: vs, k, cs, h => by
    simp only [List.length_cons] at h
    have hlt : off + k < cs.toList.length := by simp; omega
    rw [List.zipIdx_cons, List.foldl_cons, fold_splice off vs (k + 1) _ (by simp; omega)]
    simp only [Array.toList_setIfInBounds, List.length_cons]
    rw [show off + (k + 1) = off + k + 1 by omega, List.take_set, List.drop_set_of_lt (by omega), List.take_succ_eq_append_getElem hlt,
      List.set_append_right _ _ (by simp; omega)]
    simp only [List.length_take, Nat.min_eq_left (Nat.le_of_lt hlt), Nat.sub_self, List.set_cons_zero]
    simp [show off + k + (vs.length + 1) = off + k + 1 + vs.length by omega]
theorem fill_one (off : Nat) (v cs : Array Value) (h : off + v.size ≤ cs.size) : (v.zipIdx.foldl (fun (cs : Array Value) (p : Value × Nat) => cs.setIfInBounds (off + p.2) p.1) cs).toList = cs.toList.take off ++ v.toList ++ cs.toList.drop (off + v.size) := by
  have := fold_splice off v.toList 0 cs (by simpa using h)
  simp only [Nat.add_zero, Array.length_toList] at this
  rw [← this, ← Array.foldl_toList, Array.toList_zipIdx]
theorem lay_ok (hτ : TysOk P τ) (hd : Den τ w0 E s (a.tmps :: as) w) (place : Nat → Option (Nat × TypeId)) (pl : Nat → Option (Nat × Nat)) (hpl : ∀ i off T i', place i = some (off, T) → τ.ti T = some i' → pl i = some (off, τ.sz T))
    {α : Type} {bad : α} {K : List SV → α} {G : α → Prop} (hbad : G bad) : ∀ (parts : List (Nat × Operand)) (cs : List SV) (cells : Array Value), L0 (vd1 E s.rows w) cs cells.toList →
    (∀ cs' (cells' : Array Value), cs'.length = cs.length → L0 (vd1 E s.rows w) cs' cells'.toList → Instr.fill pl cells (parts.map fun x => (x.1, a.eval x.2)) = some cells' → G (K cs')) → G (lay bad τ s place parts cs K)
  | [], cs, cells, hc, hK => hK cs cells rfl hc rfl
  | (i, x) :: parts, cs, cells, hc, hK => by
    unfold lay
    split
    · rename_i off T hp
      rw [SV.force_eq]
      split
      · rename_i i' h1 h2 h3 h4
        rw [forceL_eq]
        have hx := cells_vd hd.hs_one (hd.getT T x) h3
        have hlen : (getT τ s T x).cells.length = τ.sz T := Nat.eq_of_beq_eq_true h1
        have hle : off + τ.sz T ≤ cs.length := Nat.le_of_ble_eq_true h2
        have hsz : (a.eval x).cells.size = τ.sz T := by have := hx.1; rw [hlen] at this; simpa using this.symm
        have hcl : cs.length = cells.size := by simpa using hc.1
        have hnew := hc.setRange hx off (by rw [hlen]; exact hle)
        rw [show (a.eval x).cells.toList.length = (a.eval x).cells.size by simp, ← fill_one off (a.eval x).cells cells (by omega)] at hnew
        refine lay_ok hτ hd place pl hpl hbad parts _ _ hnew fun cs' cells' hl' hc' hf => hK cs' cells' (hl'.trans (setRange_length _ _ _ (by rw [hlen]; exact hle))) hc' ?_
        simp only [List.map_cons, Instr.fill, hpl i off T i' hp h4]
        rw [if_neg (by simp; omega)]
        exact hf
      · exact hbad
    · exact hbad
theorem mapM_places {l : List Field} (h : ∀ f, f ∈ l → ∃ i, τ.ti f.type = some i) (hτ : TysOk P τ) : l.mapM (fun f => (P.info? f.type).map fun i => (f.offset, i.size)) = some (l.map fun f => (f.offset, τ.sz f.type)) := by
  induction l with
  | nil => rfl
  | cons f l ih =>
    obtain ⟨i, hi⟩ := h f (by simp)
    obtain ⟨x, z, hx, hs, _⟩ := (hτ.ti _ i hi).info
    have hsz : τ.sz f.type = i.sz := by simp [Tys.sz, hi]
    simp [List.mapM_cons, hx, ih (fun g hg => h g (by simp [hg])), hs, hsz]
theorem build_ok (hτ : TysOk P τ) (hd : Den τ w0 E ⟨fr, stk, bx, rw', dep⟩ (a.tmps :: as) w) (T : TypeId) (parts : Array (Nat × Operand)) (ho : o.op = .build T parts) :
    (evBuild τ ⟨fr, stk, bx, rw', dep⟩ T parts).good (Yld P o a w E rw') := by
  unfold evBuild
  split
  rotate_left
  · trivial
  rename_i i hi
  obtain ⟨x, z, h1, h2, h3, h4, h5, h6⟩ := aggLen hτ hi
  have hfin : ∀ cs (cells : Array Value), L0 (vd1 E rw' w) cs cells.toList → P.built T (parts.map fun (i, x) => (i, a.eval x)).toList = some cells → Yld P o a w E rw' (.agg cs) := by
    intro cs cells hc hb
    refine ⟨.agg cells, ?_, cells.toList, by simp, hc⟩
    simp only [execOp, ho, Sem.run_bind, run_build w T _ cells hb, Result.andThen_ok]
    rfl
  split
  · rename_i fs htd
    obtain ⟨d, hu, hdd⟩ := (hτ.ti T i hi).und
    rw [htd] at hdd
    obtain ⟨fa, rfl, hfa⟩ := hdd
    have hall : ∀ f, f ∈ fa.toList → ∃ i, τ.ti f.type = some i := by
      intro f hf
      obtain ⟨j, hj, rfl⟩ := List.getElem_of_mem hf
      have := hfa j
      rw [show fa[j]? = some fa.toList[j] by simp [Array.getElem?_eq_getElem (show j < fa.size by simpa using hj)]] at this
      exact (hτ.ti T i hi).flds fs htd j _ this
    refine lay_ok (s := ⟨fr, stk, bx, rw', dep⟩) hτ hd _ (fun j => (fa.toList.map fun f => (f.offset, τ.sz f.type)).toArray[j]?) ?_ (bad := RV.bad) (G := fun r : RV => r.good (Yld P o a w E rw')) trivial parts.toList i.zero z.cells (h6 _ _ _).up ?_
    · intro j off F i' hp _
      have := hfa j
      rw [hp] at this
      obtain ⟨f, hf, hfe⟩ := Option.map_eq_some_iff.1 this.symm
      simp only [Prod.mk.injEq] at hfe
      simp [hf, hfe.1, hfe.2]
    · intro cs cells _ hc hf
      refine hfin cs cells hc ?_
      simp only [Program.built, h1, hu, h4, mapM_places hall hτ]
      rw [← hf]
      simp
  · rename_i n e htd
    obtain ⟨d, hu, hdd⟩ := (hτ.ti T i hi).und
    rw [htd] at hdd
    obtain rfl : d = _ := hdd
    obtain ⟨ie, hie⟩ := (hτ.ti T i hi).elem n e htd
    obtain ⟨xe, ze, g1, g2, g3, g4, g5, g6⟩ := aggLen hτ hie
    refine lay_ok (s := ⟨fr, stk, bx, rw', dep⟩) hτ hd _ (fun j => some (j * τ.sz e, τ.sz e)) ?_ (bad := RV.bad) (G := fun r : RV => r.good (Yld P o a w E rw')) trivial parts.toList i.zero z.cells (h6 _ _ _).up ?_
    · intro j off F i' hp _
      simp only [Option.some.injEq, Prod.mk.injEq] at hp
      rw [← hp.1, ← hp.2]
    · intro cs cells _ hc hf
      refine hfin cs cells hc ?_
      simp only [Program.built, h1, hu, h4, g1, g2]
      rw [← hf]
      simp
  · trivial
theorem build_good (hτ : TysOk P τ) (hd : Den τ w0 E ⟨fr, stk, bx, rw', dep⟩ (a.tmps :: as) w) (hdst : ∀ t, o.dst = some t → t < a.tmps.size) (T : TypeId) (parts : Array (Nat × Operand)) (ho : o.op = .build T parts) :
    ((evBuild τ ⟨fr, stk, bx, rw', dep⟩ T parts).to o.dst ⟨fr, stk, bx, rw', dep⟩).good (OpGood P τ w0 E as o a w) :=
  RV.to_good' hd hdst (build_ok hτ hd T parts ho)

/-! ### Slices made of literals -/
theorem Den.dropRow (h : Den τ w0 E ⟨fr, stk, bx, rw', dep⟩ bs w) (k : Nat) (hno : St.has (own0 k) ⟨fr, stk, bx, rw', dep⟩ = false) : Den τ w0 E ⟨fr, stk, bx, dropKey rw' k, dep⟩ bs w := by
  have hl : ∀ j, j ≠ k → lk (dropKey rw' k) j = lk rw' j := fun j hj => by rw [lk_dropKey]; simp [hj]
  have hsome : ∀ j e, lk (dropKey rw' k) j = some e → lk rw' j = some e := by
    intro j e hj
    rw [lk_dropKey] at hj
    split at hj
    · simp at hj
    · exact hj
  have hs : Shift E E ⟨fr, stk, bx, rw', dep⟩ ⟨fr, stk, bx, dropKey rw' k, dep⟩ w := by
    refine ⟨fun j hj => ⟨rfl, ?_⟩, fun _ _ => rfl⟩
    have : j ≠ k := fun e => by subst e; rw [hno] at hj; exact absurd hj (by simp)
    simp only [hl j this]
    exact entLike.refl _ _ _ _
  refine h.move (Keeps.refl E w) rfl (Below.refl _ _) hs rfl rfl h.owb ?_ ?_ h.bb ?_ ?_
  · intro j T cs hj
    obtain ⟨h1, us, h2, h3⟩ := h.box j T cs hj
    exact ⟨h1, us, h2, hs.cells (Keeps.refl E w) hj h3⟩
  · intro j e lo r hj hm
    exact h.own j e lo r (hsome j e hj) hm
  · intro j j' b e m hj hj' hm
    exact h.br j j' b e m hj (hsome j' e hj') hm
  · intro j j' e e' m m' g hj hj'
    exact h.rr j j' e e' m m' g (hsome j e hj) (hsome j' e' hj')
/-- What a demotion leaves: the same names, rows that are read. -/
theorem Den.demoteL : ∀ (cs : List SV) {E : Env} {rw' : List (Nat × Ent)}, Den τ w0 E ⟨fr, stk, bx, rw', dep⟩ bs w → ∃ E', E'.base = E.base ∧ E'.M = E.M ∧ E'.bs = E.bs ∧ E'.hs = E.hs ∧ Keeps E E' w w ∧
    Den τ w0 E' ⟨fr, stk, bx, Go.Proofs.Ytmgccphapkmmeaa.demoteL cs rw', dep⟩ bs w ∧ (∀ x u, vd1 E rw' w x u → vd1 E' (Go.Proofs.Ytmgccphapkmmeaa.demoteL cs rw') w x u) ∧
    (∀ x u, vd3 E rw' w x u → vd3 E' (Go.Proofs.Ytmgccphapkmmeaa.demoteL cs rw') w x u)
  | [], E, rw', h => ⟨E, rfl, rfl, rfl, rfl, Keeps.refl E w, h, fun _ _ h => h, fun _ _ h => h⟩
  | x :: cs, E, rw', h => by
    by_cases hx : ∃ k, x = .own k
    · obtain ⟨k, rfl⟩ := hx
      obtain ⟨E1, h1, h2, h3, h4, h5, h6, h7, h8⟩ := h.demote k
      obtain ⟨E2, g1, g2, g3, g4, g5, g6, g7, g8⟩ := Den.demoteL cs h8
      have hkk : Keeps E E2 w w := ⟨g2.trans h2, Nat.le_refl _, fun _ _ _ => rfl, fun g hg => by
        rcases g5.ow g hg with hg | hg
        · exact h5.ow g hg
        · exact .inr hg⟩
      refine ⟨E2, g1.trans h1, g2.trans h2, g3.trans h3, g4.trans h4, hkk, g6, fun x u hu => g7 x u ?_, fun x u hu => g8 x u ?_⟩
      · exact vd1.keeps h5 (fun j _ => ⟨by rw [h4], h7 j⟩) (fun j _ => by rw [h3]) hu
      · exact vd3.keeps h5 ⟨fun j _ => ⟨by rw [h4], h7 j⟩, fun j _ => by rw [h3]⟩ hu
    · have : Go.Proofs.Ytmgccphapkmmeaa.demoteL (x :: cs) rw' = Go.Proofs.Ytmgccphapkmmeaa.demoteL cs rw' := by cases x <;> first | rfl | exact absurd ⟨_, rfl⟩ hx
      rw [this]
      exact Den.demoteL cs h
theorem resS_vd {R : List (Nat × Ent)} {x : SV} {u : Value} (h : vd1 E R w x u) : vd1 E R w (resS R x) u := by
  cases x with
  | own k =>
    simp only [resS]
    simp only [vd1, vd0] at h
    split
    · rename_i t r hk; rw [hk] at h; exact h
    · trivial
  | _ => exact h
theorem resSL_vd {R : List (Nat × Ent)} {cs : List SV} {us : List Value} (h : L0 (vd1 E R w) cs us) : L0 (vd1 E R w) (resSL R cs) us := by
  induction cs generalizing us with
  | nil => exact h
  | cons x cs ih =>
    obtain ⟨u, us', rfl, h1, h2⟩ := h.inv_cons
    exact .cons (resS_vd h1) (ih h2)
theorem allNew_mem {l : List SV} (h : allNew l = true) {x : SV} (hx : x ∈ l) : tagLe .new x := by
  induction l with
  | nil => simp at hx
  | cons y l ih =>
    rcases List.mem_cons.1 hx with rfl | hx'
    · cases x <;> try trivial
      rename_i t r
      cases t <;> simp [allNew] at h
      exact .inr rfl
    · have : allNew l = true := by
        cases y with
        | row t r => cases t <;> simp [allNew] at h <;> exact h
        | own k => simp [allNew] at h
        | box k off => simp [allNew] at h
        | _ => exact h
      exact ih this hx'
theorem chunks_get {α : Type} (sz : Nat) : ∀ (n : Nat) (l : List α) (i : Nat), i < n → (chunks sz n l)[i]? = some ((l.drop (i * sz)).take sz)
  | 0, _, i, h => by omega
  | n + 1, l, 0, _ => by simp [chunks]
  | n + 1, l, i + 1, h => by
    simp only [chunks, List.getElem?_cons_succ]
    rw [chunks_get sz n _ i (by omega), List.drop_drop]
    rw [show sz + i * sz = (i + 1) * sz by rw [Nat.add_mul, Nat.one_mul, Nat.add_comm]]
theorem chunks_len {α : Type} (sz : Nat) : ∀ (n : Nat) (l : List α), (chunks sz n l).length = n
  | 0, _ => rfl
  | n + 1, l => by simp [chunks, chunks_len sz n]
/-- Cells that a row was made of lie where the row's cells are looked for. -/
theorem made_cells {k n : Nat} {cs : List SV} {us : List Value} {r : Rw} (h : mkRow k (chunks (kdSz k) n cs) = some r) (hl : L0 (vd1 E rw' w) cs us) (hn : cs.length = n * kdSz k) (t : Tag) (ht : r.flat = true ∨ ∀ x, x ∈ cs → tagLe t x) :
    ∀ i j x, i < r.len → (r.cell .any i)[j]? = some x → ∃ u, us[i * r.sz + j]? = some u ∧ cd1 w (E.F t) x u := by
  intro i j x hi hx
  obtain ⟨hk, hlen, hfit⟩ := mkRow_fit h
  rw [chunks_len] at hlen
  have hsz : r.sz = kdSz k := by unfold Rw.sz; rw [hk]
  obtain ⟨_, hf⟩ := hfit i _ (chunks_get (kdSz k) n cs i (by omega))
  obtain ⟨y, hy, hyx⟩ := hf j x hx
  rw [List.getElem?_take] at hy
  split at hy
  · rw [List.getElem?_drop] at hy
    obtain ⟨u, hu, hd⟩ := hl.2 _ y hy
    refine ⟨u, by rw [hsz]; exact hu, ?_⟩
    rcases ht with ht | ht
    · -- a flat row's cells are plain
      have h0 : cd1 w (E.F .any) x u := hyx.cd hd (by cases y <;> simp [tagLe])
      exact (flat_sc ht hx _ _ _ _ u).1 h0
    · exact hyx.cd hd (ht y (List.mem_of_getElem? hy))
  · simp at hy
end
end Go.Proofs.Ytmgccphapkmmeaa
