/- A symbolic executor for loaded Go code: each step is the machine's: boxes, literals, stores, addresses. -/
import Derived.Test.YtmgccphapkmmeaaVH
namespace Go.Proofs.Ytmgccphapkmmeaa
open Go.RowKit

section
variable {P : Program} {τ : Tys} {w0 : World} {E : Env} {as : List (Array Value)} {a : Act} {w : World}
variable {s : St} {bs : List (Array Value)} {o : Oper}
variable {fr : List (Nat × SV)} {stk : List (List (Nat × SV))} {bx : List (Nat × (TypeId × List SV))} {rw' : List (Nat × Ent)} {dep : Nat}

theorem loadOp_ok (hτ : TysOk P τ) (hd : Den τ w0 E ⟨fr, stk, bx, rw', dep⟩ (a.tmps :: as) w) (T : TypeId) (x : Operand) (ho : o.op = .load T x) :
    (evLoad τ ⟨fr, stk, bx, rw', dep⟩ T (St.get ⟨fr, stk, bx, rw', dep⟩ x)).good (Yld P o a w E rw') :=
  RV.ok_of (c := Instr.loadAt T (a.eval x)) (fun z hz => by simp only [execOp, ho, Sem.run_bind, hz]; rfl) (load_ok hτ hd T (hd.get x))

theorem load_good (hτ : TysOk P τ) (hd : Den τ w0 E ⟨fr, stk, bx, rw', dep⟩ (a.tmps :: as) w) (hdst : ∀ t, o.dst = some t → t < a.tmps.size) (T : TypeId) (x : Operand) (ho : o.op = .load T x) :
    ((evLoad τ ⟨fr, stk, bx, rw', dep⟩ T (St.get ⟨fr, stk, bx, rw', dep⟩ x)).to o.dst ⟨fr, stk, bx, rw', dep⟩).good (OpGood P τ w0 E as o a w) :=
  RV.to_good' hd hdst (loadOp_ok hτ hd T x ho)
/-! ### A frame's cells -/
theorem vd1_of_vd3 {x : SV} {v : Value} (h : vd3 E rw' w x v) (h1 : ∀ cs, x ≠ .agg cs) (h2 : ∀ vs, x ≠ .tup vs) : vd1 E rw' w x v := by
  cases x <;> first | exact h | exact absurd rfl (h1 _) | exact absurd rfl (h2 _)
theorem cells_one {x : SV} (h1 : ∀ cs, x ≠ .agg cs) : x.cells = [x] := by cases x <;> first | rfl | exact absurd rfl (h1 _)
theorem cells_vd {x : SV} {v : Value} (hR : ∀ k e m, lk rw' k = some e → e.mine = some m → (E.hs k).oneCell' = true) (h : vd3 E rw' w x v) (ho : allOne rw' x.cells = true) : L0 (vd1 E rw' w) x.cells v.cells.toList := by
  by_cases ha : ∃ cs, x = .agg cs
  · obtain ⟨cs, rfl⟩ := ha
    obtain ⟨us, rfl, hu⟩ := h
    simpa [SV.cells, Value.cells] using hu
  · have h1 : ∀ cs, x ≠ .agg cs := fun cs e => ha ⟨cs, e⟩
    rw [cells_one h1] at ho ⊢
    have ho1 : oneOk rw' x = true := allOne_mem ho (List.mem_singleton.2 rfl)
    have h2 : ∀ vs, x ≠ .tup vs := fun vs e => by subst e; simp [oneOk] at ho1
    have hv1 := vd1_of_vd3 h h1 h2
    have hv := vd1_one hR hv1 ho1
    have : v.cells = #[v] := by cases v <;> first | rfl | simp [Value.oneCell'] at hv
    rw [this]
    exact .cons hv1 .nil
theorem aggLen (hτ : TysOk P τ) {T : TypeId} {i : TI} (hi : τ.ti T = some i) : ∃ x z, P.info? T = some x ∧ x.size = τ.sz T ∧ x.bytes = i.bytes ∧ x.zero = some z ∧ z.cells.size = τ.sz T ∧ ∀ E R w, L0 (vd0 E R w) i.zero z.cells.toList := by
  obtain ⟨x, z, h1, h2, h3, h4, h5, h6⟩ := (hτ.ti T i hi).info
  have : τ.sz T = i.sz := by simp [Tys.sz, hi]
  exact ⟨x, z, h1, by rw [this]; exact h2, h3, h4, by rw [this]; exact h5, h6⟩
theorem L0.up {cs : List SV} {us : List Value} (h : L0 (vd0 E rw' w) cs us) : L0 (vd1 E rw' w) cs us :=
  h.mono fun x u _ hp => by cases x <;> first | exact hp | exact hp.elim
theorem put_ptr (d : Tmp) {E' : Env} {w' : World} {bx' : List (Nat × (TypeId × List SV))} {R' : List (Nat × Ent)} {x : SV} {v : Value} (hd : Den τ w0 E' ⟨fr, stk, bx', R', dep⟩ (a.tmps :: as) w') (hx : vd3 E' R' w' x v) (hdst : d < a.tmps.size) :
    Den τ w0 E' ⟨(d, x) :: fr, stk, bx', R', dep⟩ ((a.put (some d) v).tmps :: as) w' := hd.put (d := some d) hx (fun t e => by injection e with e; subst e; exact hdst)
theorem alloc_good (hτ : TysOk P τ) (hd : Den τ w0 E ⟨fr, stk, bx, rw', dep⟩ (a.tmps :: as) w) (hdst : ∀ t, o.dst = some t → t < a.tmps.size) (T : TypeId) (ho : o.op = .alloc T) :
    (stepAlloc τ T o.dst ⟨fr, stk, bx, rw', dep⟩).good (OpGood P τ w0 E as o a w) := by
  unfold stepAlloc
  dsimp only
  split
  · rename_i d i hdd hi
    split
    · rename_i hno
      rw [forceL_eq, forceB_eq]
      obtain ⟨x, z, h1, h2, h3, h4, h5, h6⟩ := aggLen hτ hi
      obtain ⟨E', hb, hM, hbk, hd'⟩ := hd.newBox (dep + d) hno T i.zero z.cells.toList (fun E' _ _ _ _ => (h6 _ _ _).up)
      refine opGood_value (v := .pointer (some ⟨w.heap.size, 0, none⟩)) (w' := w.alloc (.cells z.cells T)) ?_ ?_ hb hM
      · simp [execOp, ho, Instr.alloc, zeroValue, typeInfo, h1, h4, newVar, newRow]
      · rw [hdd]
        exact put_ptr d hd' (by simp only [vd3, vd2, vd1, vd0, hbk]) (hdst d hdd)
    · trivial
  · trivial
theorem box_good (hτ : TysOk P τ) (hd : Den τ w0 E ⟨fr, stk, bx, rw', dep⟩ (a.tmps :: as) w) (hdst : ∀ t, o.dst = some t → t < a.tmps.size) (T : TypeId) (x : Operand) (ho : o.op = .box T x) :
    (stepBox τ T x o.dst ⟨fr, stk, bx, rw', dep⟩).good (OpGood P τ w0 E as o a w) := by
  unfold stepBox
  dsimp only
  split
  · rename_i d hdd
    split
    · rename_i hno
      simp only [SV.force_eq, forceL_eq]
      split
      · rename_i hall
        rw [forceB_eq]
        have hx := hd.getT T x
        have hc := cells_vd hd.hs_one hx hall
        have hno' : ∀ y, y ∈ (getT τ ⟨fr, stk, bx, rw', dep⟩ T x).cells → deep1 (box0 (dep + d)) y = true → False := by
          intro y hy hp
          have hg : deep3 (box0 (dep + d)) (getT τ ⟨fr, stk, bx, rw', dep⟩ T x) = true := by
            generalize getT τ ⟨fr, stk, bx, rw', dep⟩ T x = g at hy hall
            by_cases ha : ∃ cs, g = .agg cs
            · obtain ⟨cs, rfl⟩ := ha
              exact anyL_of_mem (p := deep1 (box0 (dep + d))) hy hp
            · rw [cells_one (fun cs e => ha ⟨cs, e⟩)] at hy hall
              obtain rfl := List.mem_singleton.1 hy
              have ho1 : oneOk rw' y = true := allOne_mem hall (List.mem_singleton.2 rfl)
              cases y <;> first | exact hp | (simp [oneOk] at ho1; done) | exact absurd ⟨_, rfl⟩ ha
          have : ∀ y, deep3 (box0 (dep + d)) (St.get ⟨fr, stk, bx, rw', dep⟩ y) = true → False := by
            intro y hy
            cases y with
            | tmp t => have := has_fr (s := ⟨fr, stk, bx, rw', dep⟩) (p := box0 (dep + d)) rfl (i := 0) (f := fr) rfl hy; rw [hno] at this; exact absurd this (by simp)
            | const v => cases v <;> simp [St.get, SV.ofVal, deep3, deep2, deep1, box0] at hy
            | func f => simp [St.get, deep3, deep2, deep1, anyL] at hy
            | global g => simp [St.get, deep3, deep2, deep1, box0] at hy
          unfold getT at hg
          split at hg
          · split at hg
            · simp [deep3, deep2, deep1, box0] at hg
            · simp [deep3, deep2, deep1, box0] at hg
          · exact this _ hg
        obtain ⟨E', hb, hM, hbk, hd'⟩ := hd.newBox (dep + d) hno T _ (a.eval x).cells.toList (fun E' h1 h2 h3 h4 => by
          have hk : Keeps E E' w (w.alloc (.cells (a.eval x).cells.toList.toArray T)) := ⟨h2, by simp, fun g _ hg => Below.heap_alloc w _ g hg, h4⟩
          refine hc.mono fun y u hy hp => vd1.keeps hk (fun j hj => ⟨by rw [h1], entLike.refl _ _ _ _⟩) (fun j hj => h3 j ?_) hp
          rintro rfl
          exact hno' y hy hj)
        refine opGood_value (v := .pointer (some ⟨w.heap.size, 0, none⟩)) (w' := w.alloc (.cells (a.eval x).cells T)) ?_ ?_ hb hM
        · simp [execOp, ho, Instr.box, newVar, newRow]
        · rw [hdd]
          simp only [Array.toArray_toList] at hd'
          exact put_ptr d hd' (by simp only [vd3, vd2, vd1, vd0, hbk]) (hdst d hdd)
      · trivial
    · trivial
  · trivial
theorem check_ok (hd : Den τ w0 E ⟨fr, stk, bx, rw', dep⟩ (a.tmps :: as) w) (x : Operand) (ho : o.op = .nilCheck x) :
    (evCheck ⟨fr, stk, bx, rw', dep⟩ (St.get ⟨fr, stk, bx, rw', dep⟩ x)).good (Yld P o a w E rw') := by
  have hx := hd.get x
  have hp : ∀ p, a.eval x = .pointer (some p) → (execOp a.eval o).run P w = .ok (.value (a.eval x)) w := fun p hp => by simp [execOp, ho, hp]
  unfold evCheck
  split
  · rename_i h; rw [h] at hx; exact ⟨_, hp _ hx, hx⟩
  · rename_i h; rw [h] at hx; exact ⟨_, hp _ hx.choose_spec.1, hx⟩
  · rename_i k i off h
    split
    · rename_i r hk
      rw [h] at hx
      have hx' := hx
      simp only [vd3, vd2, vd1, vd0] at hx
      rw [hk] at hx
      obtain ⟨g, n, c, _, _, _, hv⟩ := hx
      exact ⟨_, hp _ hv, hx'⟩
    · rename_i lo r hk
      rw [h] at hx
      have hx' := hx
      simp only [vd3, vd2, vd1, vd0] at hx
      rw [hk] at hx
      obtain ⟨g, n, c, _, _, _, hv⟩ := hx
      exact ⟨_, hp _ hv, hx'⟩
    · trivial
  · rename_i h
    rw [h] at hx
    have hx' := hx
    obtain ⟨us, vs, hv, _⟩ := hx
    exact ⟨_, by simp [execOp, ho, hv], hx'⟩
  · trivial
theorem check_good (hd : Den τ w0 E ⟨fr, stk, bx, rw', dep⟩ (a.tmps :: as) w) (hdst : ∀ t, o.dst = some t → t < a.tmps.size) (x : Operand) (ho : o.op = .nilCheck x) :
    ((evCheck ⟨fr, stk, bx, rw', dep⟩ (St.get ⟨fr, stk, bx, rw', dep⟩ x)).to o.dst ⟨fr, stk, bx, rw', dep⟩).good (OpGood P τ w0 E as o a w) :=
  RV.to_good' hd hdst (check_ok hd x ho)
theorem field_ok (hτ : TysOk P τ) (hd : Den τ w0 E ⟨fr, stk, bx, rw', dep⟩ (a.tmps :: as) w) (S : TypeId) (x : Operand) (j : Nat) (ho : o.op = .field S x j) :
    (evPart τ S j (St.get ⟨fr, stk, bx, rw', dep⟩ x)).good (Yld P o a w E rw') := by
  have hx := hd.get x
  refine RV.ok_of (c := Instr.field S (a.eval x) j) (fun z hz => by simp only [execOp, ho, Sem.run_bind, hz]; rfl) ?_
  unfold evPart
  split
  · rename_i fs cs htd hcs
    rw [hcs] at hx
    obtain ⟨us, hv, hu⟩ := hx
    split
    · rename_i off F hj
      obtain ⟨d, hdd, fa, rfl, hfa⟩ := hτ.td htd (by simp)
      have hj' := hfa j
      rw [hj] at hj'
      obtain ⟨f, hf, hfe⟩ := Option.map_eq_some_iff.1 hj'.symm
      simp only [Prod.mk.injEq] at hfe
      have := part_ok (P := P) hτ F cs us off hu
      rw [hv]
      simpa [Instr.field, run_underlying hdd, hf, hfe.1, hfe.2, asAgg, Gives] using this
    · trivial
  · trivial
theorem field_good (hτ : TysOk P τ) (hd : Den τ w0 E ⟨fr, stk, bx, rw', dep⟩ (a.tmps :: as) w) (hdst : ∀ t, o.dst = some t → t < a.tmps.size) (S : TypeId) (x : Operand) (j : Nat) (ho : o.op = .field S x j) :
    ((evPart τ S j (St.get ⟨fr, stk, bx, rw', dep⟩ x)).to o.dst ⟨fr, stk, bx, rw', dep⟩).good (OpGood P τ w0 E as o a w) :=
  RV.to_good' hd hdst (field_ok hτ hd S x j ho)
theorem fieldAddr_ok (hτ : TysOk P τ) (hd : Den τ w0 E ⟨fr, stk, bx, rw', dep⟩ (a.tmps :: as) w) (S : TypeId) (x : Operand) (j : Nat) (ho : o.op = .fieldAddr S x j) :
    (evField τ ⟨fr, stk, bx, rw', dep⟩ S j (St.get ⟨fr, stk, bx, rw', dep⟩ x)).good (Yld P o a w E rw') := by
  have hx := hd.get x
  refine RV.ok_of (c := Instr.fieldAt S (a.eval x) j) (fun z hz => by simp only [execOp, ho, Sem.run_bind, hz]; rfl) ?_
  unfold evField
  split
  · rename_i fs htd
    split
    · rename_i off F hj
      obtain ⟨d, hdd, fa, rfl, hfa⟩ := hτ.td htd (by simp)
      have hj' := hfa j
      rw [hj] at hj'
      obtain ⟨f, hf, hfe⟩ := Option.map_eq_some_iff.1 hj'.symm
      simp only [Prod.mk.injEq] at hfe
      split
      · trivial
      · rename_i hz
        have hti : ∃ i, τ.ti F = some i := by
          cases h : τ.ti F with
          | none => simp [Tys.sz, h] at hz
          | some i => exact ⟨i, rfl⟩
        obtain ⟨i, hi⟩ := hti
        have hrun : ∀ ad : Addr, (Instr.fieldAt S (.pointer (some ad)) j).run P w = .ok (.pointer (some (ad.add off))) w := by
          intro ad
          have hne : τ.sz F ≠ 0 := fun e => by rw [e] at hz; simp at hz
          simp [Instr.fieldAt, run_underlying hdd, hf, Instr.sureAddr, fieldPlace, hfe.1, hfe.2, hτ.szOf hi, hne]
        split
        · rename_i h
          rw [h] at hx
          obtain hx : a.eval x = _ := hx
          exact ⟨_, by rw [hx]; exact hrun _, by simp only [vd3, vd2, vd1, vd0, Addr.add_lit]⟩
        · rename_i h
          rw [h] at hx
          obtain ⟨ad, hv, hs, hlt, hF, hc⟩ := hx
          rw [forceL_eq]
          refine ⟨_, by rw [hv]; exact hrun _, ad.add off, rfl, ?_, ?_, ?_, fun i x hx => ?_⟩
          · unfold Addr.add; split <;> simp [hs]
          · rw [show (ad.add off).block = ad.block by unfold Addr.add; split <;> rfl]; exact hlt
          · rw [show (ad.add off).block = ad.block by unfold Addr.add; split <;> rfl]; exact hF
          · rw [List.getElem?_drop] at hx
            rw [add_add hs]
            exact hc _ x hx
        · rename_i k i' off' h
          rw [h] at hx
          simp only [vd3, vd2, vd1, vd0] at hx
          split
          · rename_i r hk
            rw [hk] at hx
            obtain ⟨g, n, c, hh, h0, h1, hv⟩ := hx
            refine ⟨_, by rw [hv]; exact hrun _, ?_⟩
            simp only [vd3, vd2, vd1, vd0]
            rw [hk]
            exact ⟨g, n, c, hh, h0, h1, by simp only [Addr.add_lit, Nat.add_assoc]⟩
          · rename_i lo r hk
            rw [hk] at hx
            obtain ⟨g, n, c, hh, h0, h1, hv⟩ := hx
            refine ⟨_, by rw [hv]; exact hrun _, ?_⟩
            simp only [vd3, vd2, vd1, vd0]
            rw [hk]
            exact ⟨g, n, c, hh, h0, h1, by simp only [Addr.add_lit, Nat.add_assoc]⟩
          · trivial
        · trivial
    · trivial
  · trivial
theorem fieldAddr_good (hτ : TysOk P τ) (hd : Den τ w0 E ⟨fr, stk, bx, rw', dep⟩ (a.tmps :: as) w) (hdst : ∀ t, o.dst = some t → t < a.tmps.size) (S : TypeId) (x : Operand) (j : Nat) (ho : o.op = .fieldAddr S x j) :
    ((evField τ ⟨fr, stk, bx, rw', dep⟩ S j (St.get ⟨fr, stk, bx, rw', dep⟩ x)).to o.dst ⟨fr, stk, bx, rw', dep⟩).good (OpGood P τ w0 E as o a w) :=
  RV.to_good' hd hdst (fieldAddr_ok hτ hd S x j ho)
end
end Go.Proofs.Ytmgccphapkmmeaa
