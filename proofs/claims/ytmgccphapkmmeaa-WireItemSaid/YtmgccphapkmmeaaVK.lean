/- A symbolic executor for loaded Go code: each step is the machine's: slices. -/
import Derived.Test.YtmgccphapkmmeaaVJ
namespace Go.Proofs.Ytmgccphapkmmeaa
open Go.RowKit

section
variable {P : Program} {τ : Tys} {w0 : World} {E : Env} {as : List (Array Value)} {a : Act} {w : World}
variable {s : St} {bs : List (Array Value)} {o : Oper}
variable {fr : List (Nat × SV)} {stk : List (List (Nat × SV))} {bx : List (Nat × (TypeId × List SV))} {rw' : List (Nat × Ent)} {dep : Nat}

theorem has_sub {p : SV → Bool} {R R' : List (Nat × Ent)} : St.has p ⟨fr, stk, bx, R, dep⟩ = St.has p ⟨fr, stk, bx, R', dep⟩ := rfl
/-- A new block, all of it a row. -/
theorem ownsRow_alloc (M : Nat) (e : TypeId) (size n : Nat) (cur : Array Value) (hM : M ≤ w.heap.size) (hn : n ≤ maxLen) (hs : cur.size = n * size) :
    (w.alloc (.cells cur e)).ownsRow M e size (.slice (some ⟨w.heap.size, 0, none⟩) n n) n cur.toList := by
  refine ⟨by simpa using hs, .inr ⟨w.heap.size, n, cur, rfl, hM, heap_alloc_new w _, Nat.le_refl _, hn, hs, ?_⟩⟩
  rw [← hs]
  exact List.take_of_length_le (by simp)
theorem add_F {E : Env} {k : Nat} {v : Value} {g : Nat} {t : Tag} (hv : ∀ g, v.ownBlock = some g → w.heap.size ≤ g) (hg : g < w.heap.size) (h : E.F t g) : (E.add k v).F t g := by
  refine ⟨?_, h.2⟩
  rintro (ho | ho)
  · exact h.1 ho
  · have := hv g ho; omega
theorem cd1_add {E : Env} {k : Nat} {v : Value} {w' : World} {t : Tag} {x : SV} {u : Value} (h : cd1 w (E.F t) x u) (hw : ∀ g, ¬ E.ow g → g < w.heap.size → w'.heap[g]? = w.heap[g]?) (hv : ∀ g, v.ownBlock = some g → w.heap.size ≤ g ∨ E.ow g) : cd1 w' ((E.add k v).F t) x u :=
  h.mono fun g hg hlt => ⟨hw g hg.1 hlt, ⟨fun ho => by
    rcases ho with ho | ho
    · exact hg.1 ho
    · rcases hv g ho with h1 | h1
      · omega
      · exact hg.1 h1, hg.2⟩⟩
theorem kdSz_pos (k : Nat) : 0 < kdSz k := by unfold kdSz; split <;> omega
theorem flatZeros_len (z : List SV) (n : Nat) : (flatZeros z n).length = n * z.length := by
  induction n with
  | zero => simp [flatZeros]
  | succ n ih => simp [flatZeros, ih, Nat.add_mul, Nat.add_comm]
theorem flatZeros_vd {z : List SV} {zs : List Value} (h : L0 (vd1 E rw' w) z zs) (n : Nat) : L0 (vd1 E rw' w) (flatZeros z n) ((List.range (n * zs.length)).map fun i => zs.getD (i % zs.length) undef) := by
  induction n with
  | zero => simpa [flatZeros] using L0.nil
  | succ n ih =>
    have : ((List.range ((n + 1) * zs.length)).map fun i => zs.getD (i % zs.length) undef) = zs ++ (List.range (n * zs.length)).map fun i => zs.getD (i % zs.length) undef := by
      apply List.ext_getElem?
      intro j
      by_cases hj : j < zs.length
      · rw [List.getElem?_append_left hj]
        have : j < (n + 1) * zs.length := by rw [Nat.add_mul, Nat.one_mul]; omega
        simp [this, Nat.mod_eq_of_lt hj, List.getD_eq_getElem?_getD, List.getElem?_eq_getElem hj]
      · rw [List.getElem?_append_right (by omega)]
        simp only [List.getElem?_map]
        by_cases hk : j < (n + 1) * zs.length
        · rw [List.getElem?_range hk, List.getElem?_range (by rw [Nat.add_mul, Nat.one_mul] at hk; omega)]
          simp only [Option.map_some]
          rw [Nat.mod_eq_sub_mod (by omega)]
        · rw [List.getElem?_eq_none (by simp; omega), List.getElem?_eq_none (by simp; rw [Nat.add_mul, Nat.one_mul] at hk; omega)]
    rw [this]
    exact h.append ih
theorem lit_good (hτ : TysOk P τ) (hd : Den τ w0 E ⟨fr, stk, bx, rw', dep⟩ (a.tmps :: as) w) (hdst : ∀ t, o.dst = some t → t < a.tmps.size) (T : TypeId) (n : Nat) (parts : Array (Nat × Operand)) (ho : o.op = .buildSlice T n parts) :
    (stepLit τ T n parts o.dst ⟨fr, stk, bx, rw', dep⟩).good (OpGood P τ w0 E as o a w) := by
  unfold stepLit
  dsimp only
  split
  rotate_left
  · trivial
  rename_i e d htd hdd
  split
  rotate_left
  · trivial
  rename_i k i hrk hi hle hno
  obtain ⟨hk10, het, i', hi', hsz, hby, _⟩ := hτ.rk e k hrk
  rw [hi] at hi'
  injection hi' with hi'
  subst hi'
  obtain ⟨x, z, h1, h2, h3, h4, h5, h6⟩ := aggLen hτ hi
  have hsz' : τ.sz e = kdSz k := by rw [← hsz]; simp [Tys.sz, hi]
  have hle' : n * τ.sz e ≤ 16777216 := Nat.le_of_ble_eq_true hle
  have hpos := kdSz_pos k
  have hz1 : L0 (vd1 E rw' w) i.zero z.cells.toList := (h6 _ _ _).up
  have hzl : z.cells.toList.length = τ.sz e := by simpa using h5
  let zc : Array Value := (Array.range (n * τ.sz e)).map (z.cells[· % z.cells.size]!)
  have hzc : zc.toList = (List.range (n * z.cells.toList.length)).map fun i => z.cells.toList.getD (i % z.cells.toList.length) undef := by
    have hzp : 0 < z.cells.size := by rw [h5]; omega
    simp only [zc, Array.toList_map, Array.toList_range, hzl]
    apply List.map_congr_left
    intro j _
    have hm : j % z.cells.size < z.cells.size := Nat.mod_lt _ hzp
    rw [getElem!_pos z.cells (j % z.cells.size) hm, ← h5]
    simp [List.getD_eq_getElem?_getD, Array.getElem?_eq_getElem hm]
  refine lay_ok (s := ⟨fr, stk, bx, rw', dep⟩) hτ hd _ (fun j => some (j * τ.sz e, τ.sz e)) ?_ (bad := RS.bad) (G := fun r : RS => r.good (OpGood P τ w0 E as o a w)) trivial parts.toList _ zc (by rw [hzc]; exact flatZeros_vd hz1 n) ?_
  · intro j off F i' hp _
    simp only [Option.some.injEq, Prod.mk.injEq] at hp
    rw [← hp.1, ← hp.2]
  · intro cs cells hl0 hc hf
    have hrun : (execOp a.eval o).run P w = .ok (.value (.slice (some ⟨w.heap.size, 0, none⟩) n n)) (w.alloc (.cells cells e)) := by
      have hf' : Instr.fill (fun i => some (i * τ.sz e, τ.sz e)) zc (parts.map fun (i, x) => (i, a.eval x)).toList = some cells := by rw [← hf]; simp
      have hnb : ¬ (n * τ.sz e > 2 ^ 24) := by omega
      have hslice := hτ.slice htd
      simp only [execOp, ho, Instr.buildSlice, Sem.run_bind, run_underlying hslice, Result.andThen_ok, hτ.szOf hi, if_neg hnb, Sem.run_pure]
      by_cases hz0 : n * τ.sz e = 0
      · have hzc0 : zc = #[] := by simp [zc, hz0]
        rw [hzc0] at hf'
        simp only [hz0, if_true, Sem.run_pure, Result.andThen_ok, Array.range_zero', Array.map_empty, hf', newRow, Sem.run_bind, run_newObj]
        rfl
      · simp only [hz0, if_false, zeroValue, typeInfo, Sem.run_bind, run_program, Result.andThen_ok, h1, h4, Sem.run_pure]
        rw [show Instr.fill (fun i => some (i * τ.sz e, τ.sz e)) ((Array.range (n * τ.sz e)).map fun x => z.cells[x % z.cells.size]!) (parts.map fun (i, x) => (i, a.eval x)).toList = some cells from hf']
        simp only [newRow, Sem.run_bind, run_newObj, Result.andThen_ok, Sem.run_pure]
        rfl
    obtain ⟨E', g1, g2, g3, g4, hkp, hd1, g7, g8⟩ := hd.demoteL cs
    rw [forceL_eq]
    have hc' : L0 (vd1 E' (demoteL cs rw') w) (resSL (demoteL cs rw') cs) cells.toList := resSL_vd (hc.mono fun x u _ h => g7 x u h)
    have hcl : cells.size = n * kdSz k := by
      have h1 := hc.1
      rw [hl0, flatZeros_len, hz1.1, hzl, hsz'] at h1
      simpa using h1.symm
    have hlen : (resSL (demoteL cs rw') cs).length = n * kdSz k := by rw [hc'.1]; simpa using hcl
    have hfin : ∀ r ent lo t, mkRow k (chunks (kdSz k) n (resSL (demoteL cs rw') cs)) = some r → ent.mine = some (lo, r) → (lo = r.len ∧ t = Tag.new ∨ lo = 0 ∧ t = .any) → (r.flat = true ∨ ∀ x, x ∈ resSL (demoteL cs rw') cs → tagLe t x) →
        OpGood P τ w0 E as o a w ⟨(d, .own (dep + d)) :: fr, stk, bx, upd (demoteL cs rw') (dep + d) ent, dep⟩ := by
      intro r ent lo t hr hm hlo ht
      obtain ⟨hkd, hrl, _⟩ := mkRow_fit hr
      rw [chunks_len] at hrl
      have hrsz : r.sz = kdSz k := by unfold Rw.sz; rw [hkd]
      have hmade := made_cells hr hc' hlen t ht
      have hv : ∀ g, (Value.slice (some ⟨w.heap.size, 0, none⟩) n n).ownBlock = some g → w.heap.size ≤ g ∧ g < (w.alloc (.cells cells e)).heap.size := by
        intro g hg
        simp [Value.ownBlock] at hg
        subst hg
        simp
      have hnn : n ≤ 16777216 := by
        have : n * 1 ≤ n * τ.sz e := Nat.mul_le_mul_left _ (by omega)
        omega
      have hd2 := hd1.newRow (dep + d) hno (w.alloc (.cells cells e)) (World.grownBy_alloc w _ none) (.slice (some ⟨w.heap.size, 0, none⟩) n n) ent lo r hm cells.toList hv
        (by unfold Rw.bts; rw [hkd, hrl]; have : kdBytes k ≤ 112 := by unfold kdBytes; split <;> omega
            calc n * kdBytes k ≤ 16777216 * 112 := Nat.mul_le_mul hnn this
              _ ≤ _ := by omega)
        (by rw [hrl, hrsz, hkd, het]; exact ownsRow_alloc _ _ _ _ _ hd1.Mh (by unfold maxLen; omega) hcl)
        (fun i j x hi hx => by
          obtain ⟨u, hu, hcd⟩ := hmade i j x hi hx
          refine ⟨u, hu, ?_⟩
          have hcd' : cd1 w (E'.F (if i < lo then .new else .any)) x u := by
            rcases hlo with ⟨rfl, rfl⟩ | ⟨rfl, rfl⟩
            · rw [if_pos hi]; exact hcd
            · rw [if_neg (by omega)]; exact hcd
          exact cd1_add hcd' (fun g _ hg => Below.heap_alloc w _ g hg) (fun g hg => .inl (hv g hg).1))
      refine opGood_value (E' := E'.add (dep + d) (.slice (some ⟨w.heap.size, 0, none⟩) n n)) hrun ?_ g1 g2
      rw [hdd]
      refine put_ptr d hd2 ?_ (hdst d hdd)
      simp only [vd3, vd2, vd1, vd0, lk_upd, if_true]
      cases ent with
      | own r => simp [Env.add]
      | part lo r => simp [Env.add]
      | shared t r => simp [Ent.mine] at hm
    rw [hsz']
    split
    · rename_i r hr
      split
      · rename_i hfl
        exact hfin r _ r.len .new hr rfl (.inl ⟨rfl, rfl⟩) (.inl hfl)
      · rename_i hfl hall
        exact hfin r _ r.len .new hr rfl (.inl ⟨rfl, rfl⟩) (.inr fun x hx => allNew_mem hall hx)
      · rename_i hfl hall
        exact hfin r _ 0 .any hr rfl (.inr ⟨rfl, rfl⟩) (.inr fun x hx => by cases x <;> simp [tagLe])
    · trivial
end
end Go.Proofs.Ytmgccphapkmmeaa
