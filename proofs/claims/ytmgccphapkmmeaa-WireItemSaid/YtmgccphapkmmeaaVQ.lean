/- A symbolic executor for loaded Go code: each step is the machine's: append, make; one step. -/
import Derived.Test.YtmgccphapkmmeaaVP
namespace Go.Proofs.Ytmgccphapkmmeaa
open Go.RowKit

section
variable {P : Program} {τ : Tys} {w0 : World} {E : Env} {as : List (Array Value)} {a : Act} {w : World}
variable {s : St} {bs : List (Array Value)} {o : Oper}
variable {fr : List (Nat × SV)} {stk : List (List (Nat × SV))} {bx : List (Nat × (TypeId × List SV))} {rw' : List (Nat × Ent)} {dep : Nat}

theorem tag_up {t : Tag} {r : Rw} {i j : Nat} {x : SV} {u : Value} (hx : (r.cell .any i)[j]? = some x) (h : cd1 w (E.F t) x u) (ht : tagOk t r = true) : cd1 w (E.F .new) x u := by
  unfold tagOk at ht
  split at ht
  · rename_i hf; exact (flat_sc hf hx _ _ _ _ u).1 h
  · cases t with
    | new => exact h
    | _ => simp [Tag.isNew] at ht
theorem kd_flat {r r' : Rw} (h : r.kd = r'.kd) : r.flat = r'.flat := by cases r <;> cases r' <;> first | rfl | simp [Rw.kd] at h
theorem append_good (hτ : TysOk P τ) (hd : Den τ w0 E ⟨fr, stk, bx, rw', dep⟩ (a.tmps :: as) w) (hdst : ∀ t, o.dst = some t → t < a.tmps.size) (c : Call) (T : TypeId) (x y : Operand) (ho : o.op = .call c) (hb : c.callee = .builtin .append) (hx : c.args.toList = [x, y]) (hT : c.argTypes.toList = [T, T]) :
    (stepAppend τ T x y o.dst ⟨fr, stk, bx, rw', dep⟩).good (OpGood P τ w0 E as o a w) := by
  have hargs : c.args = #[x, y] := by rw [← Array.toArray_toList (xs := c.args), hx]
  have hts : c.argTypes = #[T, T] := by rw [← Array.toArray_toList (xs := c.argTypes), hT]
  have hrun : ∀ v' w', (Builtin.append_ #[T, T] o.type #[a.eval x, a.eval y]).run P w = .ok v' w' → (execOp a.eval o).run P w = .ok (.value v') w' := by
    intro v' w' h
    simp only [execOp, ho, resolve, hb, hargs, hts, invoke, builtin, Sem.run_bind, Sem.run_pure, Result.andThen_ok]
    simp [h]
  unfold stepAppend
  dsimp only
  split
  rotate_left
  · trivial
  rename_i e d htd hdd
  simp only [SV.force_eq]
  have hvx := hd.getT T x
  have hvy := hd.getT T y
  split
  rotate_left
  · trivial
  rename_i t r2 kd hsrc hrk
  split
  rotate_left
  · trivial
  rename_i hk2
  have hk2 := Nat.eq_of_beq_eq_true hk2
  split
  · -- onto nil
    rename_i r1 hr1
    rw [hr1] at hvx
    obtain ⟨hvx, h0⟩ := hvx
    split
    rotate_left
    · trivial
    rename_i r hk1 happ hno
    have hk1 := Nat.eq_of_beq_eq_true hk1
    have key : ∀ ent lo, ent.mine = some (lo, r) → (lo = 0 ∨ tagOk t r2 = true) → r2.len * r2.bts ≤ 140737488355328 → OpGood P τ w0 E as o a w ⟨(d, .own (dep + d)) :: fr, stk, bx, upd rw' (dep + d) ent, dep⟩ := by
      intro ent lo hm hlo hbytes
      obtain ⟨v', w', us', hr, hown, hg, hat, _, hc2⟩ := append_run hτ hd htd hrk o.type hk1 hk2 happ (v := .slice none 0 0) (us := []) (by rw [h0]; exact World.ownsRow_nil w _ _ _) hvy hsrc (by rw [h0, Nat.zero_add]; exact hbytes)
      obtain ⟨e1, e2, hlen, _, hcr⟩ := app_cell happ
      have hbts : r.bts = r2.bts := by unfold Rw.bts; rw [e2]
      have hblk : ∀ g, v'.ownBlock = some g → w.heap.size ≤ g ∧ g < w'.heap.size := by
        intro g hg'
        refine ⟨?_, (hown.lt g hg').2⟩
        rcases hat with hat | hat
        · rw [hat] at hg'; simp [Value.ownBlock] at hg'
        · rw [hat] at hg'; injection hg' with hg'; omega
      have hd2 := hd.newRow (dep + d) hno w' (by simpa [Value.ownBlock] using hg) v' ent lo r hm us' hblk (by rw [hbts, hlen, h0, Nat.zero_add]; exact hbytes) hown (fun i j x hi hx => by
        rw [hlen, h0, Nat.zero_add] at hi
        have hcell := hcr .any i
        rw [h0, Nat.zero_add] at hcell
        rw [hcell] at hx
        obtain ⟨u, hu, hcd⟩ := hc2 i j x hi hx
        rw [h0, Nat.zero_add] at hu
        refine ⟨u, hu, cd1_add (w := w) ?_ (fun g _ hlt => hg.block g hlt (by simp [Value.ownBlock])) (fun g hg' => .inl (hblk g hg').1)⟩
        split
        · rename_i hi2
          rcases hlo with rfl | hlo
          · omega
          · exact tag_up hx hcd hlo
        · exact cd1.any hcd)
      refine opGood_value (E' := E.add (dep + d) v') (hrun _ _ (by rw [hvx]; exact hr)) ?_ rfl rfl
      rw [hdd]
      refine put_ptr d hd2 ?_ (hdst d hdd)
      simp only [vd3, vd2, vd1, vd0, lk_upd, if_true]
      cases ent with
      | own r => simp [Env.add]
      | part lo r => simp [Env.add]
      | shared t r => simp [Ent.mine] at hm
    split
    · rename_i htag; exact key (.own r) r.len rfl (.inr htag)
    · exact key (.part 0 r) 0 rfl (.inl rfl)
  · -- onto an own row
    rename_i k hxk
    rw [hxk] at hvx
    simp only [vd3, vd2, vd1, vd0] at hvx
    have key : ∀ ent lo r1 ent' lo' r, lk rw' k = some ent → ent.mine = some (lo, r1) → r1.kd = kd → r1.app r2 = some r → ent'.mine = some (lo', r) → (∀ i, i < r1.len → i < lo' → i < lo) → (∀ i, r1.len ≤ i → i < lo' → tagOk t r2 = true) → a.eval x = E.hs k → (r1.len + r2.len) * r2.bts ≤ 140737488355328 →
        OpGood P τ w0 E as o a w ⟨(d, .own k) :: killF k fr, killS k stk, killB k bx, upd rw' k ent', dep⟩ := by
      intro ent lo r1 ent' lo' r hk hm hk1 happ hm' hold hnew hvx hbytes
      have hO := hd.own k ent lo r1 hk hm
      obtain ⟨us, hrow, hcell⟩ := hO.row
      obtain ⟨v', w', us', hr, hown, hg, hat, hc1, hc2⟩ := append_run hτ hd htd hrk o.type hk1 hk2 happ hrow hvy hsrc hbytes
      obtain ⟨e1, e2, hlen, hcl, hcr⟩ := app_cell happ
      have hbts : r.bts = r2.bts := by unfold Rw.bts; rw [e2]
      have hsz : r.sz = r1.sz := Rw.sz_of_kd e1
      have hblk : ∀ g, v'.ownBlock = some g → (w.heap.size ≤ g ∨ some g = (E.hs k).ownBlock) ∧ g < w'.heap.size := by
        intro g hg'
        refine ⟨?_, (hown.lt g hg').2⟩
        rcases hat with hat | hat
        · rw [hat] at hg'; exact .inr hg'.symm
        · rw [hat] at hg'; injection hg' with hg'; exact .inl (by omega)
      have hheap : ∀ g, ¬ E.ow g → g < w.heap.size → w'.heap[g]? = w.heap[g]? := fun g hg' hlt => hg.block g hlt fun e => hg' (hO.ow g e.symm)
      have hnb : ∀ g, v'.ownBlock = some g → w.heap.size ≤ g ∨ E.ow g := fun g hg' => (hblk g hg').1.imp id fun e => hO.ow g e.symm
      have hd2 := hd.growRow k w' hg hk hm v' ent' lo' r hm' us' hblk (by rw [hbts, hlen]; exact hbytes) hown (fun i j x hi hx => by
        by_cases h1 : i < r1.len
        · rw [hcl .any i h1] at hx
          obtain ⟨u, hu, hcd⟩ := hcell i j x h1 hx
          have hj : j < r1.sz := by
            have := (List.getElem?_eq_some_iff.1 hx).1
            rwa [cell_len] at this
          refine ⟨u, by rw [hc1 i j h1 hj]; exact hu, cd1_add (w := w) ?_ hheap hnb⟩
          split
          · rename_i hlo
            rw [if_pos (hold i h1 hlo)] at hcd
            exact hcd
          · exact cd1.any hcd
        · have hi2 : i = r1.len + (i - r1.len) := by omega
          rw [hi2, hcr .any (i - r1.len)] at hx
          obtain ⟨u, hu, hcd⟩ := hc2 (i - r1.len) j x (by omega) hx
          rw [← hi2] at hu
          refine ⟨u, hu, cd1_add (w := w) ?_ hheap hnb⟩
          split
          · rename_i hlo
            exact tag_up hx hcd (hnew i (by omega) hlo)
          · exact cd1.any hcd)
      refine opGood_value (E' := E.add k v') (hrun _ _ (by rw [hvx]; exact hr)) ?_ rfl rfl
      rw [hdd]
      refine put_ptr d hd2 ?_ (hdst d hdd)
      simp only [vd3, vd2, vd1, vd0, lk_upd, if_true]
      cases ent' with
      | own r => simp [Env.add]
      | part lo r => simp [Env.add]
      | shared t r => simp [Ent.mine] at hm'
    split
    · rename_i r1 hk
      rw [hk] at hvx
      split
      · rename_i r hk1 happ htag
        simp only [forceF_eq, forceS_eq, forceB_eq]
        intro hbytes
        exact key (.own r1) r1.len r1 (.own r) r.len r hk rfl (Nat.eq_of_beq_eq_true hk1) happ rfl (fun i h _ => h) (fun _ _ _ => htag) hvx hbytes
      rotate_left
      · trivial
      rename_i r hk1 happ htag
      simp only [forceF_eq, forceS_eq, forceB_eq]
      intro hbytes
      exact key (.own r1) r1.len r1 (.part r1.len r) r1.len r hk rfl (Nat.eq_of_beq_eq_true hk1) happ rfl (fun i h _ => h) (fun i h1 h2 => by omega) hvx hbytes
    · rename_i lo r1 hk
      rw [hk] at hvx
      split
      rotate_left
      · trivial
      rename_i r hk1 happ
      simp only [forceF_eq, forceS_eq, forceB_eq]
      rintro ⟨hbytes, hlo⟩
      exact key (.part lo r1) lo r1 (.part lo r) lo r hk rfl (Nat.eq_of_beq_eq_true hk1) happ rfl (fun i _ h => h) (fun i h1 h2 => by omega) hvx hbytes
    · trivial
  · trivial

/-! ### Make -/
theorem zeros_cell_at (k n i : Nat) (t : Tag) (hi : i < n) : (Rw.zeros k n).cell t i = (Rw.zeros k 1).cell t 0 := by
  unfold Rw.zeros
  split <;> simp [Rw.cell, List.getD_eq_getElem?_getD, List.getElem?_replicate, hi]
theorem make_good (hτ : TysOk P τ) (hd : Den τ w0 E ⟨fr, stk, bx, rw', dep⟩ (a.tmps :: as) w) (hdst : ∀ t, o.dst = some t → t < a.tmps.size) (T : TypeId) (x : Operand) (ho : o.op = .makeSlice T x x) :
    (stepMake τ T x o.dst ⟨fr, stk, bx, rw', dep⟩).good (OpGood P τ w0 E as o a w) := by
  unfold stepMake
  dsimp only
  split
  rotate_left
  · trivial
  rename_i e d htd hdd
  split
  rotate_left
  · trivial
  rename_i kd n hrk hn hno
  rintro ⟨h0, hbytes⟩
  have hx := hd.get x
  rw [hn] at hx
  obtain hx : a.eval x = .int .i64 n := hx
  obtain ⟨hk10, het, ti, hti, hsz, hby, hfit, hnorow⟩ := hτ.rk e kd hrk
  obtain ⟨y, z, g1, g2, g3, g4, g5, g6⟩ := (hτ.ti e ti hti).info
  have hs := hτ.slice htd
  obtain ⟨hzk, hzl⟩ := zeros_cell kd n.toNat hk10
  obtain ⟨m, rfl⟩ := Int.eq_ofNat_of_zero_le h0
  simp only [Int.toNat_natCast] at hzk hzl ⊢
  have hbm' : ((m * kdBytes kd : Nat) : Int) ≤ 140737488355328 := by rw [Int.natCast_mul]; exact hbytes
  have hbm : m * kdBytes kd ≤ 140737488355328 := by omega
  have hpos : 1 ≤ kdBytes kd := by unfold kdBytes; split <;> omega
  have hm1 : m * 1 ≤ m * kdBytes kd := Nat.mul_le_mul_left _ hpos
  obtain ⟨w', hr, hown, hg⟩ := run_make_full (P := P) w E.M T e y z (kdSz kd) hs g1 g4 (by rw [g2, hsz]) .i64 .i64 m (by rw [g3, hby, Nat.mul_comm]; omega) (by unfold maxLen; omega) hd.Mh
  have hzsz : (Rw.zeros kd m).sz = kdSz kd := by unfold Rw.sz; rw [hzk]
  have hblk : ∀ g, (Value.slice (some ⟨w.heap.size, 0, none⟩) m m).ownBlock = some g → w.heap.size ≤ g ∧ g < w'.heap.size := by
    intro g hg'
    refine ⟨?_, (hown.lt g hg').2⟩
    simp [Value.ownBlock] at hg'
    omega
  have hd2 := hd.newRow (dep + d) hno w' hg (.slice (some ⟨w.heap.size, 0, none⟩) m m) (.own (Rw.zeros kd m)) (Rw.zeros kd m).len (Rw.zeros kd m) rfl (madeCells z.cells (m * kdSz kd)).toList hblk
    (by unfold Rw.bts; rw [hzk, hzl]; exact hbm) (by rw [hzk, hzl, hzsz, het]; exact hown) (fun i j x hi hx => by
      rw [hzl] at hi
      rw [zeros_cell_at kd m i .any hi] at hx
      obtain ⟨y', hy', hfx⟩ := hfit.2 j x hx
      obtain ⟨u, hu, hv⟩ := (g6 E rw' w).2 j y' hy'
      have hj : j < kdSz kd := by
        have := (List.getElem?_eq_some_iff.1 hx).1
        rw [cell_len] at this
        have h1 := (zeros_cell kd 1 hk10).1
        unfold Rw.sz at this
        rw [h1] at this
        exact this
      have hlt : i * kdSz kd + j < m * kdSz kd := by
        have : (i + 1) * kdSz kd ≤ m * kdSz kd := Nat.mul_le_mul_right _ hi
        rw [Nat.succ_mul] at this
        omega
      refine ⟨u, ?_, ?_⟩
      · rw [hzsz]
        have hmod : (i * kdSz kd + j) % z.cells.size = j := by
          rw [g5, hsz, Nat.mul_comm, Nat.mul_add_mod, Nat.mod_eq_of_lt hj]
        have hz : z.cells[(i * kdSz kd + j) % z.cells.size]! = u := by
          rw [hmod]
          have hj2 : j < z.cells.size := by rw [g5, hsz]; exact hj
          rw [getElem!_pos z.cells j hj2]
          simpa [Array.getElem?_eq_getElem hj2] using hu
        simp only [madeCells, Array.toList_map, Array.toList_range, List.getElem?_map, List.getElem?_range hlt, Option.map_some]
        exact congrArg some hz
      · rw [if_pos (by omega)]
        have hvd1 : vd1 E rw' w y' u := by cases y' <;> first | exact hv | exact hv.elim
        have hcd : cd1 w (E.F .new) x u := hfx.cd hvd1 (by
          cases y' with
          | row t r => exact absurd (List.mem_of_getElem? hy') (hnorow t r)
          | _ => trivial)
        exact cd1_add (w := w) hcd (fun g _ hlt => hg.block g hlt (by simp)) (fun g hg' => .inl (hblk g hg').1))
  refine opGood_value (v := .slice (some ⟨w.heap.size, 0, none⟩) m m) (E' := E.add (dep + d) (.slice (some ⟨w.heap.size, 0, none⟩) m m)) (w' := w') ?_ ?_ rfl rfl
  · simp only [execOp, ho, hx, Sem.run_bind]
    rw [show (Instr.makeSlice T (.int .i64 ((m : Nat) : Int)) (.int .i64 ((m : Nat) : Int))).run P w = _ from hr]
    rfl
  · rw [hdd]
    refine put_ptr d hd2 ?_ (hdst d hdd)
    simp [vd3, vd2, vd1, vd0, lk_upd, Env.add]
end
end Go.Proofs.Ytmgccphapkmmeaa
