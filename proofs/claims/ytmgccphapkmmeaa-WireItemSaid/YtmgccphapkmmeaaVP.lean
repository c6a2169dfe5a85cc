/- A symbolic executor for loaded Go code: each step is the machine's: make, slices, append. -/
import Derived.Test.YtmgccphapkmmeaaVN
import Derived.Maps.AppendAt
namespace Go.Proofs.Ytmgccphapkmmeaa
open Go.RowKit

section
variable {P : Program} {τ : Tys} {w0 : World} {E : Env} {as : List (Array Value)} {a : Act} {w : World}
variable {s : St} {bs : List (Array Value)} {o : Oper}
variable {fr : List (Nat × SV)} {stk : List (List (Nat × SV))} {bx : List (Nat × (TypeId × List SV))} {rw' : List (Nat × Ent)} {dep : Nat}

/-! ### Slices -/
theorem bounds_run (b : Bool) (n cap : Nat) (lo hi : Option Value) (l h : Int) (hl : (lo = none ∧ l = 0) ∨ ∃ k, lo = some (.int k l)) (hh : (hi = none ∧ h = n) ∨ ∃ k, hi = some (.int k h)) (h0 : 0 ≤ l) (h1 : l ≤ h) (h2 : h ≤ n) (h3 : n ≤ cap) :
    (Instr.sliceBounds b n cap lo hi none).run P w = .ok (l.toNat, h.toNat, cap) w := by
  have ehn : (h.toNat : Int) = h := Int.toNat_of_nonneg (by omega)
  have h4 : 0 ≤ h := by omega
  have h5 : h ≤ cap := by omega
  rcases hl with ⟨rfl, rfl⟩ | ⟨k, rfl⟩ <;> rcases hh with ⟨rfl, rfl⟩ | ⟨k', rfl⟩ <;>
    simp [Instr.sliceBounds, Instr.sliceBound, asIntOf, h0, ehn, h1, h4, h5]
theorem bound_ok (hd : Den τ w0 E s (a.tmps :: as) w) {d : Int} {x : Option Operand} {n : Int} (h : bound τ s d x = some n) : (x.map a.eval = none ∧ n = d) ∨ ∃ k, x.map a.eval = some (.int k n) := by
  unfold bound at h
  split at h
  · injection h with h; exact .inl ⟨rfl, h.symm⟩
  · rename_i y
    split at h
    · rename_i k m hm
      injection h with h
      subst h
      have := hd.get y
      rw [hm] at this
      exact .inr ⟨k, congrArg some this⟩
    · simp at h
theorem sub_den {F : Nat → Prop} {r : Rw} {v : Value} (hv : RowDen w F r v) (l h : Nat) (hl : l ≤ h) (hh : h ≤ r.len) : ∃ A c, v = .slice A r.len c ∧ r.len ≤ c ∧
    RowDen w F (r.sub l h) (.slice (if c = l then A else A.map (·.add (l * r.sz))) (h - l) (c - l)) := by
  obtain ⟨hkd, hlen, hcell⟩ := sub_cell l h r hl hh
  obtain ⟨h0, A, c, rfl, hn, hc⟩ := hv
  have hsz : (r.sub l h).sz = r.sz := Rw.sz_of_kd hkd
  refine ⟨A, c, rfl, hn, ?_, _, c - l, by rw [hlen], by rw [hlen]; omega, fun hp => ?_⟩
  · have : (r.sub l h).bts = r.bts := by unfold Rw.bts; rw [hkd]
    rw [this, hlen]
    exact Nat.le_trans (Nat.mul_le_mul_right _ (by omega)) h0
  · rw [hlen] at hp
    obtain ⟨ad, rfl, hs, hF, hcd⟩ := hc (by omega)
    have hne : c ≠ l := by omega
    have hb : (ad.add (l * r.sz)).block = ad.block := by unfold Addr.add; split <;> rfl
    refine ⟨ad.add (l * r.sz), by simp [hne], ?_, by rw [hb]; exact hF, fun i j x hi hx => ?_⟩
    · unfold Addr.add; split <;> simp [hs]
    · rw [hlen] at hi
      rw [hcell _ i hi] at hx
      obtain ⟨u, hu, hd⟩ := hcd (l + i) j x (by omega) hx
      refine ⟨u, ?_, hd⟩
      rw [add_add hs, hsz]
      rw [show l * r.sz + (i * r.sz + j) = (l + i) * r.sz + j by rw [Nat.add_mul]; omega]
      exact hu
theorem slice_run (hτ : TysOk P τ) {T e : TypeId} (htd : τ.td T = .slice e) {sz : Nat} (hsz : (sizeOf e).run P w = .ok sz w) {A : Option Addr} {n c : Nat} {lo hi : Option Value} {l h : Int}
    (hl : (lo = none ∧ l = 0) ∨ ∃ k, lo = some (.int k l)) (hh : (hi = none ∧ h = n) ∨ ∃ k, hi = some (.int k h)) (h0 : 0 ≤ l) (h1 : l ≤ h) (h2 : h ≤ n) (h3 : n ≤ c) :
    (Instr.sliceAt T (.slice A n c) lo hi none).run P w = .ok (.slice (if c = l.toNat then A else A.map (·.add (l.toNat * sz))) (h.toNat - l.toNat) (c - l.toNat)) w := by
  have hs := hτ.slice htd
  have hb := bounds_run (P := P) (w := w) true n c lo hi l h hl hh h0 h1 h2 h3
  simp [Instr.sliceAt, Instr.slice, run_underlying hs, hb, hsz]
theorem size_of_beq (hτ : TysOk P τ) {e : TypeId} {r : Rw} (h : Nat.beq (τ.sz e) r.sz = true) : (sizeOf e).run P w = .ok r.sz w := by
  have hsz' : τ.sz e = r.sz := Nat.eq_of_beq_eq_true h
  cases hc : τ.ti e with
  | none => have := sz_pos r; simp [Tys.sz, hc] at hsz'; omega
  | some i => rw [← hsz']; exact hτ.szOf hc w
theorem slice_good (hτ : TysOk P τ) (hd : Den τ w0 E ⟨fr, stk, bx, rw', dep⟩ (a.tmps :: as) w) (hdst : ∀ t, o.dst = some t → t < a.tmps.size) (T : TypeId) (x : Operand) (lo hi mx : Option Operand) (ho : o.op = .slice T x lo hi mx) :
    (stepSlice τ T x lo hi mx o.dst ⟨fr, stk, bx, rw', dep⟩).good (OpGood P τ w0 E as o a w) := by
  unfold stepSlice
  split
  · trivial
  simp only [SV.force_eq]
  have hx := hd.get x
  split
  rotate_left
  · trivial
  rename_i n hn
  split
  rotate_left
  · trivial
  rename_i l h hl hh
  have hlo := bound_ok hd hl
  have hhi := bound_ok hd hh
  split
  · -- a string
    rename_i b htd hb
    rw [hb] at hx hn
    obtain hx : a.eval x = .string b := hx
    injection hn with hn
    intro hp
    obtain ⟨d, hu, hd1⟩ := hτ.td htd (by simp)
    obtain rfl : d = _ := hd1
    have hbr := bounds_run (P := P) (w := w) false b.size b.size (lo.map a.eval) (hi.map a.eval) l h hlo (by rw [hn]; exact hhi) hp.1 hp.2.1 (by rw [hn]; exact hp.2.2) (Nat.le_refl _)
    refine opGood_value (v := .string (b.extract l.toNat h.toNat)) (w' := w) ?_ (hd.put rfl hdst) rfl rfl
    simp only [execOp, ho, Option.map_none, hx, Instr.sliceAt, Instr.slice, Sem.run_bind, run_underlying hu, Result.andThen_ok, Option.isSome_none, Bool.false_eq_true, if_false, hbr, Sem.run_pure]
  · -- a row
    rename_i e t r htd hr
    rw [hr] at hx hn
    simp only [lenOf, Rw.lenK_eq] at hn
    injection hn with hn
    subst hn
    split
    rotate_left
    · trivial
    rename_i hsz
    intro hp
    obtain ⟨A, c, hv, hc, hden⟩ := sub_den (show RowDen w (E.F t) r (a.eval x) from hx) l.toNat h.toNat (by omega) (by omega)
    refine opGood_value (w' := w) ?_ (hd.put (show vd3 E rw' w (.row t (r.sub l.toNat h.toNat)) _ from hden) hdst) rfl rfl
    simp only [execOp, ho, Option.map_none, hv, Sem.run_bind, slice_run hτ htd (size_of_beq hτ hsz) hlo hhi hp.1 hp.2.1 hp.2.2 hc, Result.andThen_ok]
    rfl
  · -- an own row
    rename_i e k htd hk
    rw [hk] at hx hn
    obtain ⟨E', g1, g2, g3, g4, hkp, hs, h7, hd1⟩ := hd.demote k
    have hx' : vd3 E' (demote1 rw' k) w (.own k) (a.eval x) := vd3.keeps hkp ⟨fun j _ => ⟨by rw [g4], h7 j⟩, fun j _ => by rw [g3]⟩ hx
    split
    rotate_left
    · trivial
    rename_i t r hR
    simp only [vd3, vd2, vd1, vd0] at hx'
    rw [hR] at hx'
    split
    rotate_left
    · trivial
    rename_i hsz
    intro hp
    obtain ⟨A, c, hv, hc, hden⟩ := sub_den (show RowDen w (E'.F t) r (a.eval x) from hx') l.toNat h.toNat (by omega) (by
      -- the length is the entry's
      have hnr : n = r.len := by
        simp only [lenOf] at hn
        cases hk0 : lk rw' k with
        | none => rw [hk0] at hn; simp at hn
        | some e0 =>
          rw [hk0] at hn
          simp only [Rw.lenK_eq] at hn
          injection hn with hn
          simp only [demote1, hk0, lk_upd, if_true] at hR
          injection hR with hR
          injection hR with _ hR
          rw [← hR]
          exact hn.symm
      omega)
    have hnr : n = r.len := by
      simp only [lenOf] at hn
      cases hk0 : lk rw' k with
      | none => rw [hk0] at hn; simp at hn
      | some e0 =>
        rw [hk0] at hn
        simp only [Rw.lenK_eq] at hn
        injection hn with hn
        simp only [demote1, hk0, lk_upd, if_true] at hR
        injection hR with hR
        injection hR with _ hR
        rw [← hR]
        exact hn.symm
    subst hnr
    refine opGood_value (w' := w) ?_ (hd1.put (show vd3 E' (demote1 rw' k) w (.row t (r.sub l.toNat h.toNat)) _ from hden) hdst) g1 g2
    simp only [execOp, ho, Option.map_none, hv, Sem.run_bind, slice_run hτ htd (size_of_beq hτ hsz) hlo hhi hp.1 hp.2.1 hp.2.2 hc, Result.andThen_ok]
    rfl
  · trivial

/-! ### Append -/
/-- What is appended: its cells, and where they lie. -/
theorem src_ok (hd : Den τ w0 E s bs w) {x : SV} {v : Value} {t : Tag} {r : Rw} (hx : vd3 E s.rows w x v) (h : srcOf s.rows x = some (t, r)) :
    ∃ A c news, v = .slice A r.len c ∧ r.len ≤ c ∧ r.len * r.bts ≤ 140737488355328 ∧ (news : List Value).length = r.len * r.sz ∧ (0 < r.len → ∃ ad, A = some ad ∧ ∀ (j : Nat) u, news[j]? = some u → w.cell? (ad.add j) = some u) ∧
      ∀ i j x, i < r.len → (r.cell .any i)[j]? = some x → ∃ u, news[i * r.sz + j]? = some u ∧ cd1 w (E.F t) x u := by
  have rowCase : ∀ v, RowDen w (E.F t) r v → ∃ A c news, v = .slice A r.len c ∧ r.len ≤ c ∧ r.len * r.bts ≤ 140737488355328 ∧ (news : List Value).length = r.len * r.sz ∧ (0 < r.len → ∃ ad, A = some ad ∧ ∀ (j : Nat) u, news[j]? = some u → w.cell? (ad.add j) = some u) ∧
      ∀ i j x, i < r.len → (r.cell .any i)[j]? = some x → ∃ u, news[i * r.sz + j]? = some u ∧ cd1 w (E.F t) x u := by
    rintro v ⟨h0, A, c, hv, hn, hc⟩
    by_cases hp : 0 < r.len
    · obtain ⟨ad, hA, hs, hF, hcd⟩ := hc hp
      have hsp := sz_pos r
      obtain ⟨news, hl, hnews⟩ := exists_list (p := fun (_ : Nat) (j : Nat) u => w.cell? (ad.add j) = some u ∧ ∀ y, (r.cell .any (j / r.sz))[j % r.sz]? = some y → cd1 w (E.F t) y u) (List.range (r.len * r.sz)) fun j x hj => by
        have hjx : x < r.len * r.sz := by
          have := List.mem_of_getElem? hj
          simpa using this
        have h1 : x / r.sz < r.len := Nat.div_lt_of_lt_mul (by rw [Nat.mul_comm]; exact hjx)
        have h2 : x % r.sz < (r.cell .any (x / r.sz)).length := by rw [cell_len]; exact Nat.mod_lt _ hsp
        obtain ⟨u, hu, hd⟩ := hcd (x / r.sz) (x % r.sz) _ h1 (List.getElem?_eq_getElem h2)
        rw [show x / r.sz * r.sz + x % r.sz = x by rw [Nat.mul_comm]; exact Nat.div_add_mod x r.sz] at hu
        refine ⟨u, hu, fun y hy => ?_⟩
        rw [List.getElem?_eq_getElem h2] at hy
        injection hy with hy
        rw [← hy]
        exact hd
      have hll : news.length = r.len * r.sz := by rw [← hl]; simp
      refine ⟨A, c, news, hv, hn, h0, hll, fun _ => ⟨ad, hA, fun j u hu => ?_⟩, fun i j x hi hx => ?_⟩
      · have hj : j < r.len * r.sz := by rw [← hll]; exact (List.getElem?_eq_some_iff.1 hu).1
        obtain ⟨u', hu', h1, _⟩ := hnews j j (by simp [hj])
        rw [hu] at hu'
        injection hu' with hu'
        rw [hu']
        exact h1
      · have hj : j < r.sz := by
          have := (List.getElem?_eq_some_iff.1 hx).1
          rwa [cell_len] at this
        have hlt : i * r.sz + j < r.len * r.sz := by
          have : (i + 1) * r.sz ≤ r.len * r.sz := Nat.mul_le_mul_right _ hi
          rw [Nat.succ_mul] at this
          omega
        obtain ⟨u, hu, _, h2⟩ := hnews (i * r.sz + j) (i * r.sz + j) (by simp [hlt])
        have hdiv : (i * r.sz + j) / r.sz = i := by
          rw [Nat.mul_comm, Nat.mul_add_div hsp, Nat.div_eq_of_lt hj]
          omega
        have hmod : (i * r.sz + j) % r.sz = j := by rw [Nat.mul_comm, Nat.mul_add_mod, Nat.mod_eq_of_lt hj]
        exact ⟨u, hu, h2 x (by rw [hdiv, hmod]; exact hx)⟩
    · have : r.len = 0 := by omega
      exact ⟨A, c, [], hv, hn, h0, by simp [this], fun h => absurd h hp, fun i j x hi => by omega⟩
  have ownCase : ∀ k lo, OwnD τ E w k lo r → (t = .any ∨ (t = .new ∧ (r.len ≤ lo ∨ r.flat = true))) → ∃ A c news, E.hs k = .slice A r.len c ∧ r.len ≤ c ∧ r.len * r.bts ≤ 140737488355328 ∧ (news : List Value).length = r.len * r.sz ∧ (0 < r.len → ∃ ad, A = some ad ∧ ∀ (j : Nat) u, news[j]? = some u → w.cell? (ad.add j) = some u) ∧
      ∀ i j x, i < r.len → (r.cell .any i)[j]? = some x → ∃ u, news[i * r.sz + j]? = some u ∧ cd1 w (E.F t) x u := by
    intro k lo hO ht
    obtain ⟨us, hrow, hcell⟩ := hO.row
    have hcd : ∀ i j x, i < r.len → (r.cell .any i)[j]? = some x → ∃ u, us[i * r.sz + j]? = some u ∧ cd1 w (E.F t) x u := by
      intro i j x hi hx
      obtain ⟨u, hu, hd⟩ := hcell i j x hi hx
      refine ⟨u, hu, ?_⟩
      rcases ht with rfl | ⟨rfl, ht | ht⟩
      · exact cd1.any hd
      · rw [if_pos (by omega)] at hd; exact hd
      · exact (flat_sc ht hx _ _ _ _ u).1 hd
    rcases hrow.2 with ⟨hv, h0⟩ | ⟨g, cap, cur, hv, hg, hheap, hnc, _⟩
    · exact ⟨none, 0, us, by rw [hv, h0], by omega, hO.fits, hrow.1, fun h => by omega, hcd⟩
    · exact ⟨some ⟨g, 0, none⟩, cap, us, hv, hnc, hO.fits, hrow.1, fun _ => ⟨_, rfl, hrow.cells (g := g) (by rw [hv]; rfl)⟩, hcd⟩
  unfold srcOf at h
  split at h
  · injection h with h
    simp only [Prod.mk.injEq] at h
    obtain ⟨rfl, rfl⟩ := h
    exact rowCase v hx
  · injection h with h
    simp only [Prod.mk.injEq] at h
    obtain ⟨rfl, rfl⟩ := h
    obtain ⟨rfl, h0⟩ := hx
    exact rowCase _ (empty_row h0 _)
  · rename_i k
    split at h
    rotate_left
    · simp at h
    rename_i e hk
    injection h with h
    simp only [vd3, vd2, vd1, vd0] at hx
    rw [hk] at hx
    cases e with
    | own r' =>
      simp only [Ent.row, Prod.mk.injEq] at h
      obtain ⟨rfl, rfl⟩ := h
      obtain rfl : v = _ := hx
      exact ownCase k _ (hd.own k _ _ r' hk rfl) (.inr ⟨rfl, .inl (Nat.le_refl _)⟩)
    | part lo r' =>
      obtain rfl : v = _ := hx
      simp only [Ent.row, Prod.mk.injEq] at h
      obtain ⟨h1, rfl⟩ := h
      refine ownCase k lo (hd.own k _ _ r' hk rfl) ?_
      split at h1
      · rename_i hf; exact .inr ⟨h1.symm, .inr hf⟩
      · exact .inl h1.symm
    | shared t' r' =>
      simp only [Ent.row, Prod.mk.injEq] at h
      obtain ⟨rfl, rfl⟩ := h
      exact rowCase v hx
  · simp at h
theorem run_append_zero {T e : TypeId} (ht : P.underlying T = some (.slice e)) {i : TypeInfo} (hi : P.info? e = some i) (ty : TypeId) {base : Nat} {size n : Nat} {v : Value} {xs : List Value} (hown : w.ownsRow base e size v n xs) (A : Option Addr) (c : Nat) :
    (Builtin.append_ #[T, T] ty #[v, .slice A 0 c]).run P w = .ok v w := by
  have hf : (Builtin.firstCells i.size 0 (.slice A 0 c)).run P w = .ok #[] w := by cases A <;> simp [Builtin.firstCells, loadCells, loadCellsFrom]
  rcases hown.2 with ⟨rfl, rfl⟩ | ⟨g, cap, cur, rfl, _, _, hnc, _⟩
  · simp [Builtin.append_, run_underlying ht, sizeOf, typeInfo, hi, Builtin.lenOf, hf]
  · simp [Builtin.append_, run_underlying ht, sizeOf, typeInfo, hi, Builtin.lenOf, hf, hnc, storeCells]
/-- What an append comes to. -/
theorem append_run (hτ : TysOk P τ) (hd : Den τ w0 E s bs w) {T e : TypeId} (htd : τ.td T = .slice e) {kd : Nat} (hrk : τ.rk e = some kd) (ty : TypeId) {r1 r2 r : Rw} (h1 : r1.kd = kd) (h2 : r2.kd = kd) (happ : r1.app r2 = some r)
    {v : Value} {us : List Value} (hown : w.ownsRow E.M (τ.et r1.kd) r1.sz v r1.len us) {y : SV} {vy : Value} (hy : vd3 E s.rows w y vy) {t : Tag} (hsrc : srcOf s.rows y = some (t, r2)) (hbytes : (r1.len + r2.len) * r2.bts ≤ 140737488355328) :
    ∃ v' w' us', (Builtin.append_ #[T, T] ty #[v, vy]).run P w = .ok v' w' ∧ w'.ownsRow E.M (τ.et r.kd) r.sz v' r.len us' ∧ w.grownBy w' v.ownBlock ∧ (v'.ownBlock = v.ownBlock ∨ v'.ownBlock = some w.heap.size) ∧
      (∀ i j, i < r1.len → j < r1.sz → us'[i * r.sz + j]? = us[i * r1.sz + j]?) ∧
      ∀ i j x, i < r2.len → (r2.cell .any i)[j]? = some x → ∃ u, us'[(r1.len + i) * r.sz + j]? = some u ∧ cd1 w (E.F t) x u := by
  obtain ⟨hk10, het, ti, hti, hsz, hby, _⟩ := hτ.rk e kd hrk
  obtain ⟨x, z, g1, g2, g3, g4, g5, g6⟩ := (hτ.ti e ti hti).info
  have hs := hτ.slice htd
  obtain ⟨hkd1, hkd2, hlen, hc1, hc2⟩ := app_cell happ
  have e1 : r1.sz = kdSz kd := by unfold Rw.sz; rw [h1]
  have e2 : r2.sz = kdSz kd := by unfold Rw.sz; rw [h2]
  have e3 : r.sz = kdSz kd := by unfold Rw.sz; rw [hkd1, h1]
  have e4 : r.kd = kd := by rw [hkd1, h1]
  have e5 : r2.bts = kdBytes kd := by unfold Rw.bts; rw [h2]
  obtain ⟨A, c, news, rfl, hnc, hfit, hnl, hcell, hcd⟩ := src_ok hd hy hsrc
  have hone : ∀ u ∈ news, u.oneCell' = true := by
    intro u hu
    obtain ⟨m, hm, rfl⟩ := List.getElem_of_mem hu
    have hsp := sz_pos r2
    have hm' : m < r2.len * r2.sz := by rw [← hnl]; exact hm
    have hi : m / r2.sz < r2.len := Nat.div_lt_of_lt_mul (by rw [Nat.mul_comm]; exact hm')
    have hj : m % r2.sz < (r2.cell .any (m / r2.sz)).length := by rw [cell_len]; exact Nat.mod_lt _ hsp
    obtain ⟨u, hu, hd⟩ := hcd _ _ _ hi (List.getElem?_eq_getElem hj)
    rw [show m / r2.sz * r2.sz + m % r2.sz = m by rw [Nat.mul_comm]; exact Nat.div_add_mod m r2.sz, List.getElem?_eq_getElem hm] at hu
    injection hu with hu
    rw [hu]
    generalize (r2.cell .any (m / r2.sz))[m % r2.sz] = q at hd
    cases q <;> first
      | exact hd.elim
      | (obtain rfl : u = _ := hd; rfl)
      | (obtain ⟨_, A, c, rfl, _⟩ := hd; rfl)
  have hcells : ∀ us0 : List Value, us0.length = r1.len * r1.sz → (∀ i j, i < r1.len → j < r1.sz → (us0 ++ news)[i * r.sz + j]? = us0[i * r1.sz + j]?) ∧ ∀ i j x, i < r2.len → (r2.cell .any i)[j]? = some x → ∃ u, (us0 ++ news)[(r1.len + i) * r.sz + j]? = some u ∧ cd1 w (E.F t) x u := by
    intro us0 hul
    refine ⟨fun i j hi hj => ?_, fun i j x hi hx => ?_⟩
    · rw [e3, e1]
      have : (i + 1) * kdSz kd ≤ r1.len * kdSz kd := Nat.mul_le_mul_right _ hi
      rw [Nat.succ_mul] at this
      rw [e1] at hj hul
      rw [List.getElem?_append_left (by omega)]
    · obtain ⟨u, hu, hd⟩ := hcd i j x hi hx
      refine ⟨u, ?_, hd⟩
      rw [e1] at hul
      rw [e3, Nat.add_mul, List.getElem?_append_right (by omega)]
      rw [show r1.len * kdSz kd + i * kdSz kd + j - us0.length = i * kdSz kd + j by omega, ← e2]
      exact hu
  by_cases hp : 0 < r2.len
  · obtain ⟨ad, rfl, hnews⟩ := hcell hp
    have h63 : r1.len + r2.len ≤ maxLen := by
      have hb : 1 ≤ r2.bts := by rw [e5]; unfold kdBytes; split <;> omega
      have : (r1.len + r2.len) * 1 ≤ (r1.len + r2.len) * r2.bts := Nat.mul_le_mul_left _ hb
      unfold maxLen
      omega
    obtain ⟨v', w', hr, ho, hg, _, hat⟩ := run_append_own_at (P := P) w E.M T ty e x z r1.sz r2.bts hs g1 g4 (by rw [g2, hsz, e1]) (by rw [g3, hby, e5]) (by rw [g5, hsz, e1]) (sz_pos r1) v r1.len us
      (by rw [← het, ← h1]; exact hown) ad r2.len c news (by rw [hnl, e1, e2]) hnews hone h63 hbytes hd.Mh
    have hc := hcells us hown.1
    exact ⟨v', w', us ++ news, hr, by rw [e4, het, e3, ← e1, hlen]; exact ho, hg, hat, hc.1, hc.2⟩
  · have h0 : r2.len = 0 := by omega
    have hr := run_append_zero (P := P) (w := w) hs g1 ty (by rw [← het, ← h1]; exact hown) A c
    refine ⟨v, w, us, by rw [h0]; exact hr, by rw [e4, e3, ← e1, hlen, h0, ← h1]; exact hown, ⟨rfl, rfl, rfl, Nat.le_refl _, fun _ _ _ => rfl⟩, .inl rfl, fun i j _ _ => by rw [e3, e1], fun i j x hi => by omega⟩
end
end Go.Proofs.Ytmgccphapkmmeaa
