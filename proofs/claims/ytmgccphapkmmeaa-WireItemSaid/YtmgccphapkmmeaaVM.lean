/- A symbolic executor for loaded Go code: each step is the machine's: stores, indices, and what else there is. -/
import Derived.Test.YtmgccphapkmmeaaVL
namespace Go.Proofs.Ytmgccphapkmmeaa
open Go.RowKit

section
variable {P : Program} {τ : Tys} {w0 : World} {E : Env} {as : List (Array Value)} {a : Act} {w : World}
variable {s : St} {bs : List (Array Value)} {o : Oper}
variable {fr : List (Nat × SV)} {stk : List (List (Nat × SV))} {bx : List (Nat × (TypeId × List SV))} {rw' : List (Nat × Ent)} {dep : Nat}

theorem setRange_mem {α : Type} {vs : List α} {x : α} (hx : x ∈ vs) : ∀ (cs : List α) (off : Nat), off + vs.length ≤ cs.length → x ∈ setRange cs off vs := by
  intro cs off h
  rw [setRange_eq vs cs off h]
  simp [hx]
theorem allOne_resS {R : List (Nat × Ent)} {x : SV} : True := trivial
theorem store_good (hτ : TysOk P τ) (hd : Den τ w0 E ⟨fr, stk, bx, rw', dep⟩ (a.tmps :: as) w) (hdst : o.dst = none) (T : TypeId) (x v : Operand) (ho : o.op = .store T x v) :
    (stepStore τ T x v ⟨fr, stk, bx, rw', dep⟩).good (OpGood P τ w0 E as o a w) := by
  unfold stepStore
  simp only [SV.force_eq]
  split
  rotate_left
  · trivial
  rename_i i hlen hone hi
  have hx := hd.get x
  have hv := hd.getT T v
  have hlen' : (getT τ ⟨fr, stk, bx, rw', dep⟩ T v).cells.length = τ.sz T := Nat.eq_of_beq_eq_true hlen
  have hc := cells_vd hd.hs_one hv hone
  have hw1 : ∀ u ∈ (a.eval v).cells.toList, u.oneCell' = true := hc.one fun y u hy hp => vd1_one hd.hs_one hp (allOne_mem hone hy)
  have hvsz : (a.eval v).cells.size = τ.sz T := by have := hc.1; rw [hlen'] at this; simpa using this.symm
  have hrun : ∀ ad w', (storeCells ad (a.eval v).cells.toList).run P w = .ok () w' → a.eval x = .pointer (some ad) → (execOp a.eval o).run P w = .ok .skip w' := by
    intro ad w' h1 h2
    simp only [execOp, ho, Instr.storeAt, h2, Instr.sureAddr, storeVar, Sem.run_bind, Sem.run_pure, Result.andThen_ok, hτ.szOf hi, hvsz, ne_eq, not_true_eq_false, if_false, h1]
  split
  · -- a box
    rename_i k off hk
    rw [hk] at hx
    obtain hx : a.eval x = .pointer (some ⟨E.bs k, off, none⟩) := hx
    split
    · rename_i T' cs hb
      split
      · rename_i hle
        have hle' : off + τ.sz T ≤ cs.length := Nat.le_of_ble_eq_true hle
        rw [forceB_eq]
        obtain ⟨cur, hheap, hcu, hd'⟩ := hd.setBox hb (off := off) (by rw [hlen']; exact hle') hc
        have hst := run_storeCells_at P (E.bs k) off T' (a.eval v).cells.toList 0 cur w hheap (by simpa using hcu) hw1
        simp only [Nat.add_zero] at hst
        refine opGood_skip (hrun _ _ hst hx) ?_ rfl rfl
        rw [hdst]
        exact hd'
      · trivial
    · trivial
  · -- an element of an own row
    rename_i k j off hk
    rw [hk] at hx
    obtain ⟨E', g1, g2, g3, g4, hkp, hd1, g7, g8⟩ := hd.demoteL (getT τ ⟨fr, stk, bx, rw', dep⟩ T v).cells
    have hx' := g8 _ _ hx
    have hc' := resSL_vd (hc.mono fun x u _ h => g7 x u h)
    have hcl : (resSL (demoteL (getT τ ⟨fr, stk, bx, rw', dep⟩ T v).cells rw') (getT τ ⟨fr, stk, bx, rw', dep⟩ T v).cells).length = τ.sz T := by rw [hc'.1]; simpa using hvsz
    rw [forceL_eq]
    simp only [vd3, vd2, vd1, vd0] at hx'
    split
    · rename_i r hR
      rw [hR] at hx'
      obtain ⟨g, n, c, hh, h0, h1, hxv⟩ := hx'
      split
      · rename_i r' hset hnew hle
        have hle' : off + τ.sz T ≤ r.sz := Nat.le_of_ble_eq_true hle
        obtain ⟨w', hst, hd2⟩ := storeElem (P := P) hd1 hR rfl hh (i := j.toNat) (off := off) (by omega) hc' hw1 (by rw [hcl]; exact hle') .new hset (.own r') r'.len rfl
          (fun hi' => .inr ⟨fun x hx => allNew_mem hnew hx, .inl (by omega)⟩) (fun j' _ hj' => by
            have := (setE_fit hset (by omega)).2.1
            omega) (by simp) (fun _ => by omega)
        refine opGood_skip (hrun _ _ hst hxv) ?_ g1 g2
        rw [hdst]
        exact hd2
      · trivial
    · rename_i lo r hR
      rw [hR] at hx'
      obtain ⟨g, n, c, hh, h0, h1, hxv⟩ := hx'
      split
      · rename_i r' hset hle
        have hle' : off + τ.sz T ≤ r.sz := Nat.le_of_ble_eq_true hle
        have hlr : off + (resSL (demoteL (getT τ ⟨fr, stk, bx, rw', dep⟩ T v).cells rw') (getT τ ⟨fr, stk, bx, rw', dep⟩ T v).cells).length ≤ (r.cell .any j.toNat).length := by rw [hcl, cell_len]; exact hle'
        split
        · rename_i hnew
          obtain ⟨w', hst, hd2⟩ := storeElem (P := P) hd1 hR rfl hh (i := j.toNat) (off := off) (by omega) hc' hw1 (by rw [hcl]; exact hle') .any hset (.part (loStep lo j) r') (loStep lo j) rfl
            (fun hi' => .inr ⟨fun x hx => allNew_mem hnew (setRange_mem hx _ _ hlr), .inr fun x hx => allNew_mem hnew hx⟩) (fun j' hj1 hj' => by
              unfold loStep at hj'
              split at hj' <;> omega) (by simp) (fun h => by simp at h)
          refine opGood_skip (hrun _ _ hst hxv) ?_ g1 g2
          rw [hdst]
          exact hd2
        · split
          · rename_i hnew
            obtain ⟨w', hst, hd2⟩ := storeElem (P := P) hd1 hR rfl hh (i := j.toNat) (off := off) (by omega) hc' hw1 (by rw [hcl]; exact hle') .any hset (.part lo r') lo rfl
              (fun hi' => .inr ⟨fun x hx => allNew_mem hnew hx, .inl hi'⟩) (fun j' _ hj' => hj') (by simp) (fun h => by simp at h)
            refine opGood_skip (hrun _ _ hst hxv) ?_ g1 g2
            rw [hdst]
            exact hd2
          · trivial
      · trivial
    · trivial
  · trivial

/-! ### Indices -/
theorem RowDen.elem {t : Tag} {r : Rw} {v : Value} (h : RowDen w (E.F t) r v) {i : Nat} (hi : i < r.len) : ∃ ad c, v = .slice (some ad) r.len c ∧ ad.spot = none ∧ ad.block < w.heap.size ∧ E.F t ad.block ∧
    ∀ (j : Nat) x, (r.cell t i)[j]? = some x → ∃ u, w.cell? ((ad.add (i * r.sz)).add j) = some u ∧ cd2 w (E.F t) x u := by
  obtain ⟨h0, A, c, hv, hn, h⟩ := h
  obtain ⟨ad, rfl, hs, hF, hc⟩ := h (by omega)
  have hcell : ∀ (j : Nat) x, (r.cell t i)[j]? = some x → ∃ u, w.cell? ((ad.add (i * r.sz)).add j) = some u ∧ cd2 w (E.F t) x u := by
    intro j x hx
    obtain ⟨y, hy, hxy⟩ := cell_tag t .any r i j x hx
    obtain ⟨u, hu, hd⟩ := hc i j y hi hy
    exact ⟨u, by rw [add_add hs]; exact hu, ((hxy _ _ _).2 hd).up⟩
  refine ⟨ad, c, hv, hs, ?_, hF, hcell⟩
  have hl : 0 < (r.cell t i).length := by rw [cell_len]; exact sz_pos r
  obtain ⟨u, hu, _⟩ := hcell 0 _ (List.getElem?_eq_getElem hl)
  have := World.block_lt_of_cell? w _ hu
  have hb : ((ad.add (i * r.sz)).add 0).block = ad.block := by simp [Addr.add]; split <;> rfl
  rw [hb] at this
  exact this
theorem index_run (hτ : TysOk P τ) {T e : TypeId} (htd : τ.td T = .slice e) {i : TI} (hi : τ.ti e = some i) {ad : Addr} {n c : Nat} {k : IntKind} {j : Int} (h0 : 0 ≤ j) (h1 : j < n) :
    (Instr.indexAt T (.slice (some ad) n c) (.int k j)).run P w = .ok (.pointer (some (ad.add (j.toNat * τ.sz e)))) w := by
  have hs := hτ.slice htd
  simp [Instr.indexAt, run_underlying hs, asIntOf, h0, h1, hτ.szOf hi]
theorem shared_index (hτ : TysOk P τ) {T e : TypeId} (htd : τ.td T = .slice e) {t : Tag} {r : Rw} (hsz : Nat.beq (τ.sz e) r.sz = true) {v : Value} (h : RowDen w (E.F t) r v) {k : IntKind} {j : Int} (h0 : 0 ≤ j) (h1 : j < r.len) :
    Gives (P := P) w (Instr.indexAt T v (.int k j)) (.pt t (r.cell t j.toNat)) E rw' := by
  have hsz' : τ.sz e = r.sz := Nat.eq_of_beq_eq_true hsz
  have hti : ∃ i, τ.ti e = some i := by
    cases hc : τ.ti e with
    | none => have := sz_pos r; simp [Tys.sz, hc] at hsz'; omega
    | some i => exact ⟨i, rfl⟩
  obtain ⟨i, hi⟩ := hti
  obtain ⟨ad, c, rfl, hs, hlt, hF, hc⟩ := h.elem (i := j.toNat) (by omega)
  have hb : (ad.add (j.toNat * r.sz)).block = ad.block := by unfold Addr.add; split <;> rfl
  refine ⟨_, index_run hτ htd hi h0 h1, ad.add (j.toNat * τ.sz e), rfl, ?_, ?_, ?_, ?_⟩
  · unfold Addr.add; split <;> simp [hs]
  · rw [hsz', hb]; exact hlt
  · rw [hsz', hb]; exact hF
  · rw [hsz']; exact hc
theorem own_index (hτ : TysOk P τ) {T e : TypeId} (htd : τ.td T = .slice e) {k0 lo : Nat} {r : Rw} (hO : OwnD τ E w k0 lo r) (hsz : Nat.beq (τ.sz e) r.sz = true) {k : IntKind} {j : Int} (h0 : 0 ≤ j) (h1 : j < r.len) :
    ∃ g c, E.hs k0 = .slice (some ⟨g, 0, none⟩) r.len c ∧ (Instr.indexAt T (E.hs k0) (.int k j)).run P w = .ok (.pointer (some ⟨g, j.toNat * r.sz + 0, none⟩)) w := by
  have hsz' : τ.sz e = r.sz := Nat.eq_of_beq_eq_true hsz
  have hti : ∃ i, τ.ti e = some i := by
    cases hc : τ.ti e with
    | none => have := sz_pos r; simp [Tys.sz, hc] at hsz'; omega
    | some i => exact ⟨i, rfl⟩
  obtain ⟨i, hi⟩ := hti
  obtain ⟨us, hrow, _⟩ := hO.row
  rcases hrow.2 with ⟨_, h2⟩ | ⟨g, cap, cur, hv, _⟩
  · omega
  · refine ⟨g, cap, hv, ?_⟩
    rw [hv, index_run hτ htd hi h0 h1, hsz', Addr.add_lit]
    simp
theorem indexAddr_ok (hτ : TysOk P τ) (hd : Den τ w0 E ⟨fr, stk, bx, rw', dep⟩ (a.tmps :: as) w) (T : TypeId) (x i : Operand) (ho : o.op = .indexAddr T x i) :
    (evIndexAddr τ ⟨fr, stk, bx, rw', dep⟩ T (St.get ⟨fr, stk, bx, rw', dep⟩ x) (St.get ⟨fr, stk, bx, rw', dep⟩ i)).good (Yld P o a w E rw') := by
  have hx := hd.get x
  have hi := hd.get i
  refine RV.ok_of (c := Instr.indexAt T (a.eval x) (a.eval i)) (fun z hz => by simp only [execOp, ho, Sem.run_bind, hz]; rfl) ?_
  unfold evIndexAddr
  split
  rotate_left
  · trivial
  rename_i e k j htd hj
  rw [hj] at hi
  obtain hi : a.eval i = .int k j := hi
  rw [hi]
  split
  · rename_i t r hxr
    rw [hxr] at hx
    split
    · rename_i hsz
      rw [Rw.lenK_eq]
      intro hb
      exact shared_index hτ htd hsz hx hb.1 hb.2
    · trivial
  · rename_i k0 hxk
    rw [hxk] at hx
    simp only [vd3, vd2, vd1, vd0] at hx
    split
    · rename_i r hk
      rw [hk] at hx
      obtain hx : a.eval x = E.hs k0 := hx
      split
      · rename_i hsz
        rw [Rw.lenK_eq]
        intro hb
        obtain ⟨g, c, h1, h2⟩ := own_index (P := P) hτ htd (hd.own k0 _ _ r hk rfl) hsz (k := k) hb.1 hb.2
        refine ⟨_, by rw [hx]; exact h2, ?_⟩
        simp only [vd3, vd2, vd1, vd0]
        rw [hk]
        exact ⟨g, _, c, h1, hb.1, hb.2, rfl⟩
      · trivial
    · rename_i lo r hk
      rw [hk] at hx
      obtain hx : a.eval x = E.hs k0 := hx
      split
      · rename_i hsz
        rw [Rw.lenK_eq]
        intro hb
        obtain ⟨g, c, h1, h2⟩ := own_index (P := P) hτ htd (hd.own k0 _ _ r hk rfl) hsz (k := k) hb.1 hb.2
        refine ⟨_, by rw [hx]; exact h2, ?_⟩
        simp only [vd3, vd2, vd1, vd0]
        rw [hk]
        exact ⟨g, _, c, h1, hb.1, hb.2, rfl⟩
      · trivial
    · rename_i t r hk
      rw [hk] at hx
      split
      · rename_i hsz
        rw [Rw.lenK_eq]
        intro hb
        exact shared_index hτ htd hsz hx hb.1 hb.2
      · trivial
    · trivial
  · trivial
theorem indexAddr_good (hτ : TysOk P τ) (hd : Den τ w0 E ⟨fr, stk, bx, rw', dep⟩ (a.tmps :: as) w) (hdst : ∀ t, o.dst = some t → t < a.tmps.size) (T : TypeId) (x i : Operand) (ho : o.op = .indexAddr T x i) :
    ((evIndexAddr τ ⟨fr, stk, bx, rw', dep⟩ T (St.get ⟨fr, stk, bx, rw', dep⟩ x) (St.get ⟨fr, stk, bx, rw', dep⟩ i)).to o.dst ⟨fr, stk, bx, rw', dep⟩).good (OpGood P τ w0 E as o a w) :=
  RV.to_good' hd hdst (indexAddr_ok hτ hd T x i ho)
theorem index_ok (hτ : TysOk P τ) (hd : Den τ w0 E ⟨fr, stk, bx, rw', dep⟩ (a.tmps :: as) w) (T : TypeId) (x i : Operand) (ho : o.op = .index T x i) :
    (evIndex τ T (St.get ⟨fr, stk, bx, rw', dep⟩ x) (St.get ⟨fr, stk, bx, rw', dep⟩ i)).good (Yld P o a w E rw') := by
  have hx := hd.get x
  have hi := hd.get i
  refine RV.ok_of (c := Instr.index T (a.eval x) (a.eval i)) (fun z hz => by simp only [execOp, ho, Sem.run_bind, hz]; rfl) ?_
  unfold evIndex
  split
  rotate_left
  · trivial
  rename_i b k j htd hs hj
  rw [hj] at hi
  rw [hs] at hx
  obtain hi : a.eval i = .int k j := hi
  obtain hx : a.eval x = .string b := hx
  intro hb
  obtain ⟨d, hu, hdd⟩ := hτ.td htd (by simp)
  obtain rfl : d = _ := hdd
  have hlt : j.toNat < b.size := by omega
  refine ⟨.int .u8 (byteAt b j.toNat), ?_, rfl⟩
  rw [hx, hi]
  simp [Instr.index, run_underlying hu, asIntOf, hb.1, byteAt_def, hlt]
theorem index_good (hτ : TysOk P τ) (hd : Den τ w0 E ⟨fr, stk, bx, rw', dep⟩ (a.tmps :: as) w) (hdst : ∀ t, o.dst = some t → t < a.tmps.size) (T : TypeId) (x i : Operand) (ho : o.op = .index T x i) :
    ((evIndex τ T (St.get ⟨fr, stk, bx, rw', dep⟩ x) (St.get ⟨fr, stk, bx, rw', dep⟩ i)).to o.dst ⟨fr, stk, bx, rw', dep⟩).good (OpGood P τ w0 E as o a w) :=
  RV.to_good' hd hdst (index_ok hτ hd T x i ho)
theorem extract_ok (hd : Den τ w0 E ⟨fr, stk, bx, rw', dep⟩ (a.tmps :: as) w) (x : Operand) (j : Nat) (ho : o.op = .extract x j) :
    (evExtract (St.get ⟨fr, stk, bx, rw', dep⟩ x) j).good (Yld P o a w E rw') := by
  have hx := hd.get x
  refine RV.ok_of (c := Instr.extract (a.eval x) j) (fun z hz => by simp only [execOp, ho, Sem.run_bind, hz]; rfl) ?_
  unfold evExtract
  split
  rotate_left
  · trivial
  rename_i vs hv
  rw [hv] at hx
  obtain ⟨us, hxv, hl⟩ := hx
  split
  rotate_left
  · trivial
  rename_i v hj
  rw [nth_eq] at hj
  obtain ⟨u, hu, hp⟩ := hl.2 j v hj
  refine ⟨u, by rw [hxv]; simp [Instr.extract, hu], ?_⟩
  cases v <;> first | exact hp | exact hp.elim
theorem extract_good (hd : Den τ w0 E ⟨fr, stk, bx, rw', dep⟩ (a.tmps :: as) w) (hdst : ∀ t, o.dst = some t → t < a.tmps.size) (x : Operand) (j : Nat) (ho : o.op = .extract x j) :
    ((evExtract (St.get ⟨fr, stk, bx, rw', dep⟩ x) j).to o.dst ⟨fr, stk, bx, rw', dep⟩).good (OpGood P τ w0 E as o a w) :=
  RV.to_good' hd hdst (extract_ok hd x j ho)
end
end Go.Proofs.Ytmgccphapkmmeaa
