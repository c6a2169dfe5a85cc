/- A symbolic executor for loaded Go code: each step is the machine's: stores, indices, and what else there is. -/
import Derived.Test.YtmgccphapkmmeaaVK
namespace Go.Proofs.Ytmgccphapkmmeaa
open Go.RowKit

section
variable {P : Program} {τ : Tys} {w0 : World} {E : Env} {as : List (Array Value)} {a : Act} {w : World}
variable {s : St} {bs : List (Array Value)} {o : Oper}
variable {fr : List (Nat × SV)} {stk : List (List (Nat × SV))} {bx : List (Nat × (TypeId × List SV))} {rw' : List (Nat × Ent)} {dep : Nat}

theorem put_none {d : Option Tmp} (h : d = none) (v : Value) : (a.put d v) = a := by subst h; rfl
theorem splice_get {α : Type} (us ws : List α) (n : Nat) (h : n + ws.length ≤ us.length) (j : Nat) :
    (us.take n ++ ws ++ us.drop (n + ws.length))[j]? = if j < n then us[j]? else if j < n + ws.length then ws[j - n]? else us[j]? := by
  by_cases h1 : j < n
  · rw [if_pos h1, List.append_assoc, List.getElem?_append_left (by simp; omega), List.getElem?_take, if_pos h1]
  · rw [if_neg h1]
    by_cases h2 : j < n + ws.length
    · rw [if_pos h2, List.append_assoc, List.getElem?_append_right (by simp; omega)]
      simp only [List.length_take, Nat.min_eq_left (show n ≤ us.length by omega)]
      rw [List.getElem?_append_left (by omega)]
    · rw [if_neg h2, List.getElem?_append_right (by simp; omega)]
      simp only [List.length_append, List.length_take, Nat.min_eq_left (show n ≤ us.length by omega), List.getElem?_drop]
      congr 1
      omega
/-- A store among the cells of an element of an own row. -/
theorem storeElem (hd : Den τ w0 E ⟨fr, stk, bx, rw', dep⟩ as w) {k : Nat} {ent : Ent} {lo : Nat} {r : Rw} (hk : lk rw' k = some ent) (hm : ent.mine = some (lo, r)) {g n c i off : Nat} (hh : E.hs k = .slice (some ⟨g, 0, none⟩) n c) (hi : i < r.len)
    {vs : List SV} {ws : List Value} (hv : L0 (vd1 E rw' w) vs ws) (hw1 : ∀ u ∈ ws, u.oneCell' = true) (hl : off + vs.length ≤ r.sz) (t : Tag) {r' : Rw} (hr : r.setE i (setRange (r.cell t i) off vs) = some r') (ent' : Ent) (lo' : Nat) (hm' : ent'.mine = some (lo', r'))
    (hnew : i < lo' → r'.flat = true ∨ ((∀ x, x ∈ vs → tagLe .new x) ∧ (i < lo ∨ ∀ x, x ∈ setRange (r.cell t i) off vs → tagLe .new x))) (hother : ∀ j, j ≠ i → j < lo' → j < lo) (hold : t ≠ .old) (htn : t = .new → i < lo) :
    ∃ w', (storeCells ⟨g, i * r.sz + off, none⟩ ws).run P w = .ok () w' ∧ Den τ w0 E ⟨fr, stk, bx, upd rw' k ent', dep⟩ as w' := by
  have hO := hd.own k ent lo r hk hm
  obtain ⟨us, hrow, hcell⟩ := hO.row
  obtain ⟨hul, hrow'⟩ := hrow
  rcases hrow' with ⟨hv0, h0⟩ | ⟨g', cap, cur, hv0, hg, hheap, hnc, hcap, hcs, htake⟩
  · rw [hh] at hv0; simp at hv0
  rw [hh] at hv0
  injection hv0 with hg1 hn1 hc1
  injection hg1 with hg1
  injection hg1 with hg1
  subst hg1
  obtain ⟨hkd, hlen, hfit, hoth⟩ := setE_fit hr hi
  have hsz : r'.sz = r.sz := Rw.sz_of_kd hkd
  have hin : i * r.sz + r.sz ≤ r.len * r.sz := by rw [← Nat.succ_mul]; exact Nat.mul_le_mul_right _ hi
  have hcur : r.len * r.sz ≤ cur.size := by rw [hcs]; exact Nat.mul_le_mul_right _ hnc
  have hvl : vs.length = ws.length := hv.1
  have hrun := run_storeCells_at P g (i * r.sz + off) (τ.et r.kd) ws 0 cur w hheap (by simp; omega) hw1
  simp only [Nat.add_zero] at hrun
  refine ⟨_, hrun, ?_⟩
  have how : E.ow g := hO.ow g (by rw [hh]; rfl)
  have hgr : w.grownBy (w.setRow g (cur.toList.take (i * r.sz + off) ++ ws ++ cur.toList.drop (i * r.sz + off + ws.length)).toArray) (E.hs k).ownBlock :=
    ⟨rfl, rfl, rfl, by simp, fun j _ hj => setRow_other w g j _ (fun e => hj (by rw [hh, e]; rfl))⟩
  have hkp := keeps_setRow hd how (cur.toList.take (i * r.sz + off) ++ ws ++ cur.toList.drop (i * r.sz + off + ws.length)).toArray
  have hus : us.length = r.len * r.sz := hul
  refine hd.writeRow k _ hgr hk hm ent' lo' r' hm' (by simpa using hkd.symm) (by simpa using hlen.symm) (us.take (i * r.sz + off) ++ ws ++ us.drop (i * r.sz + off + ws.length)) ?_ ?_
  · refine ⟨by simp [hlen, hsz]; omega, .inr ⟨g, cap, _, by rw [hh, hlen, hn1, hc1], hg, by rw [hkd]; exact setRow_heap w g _ _ _ _ hheap, by rw [hlen]; exact hnc, hcap, ?_, ?_⟩⟩
    · simp only [List.size_toArray, List.length_append, List.length_take, List.length_drop, Array.length_toList, hsz]
      omega
    · rw [hlen, hsz]
      apply List.ext_getElem?
      intro j
      rw [List.getElem?_take]
      have h1 := splice_get cur.toList ws (i * r.sz + off) (by simp; omega) j
      have h2 := splice_get us ws (i * r.sz + off) (by omega) j
      rw [h2]
      have hcu : ∀ m, m < r.len * r.sz → cur.toList[m]? = us[m]? := by
        intro m hm2
        rw [← htake, List.getElem?_take, if_pos hm2]
      split
      · rename_i hj
        rw [show (cur.toList.take (i * r.sz + off) ++ ws ++ cur.toList.drop (i * r.sz + off + ws.length)).toArray.toList = cur.toList.take (i * r.sz + off) ++ ws ++ cur.toList.drop (i * r.sz + off + ws.length) from rfl, h1, hcu j hj]
      · rename_i hj
        rw [if_neg (by omega), if_neg (by omega), List.getElem?_eq_none (by omega)]
  · intro i' j x hi' hx
    rw [hlen] at hi'
    have hj : j < r.sz := by
      have := (List.getElem?_eq_some_iff.1 hx).1
      rw [cell_len, hsz] at this
      exact this
    rw [hsz]
    by_cases he : i' = i
    · subst he
      obtain ⟨y, hy, hyx⟩ := hfit.2 j x hx
      rw [setRange_eq vs _ off (by rw [cell_len]; exact hl)] at hy
      have hsp := splice_get (r.cell t i') vs off (by rw [cell_len]; exact hl) j
      rw [hsp] at hy
      have hu2 := splice_get us ws (i' * r.sz + off) (by omega) (i' * r.sz + j)
      have hymem : y ∈ setRange (r.cell t i') off vs := by
        rw [setRange_eq vs _ off (by rw [cell_len]; exact hl)]
        exact List.mem_of_getElem? (by rw [hsp]; exact hy)
      by_cases hjo : off ≤ j ∧ j < off + vs.length
      · -- what is stored
        rw [if_neg (by omega), if_pos (by omega)] at hy
        obtain ⟨u, hu, hdu⟩ := hv.2 _ y hy
        refine ⟨u, ?_, ?_⟩
        · rw [hu2, if_neg (by omega), if_pos (by omega)]
          rw [show i' * r.sz + j - (i' * r.sz + off) = j - off by omega]
          exact hu
        · have hdu' : vd1 E rw' (w.setRow g (cur.toList.take (i' * r.sz + off) ++ ws ++ cur.toList.drop (i' * r.sz + off + ws.length)).toArray) y u := vd1.keeps hkp (fun _ _ => ⟨rfl, entLike.refl _ _ _ _⟩) (fun _ _ => rfl) hdu
          split
          · rename_i hlo
            rcases hnew hlo with hf | ⟨hn, _⟩
            · have h0 : cd1 (w.setRow g (cur.toList.take (i' * r.sz + off) ++ ws ++ cur.toList.drop (i' * r.sz + off + ws.length)).toArray) (E.F .any) x u := hyx.cd hdu' (by cases y <;> simp [tagLe])
              exact (flat_sc hf hx _ _ _ _ u).1 h0
            · exact hyx.cd hdu' (hn y (List.mem_of_getElem? hy))
          · exact hyx.cd hdu' (by cases y <;> simp [tagLe])
      · -- what stood there
        have hy' : (r.cell t i')[j]? = some y := by
          split at hy
          · exact hy
          · split at hy
            · omega
            · exact hy
        obtain ⟨y2, hy2, hyy⟩ := cell_tag t .any r i' j y hy'
        obtain ⟨u, hu, hdu⟩ := hcell i' j y2 hi hy2
        refine ⟨u, ?_, ?_⟩
        · rw [hu2]
          have hlj : ¬ (i' * r.sz + off ≤ i' * r.sz + j ∧ i' * r.sz + j < i' * r.sz + off + ws.length) := by omega
          split
          · exact hu
          · split
            · omega
            · exact hu
        · -- told by the row as it was
          have hda : vd1 E rw' w y u := by
            refine vd1_of_cd (t := t) ?_ (cell_retag t r i' j y hy')
            rw [hyy]
            cases t with
            | old => exact absurd rfl hold
            | new => rw [if_pos (htn rfl)] at hdu; exact hdu
            | any => exact cd1.any hdu
          have hda' : vd1 E rw' (w.setRow g (cur.toList.take (i' * r.sz + off) ++ ws ++ cur.toList.drop (i' * r.sz + off + ws.length)).toArray) y u := vd1.keeps hkp (fun _ _ => ⟨rfl, entLike.refl _ _ _ _⟩) (fun _ _ => rfl) hda
          split
          · rename_i hlo
            rcases hnew hlo with hf | ⟨_, h1 | h1⟩
            · have h0 : cd1 (w.setRow g (cur.toList.take (i' * r.sz + off) ++ ws ++ cur.toList.drop (i' * r.sz + off + ws.length)).toArray) (E.F .any) x u := hyx.cd hda' (by cases y <;> simp [tagLe])
              exact (flat_sc hf hx _ _ _ _ u).1 h0
            · rw [if_pos h1] at hdu
              have hdn : vd1 E rw' w y2 u ∨ cd1 w (E.F .new) y2 u := .inr hdu
              have h3 : cd1 w (E.F .new) y u := (hyy _ _ _).2 hdu
              have h4 : cd1 (w.setRow g (cur.toList.take (i' * r.sz + off) ++ ws ++ cur.toList.drop (i' * r.sz + off + ws.length)).toArray) (E.F .new) y u := cd1.mono h3 (hkp.F _)
              -- a cell of a row, read back as a cell of a row
              cases y <;> cases x <;> first
                | exact hyx.elim
                | (obtain ⟨rfl, _⟩ := hyx; exact h4)
                | (obtain ⟨rfl, rfl⟩ := hyx; exact h4)
                | (obtain rfl : _ = _ := hyx; exact h4)
                | exact h4.elim
            · exact hyx.cd hda' (h1 y hymem)
          · exact hyx.cd hda' (by cases y <;> simp [tagLe])
    · -- another element
      have hne := hoth i' he
      rw [hne] at hx
      obtain ⟨u, hu, hdu⟩ := hcell i' j x hi' hx
      refine ⟨u, ?_, ?_⟩
      · rw [splice_get us ws (i * r.sz + off) (by omega) (i' * r.sz + j)]
        have hdis : ¬ (i * r.sz + off ≤ i' * r.sz + j ∧ i' * r.sz + j < i * r.sz + off + ws.length) := by
          rcases Nat.lt_or_gt_of_ne he with h1 | h1
          · have : (i' + 1) * r.sz ≤ i * r.sz := Nat.mul_le_mul_right _ h1
            rw [Nat.succ_mul] at this
            omega
          · have : (i + 1) * r.sz ≤ i' * r.sz := Nat.mul_le_mul_right _ h1
            rw [Nat.succ_mul] at this
            omega
        split
        · exact hu
        · split
          · omega
          · exact hu
      · have h0 := cd1.mono hdu (hkp.F _)
        split
        · rename_i hlo
          rw [if_pos (hother i' he hlo)] at h0
          exact h0
        · exact cd1.any h0
end
end Go.Proofs.Ytmgccphapkmmeaa
