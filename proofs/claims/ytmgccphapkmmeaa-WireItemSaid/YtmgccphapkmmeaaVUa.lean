/- A symbolic executor for loaded Go code: the bytes of a string. -/
import Derived.Test.YtmgccphapkmmeaaVT
import Derived.Laws.IdiomStrings
namespace Go.Proofs.Ytmgccphapkmmeaa
open Go.RowKit

section
variable {P : Program} {τ : Tys} {w0 : World} {E : Env} {as : List (Array Value)} {a : Act} {w : World}
variable {s : St} {bs : List (Array Value)} {o : Oper}
variable {fr : List (Nat × SV)} {stk : List (List (Nat × SV))} {bx : List (Nat × (TypeId × List SV))} {rw' : List (Nat × Ent)} {dep : Nat}

/-- Another block: what the state says stays. -/
theorem Den.grow (h : Den τ w0 E s bs w) {w' : World} (hB : Below w.heap.size w w') : Den τ w0 E s bs w' := by
  have hk : Keeps E E w w' := ⟨rfl, hB.size, fun g _ hg => hB.block g hg, fun _ h => .inl h⟩
  have hs := Shift.refl E s s w' rfl
  refine h.move hk rfl (hB.mono (Nat.le_trans h.bM h.Mh)) hs rfl rfl (fun g hg => ⟨(h.owb g hg).1, Nat.lt_of_lt_of_le (h.owb g hg).2 hB.size⟩) ?_ ?_ h.bb h.br h.rr
  · intro k T cs hb
    obtain ⟨ho, us, hh, hc⟩ := h.box k T cs hb
    exact ⟨ho, us, by rw [hB.block _ (h.owb _ ho).2]; exact hh, hs.cells hk hb hc⟩
  · intro k e lo r hl hm
    exact (h.own k e lo r hl hm).keeps hk rfl rfl (h.own k e lo r hl hm).ow fun g hg => hB.block g ((h.own k e lo r hl hm).lt h.owb hg)
theorem bytesL_len (b : ByteArray) : (bytesL b).length = b.size := by
  show (b.toList.map _).length = b.data.size
  rw [List.length_map, ByteArray.toList_eq, Array.length_toList]
theorem bytesL_get (b : ByteArray) {i : Nat} (h : i < b.size) : (bytesL b).getD i 0 = (b[i].toNat : Int) := by
  have h' : i < b.data.size := h
  simp only [bytesL, ByteArray.toList_eq, List.getD_eq_getElem?_getD, List.getElem?_map, Array.getElem?_toList, Array.getElem?_eq_getElem h']
  rfl
theorem bytes_good (hτ : TysOk P τ) (hd : Den τ w0 E ⟨fr, stk, bx, rw', dep⟩ (a.tmps :: as) w) (hdst : ∀ t, o.dst = some t → t < a.tmps.size) (src dst : TypeId) (x : Operand) (ho : o.op = .convert src dst x) :
    (stepBytes τ src dst x o.dst ⟨fr, stk, bx, rw', dep⟩).good (OpGood P τ w0 E as o a w) := by
  unfold stepBytes
  split
  · rename_i e htd hts
    split
    · rename_i hte
      rw [SV.force_eq]
      have hx := hd.get x
      split
      · rename_i b hb
        rw [hb] at hx
        obtain hx : a.eval x = .string b := hx
        intro hsz
        obtain ⟨d2, hu2, hd2⟩ := hτ.td hts (by simp)
        obtain rfl : d2 = _ := hd2
        obtain ⟨d3, hu3, hd3⟩ := hτ.td hte (by simp)
        obtain rfl : d3 = _ := hd3
        have hr := run_bytes_of_string (P := P) w src dst e b hu2 (hτ.slice htd) hu3
        generalize hC : bytesRow b (grownCap w b.size 0 e) = C at hr
        generalize hc : grownCap w b.size 0 e = c at hr hC
        have hle : b.size ≤ c := by rw [← hc]; exact grownCap_ge w _ _ _
        have hB : Below w.heap.size w (w.drew.alloc (.cells C e (C.size, C.size + 1))) := ((Below.refl _ _).drew).alloc (Nat.le_refl _) _
        have hd2 := hd.grow hB
        refine opGood_value (v := .slice (some ⟨w.heap.size, 0, none⟩) b.size c) (w' := w.drew.alloc (.cells C e (C.size, C.size + 1))) (E' := E) ?_ ?_ rfl rfl
        · simp only [execOp, ho, hx, Sem.run_bind, hr]
          rfl
        · refine hd2.put ?_ hdst
          refine ⟨by simpa [Rw.len, Rw.bts, Rw.kd, kdBytes, bytesL_len] using hsz, some ⟨w.heap.size, 0, none⟩, c, by simp [Rw.len, bytesL_len], by simpa [Rw.len, bytesL_len] using hle, fun _ => ⟨_, rfl, rfl, ⟨fun hg => ?_, Nat.le_trans hd.Mh (Nat.le_refl _)⟩, ?_⟩⟩
          · exact absurd (hd.owb _ hg).2 (Nat.lt_irrefl _)
          · intro i j y hi hy
            have hi' : i < b.size := by simpa [Rw.len, bytesL_len] using hi
            have hj : j = 0 := by
              have := (List.getElem?_eq_some_iff.1 hy).1
              simp [Rw.cell] at this
              exact this
            subst hj
            simp [Rw.cell] at hy
            refine ⟨.int .u8 (b[i].toNat : Int), ?_, ?_⟩
            · have hheap : (w.drew.alloc (.cells C e (C.size, C.size + 1))).heap[w.heap.size]? = some (.cells C e (C.size, C.size + 1)) := by
                show (w.heap.push _)[w.heap.size]? = _
                simp
              have hi2 : i < b.data.size := hi'
              have hCi : C[i]? = some (.int .u8 (b[i].toNat : Int)) := by
                rw [← hC]
                unfold bytesRow
                rw [Array.getElem?_append_left (by simpa using hi2), Array.getElem?_map, Array.getElem?_eq_getElem hi2]
                rfl
              have hadd : (⟨w.heap.size, 0, none⟩ : Addr).add (i * (Rw.bytes (bytesL b)).sz + 0) = ⟨w.heap.size, i, none⟩ := by
                unfold Addr.add
                split <;> simp_all [Rw.sz, Rw.kd, kdSz]
              rw [hadd]
              unfold World.cell?
              dsimp only
              rw [hheap]
              exact hCi
            · subst hy
              have := bytesL_get b hi'
              rw [List.getD_eq_getElem?_getD] at this
              simp only [cd1, sc]
              rw [this]
      · trivial
    · trivial
  · trivial
end
end Go.Proofs.Ytmgccphapkmmeaa
