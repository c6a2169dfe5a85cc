/- A message's bytes, without a program: what is put comes back. -/
import Derived.Test.YtmgccphapkmmeaaF13a
namespace Go.Proofs.Ytmgccphapkmmeaa
open Go.RowKit

def item0 : GItem := ⟨0, ⟨0, 0⟩, 0, false⟩
def msg0 : GMsg := ⟨0, 0, 0, [], 0, item0, false⟩
def item7 (l : List Int) : GItem := ⟨l.getD 0 0, ⟨l.getD 1 0 + 256 * l.getD 2 0, l.getD 3 0⟩, l.getD 4 0, decide (l.getD 5 0 = 1)⟩
def getItemL (l : List Int) : GItem := if l.length = 7 then item7 l else item0
/-- As the program reads it. -/
def parse (l : List Int) : GMsg :=
  if l.getD 0 0 = 0 then ⟨l.getD 0 0, l.getD 1 0, l.getD 2 0, l.drop 4, 0, item0, false⟩
  else if l.getD 0 0 = 1 then ⟨l.getD 0 0, l.getD 1 0, l.getD 2 0, [], 0, getItemL (l.drop 3), false⟩
  else if l.getD 0 0 = 3 then
    if 1 < l.length - 3 ∧ l.getD 4 0 = 1 then ⟨l.getD 0 0, l.getD 1 0, l.getD 2 0, [], l.getD 3 0, getItemL (l.drop 5), true⟩
    else ⟨l.getD 0 0, l.getD 1 0, l.getD 2 0, [], l.getD 3 0, item0, false⟩
  else ⟨l.getD 0 0, l.getD 1 0, l.getD 2 0, [], l.getD 3 0, item0, false⟩
/-- As the document's answer reads it. -/
def parseR (l : List Int) : GMsg :=
  if l.getD 0 0 = 0 then ⟨l.getD 0 0, l.getD 1 0, l.getD 2 0, l.drop 4, 0, item0, false⟩
  else if l.getD 0 0 = 1 then ⟨l.getD 0 0, l.getD 1 0, l.getD 2 0, [], 0, if l.length = 10 then item7 (l.drop 3) else item0, false⟩
  else if l.getD 0 0 = 2 then ⟨l.getD 0 0, l.getD 1 0, l.getD 2 0, [], l.getD 3 0, item0, false⟩
  else if l.length = 12 then ⟨l.getD 0 0, l.getD 1 0, l.getD 2 0, [], l.getD 3 0, item7 (l.drop 5), true⟩
  else ⟨l.getD 0 0, l.getD 1 0, l.getD 2 0, [], l.getD 3 0, item0, false⟩
noncomputable def mGet (s : ByteArray) : GMsg × Int := Classical.choose (seal_ex (if 3 < s.size ∧ mayB (parse (bytesL s)) = true ∧ msgBytes (parse (bytesL s)) = bytesL s then (parse (bytesL s), (0 : Int)) else (msg0, 1300)))
theorem mGet_def (s : ByteArray) : mGet s = if 3 < s.size ∧ mayB (parse (bytesL s)) = true ∧ msgBytes (parse (bytesL s)) = bytesL s then (parse (bytesL s), 0) else (msg0, 1300) := Classical.choose_spec (seal_ex _)
theorem placeB_iff (x : Int) : placeB x = true ↔ 0 ≤ x ∧ x < 256 := by simp [placeB]
theorem item0B_iff (i : GItem) : item0B i = true ↔ i = item0 := by
  obtain ⟨k, ⟨c, w⟩, v, g⟩ := i
  simp [item0B, item0, and_assoc]
theorem itemBytes_len (i : GItem) : (itemBytes i).length = 7 := rfl
theorem item7_bytes {i : GItem} (h : itemB i = true) : item7 (itemBytes i) = i := by
  obtain ⟨k, ⟨c, w⟩, v, g⟩ := i
  simp only [itemB, verB, Bool.and_eq_true, placeB_iff, decide_eq_true_eq] at h
  obtain ⟨hk, hv, ⟨hc1, hc2, hw⟩, hg⟩ := h
  have e1 := by8_id hk.1 hk.2
  have e2 := by8_id hv.1 hv.2
  have e3 := by8_id hw.1 hw.2
  have e4 : by8 c + 256 * by8 (c / 2 ^ (8 : Int).toNat) = c := by
    have : (2 : Int) ^ (8 : Int).toNat = 256 := by decide
    rw [this]
    unfold by8
    rw [wu8, wu8]
    omega
  simp only [item7, itemBytes, b6, List.cons_append, List.getD_cons_zero, List.getD_cons_succ, e1, e2, e3, e4]
  cases g <;> simp
theorem inB_itemBytes (i : GItem) : InB (itemBytes i) := by
  intro x hx
  rcases List.mem_append.1 hx with h | h
  · exact inB_b6 i x h
  · simp at h; subst h; exact by8_in _
theorem inB_msgBytes (m : GMsg) : InB (msgBytes m) := by
  intro x hx
  rcases List.mem_append.1 hx with h | h
  · simp only [msgHead, List.mem_cons, List.not_mem_nil, or_false] at h
    rcases h with rfl | rfl | rfl <;> exact by8_in _
  · unfold msgRest at h
    split at h
    · rcases List.mem_cons.1 h with rfl | h
      · exact by8_in _
      · obtain ⟨y, _, rfl⟩ := List.mem_map.1 h; exact by8_in _
    · split at h
      · exact inB_itemBytes _ x h
      · split at h
        · simp at h; subst h; exact by8_in _
        · split at h
          · rcases List.mem_append.1 h with h | h
            · simp only [List.mem_cons, List.not_mem_nil, or_false] at h
              rcases h with rfl | rfl
              · exact by8_in _
              · split <;> omega
            · split at h
              · exact inB_itemBytes _ x h
              · simp at h
          · simp at h
theorem map_by8 {l : List Int} (h : l.all placeB = true) : l.map by8 = l := by
  have : ∀ x ∈ l, by8 x = x := fun x hx => by
    have := (placeB_iff x).1 (List.all_eq_true.1 h x hx)
    exact by8_id this.1 this.2
  rw [List.map_congr_left this]
  simp
/-- What may be, by its kind. -/
theorem mayB_cases {m : GMsg} (h : mayB m = true) : (0 ≤ m.src ∧ m.src < 256) ∧ (0 ≤ m.dst ∧ m.dst < 256) ∧
    ((m.kind = 0 ∧ m.ids.all placeB = true ∧ m.ids.length ≤ 16 ∧ m.key = 0 ∧ m.item = item0 ∧ m.has = false) ∨
     (m.kind = 1 ∧ m.ids = [] ∧ m.key = 0 ∧ itemB m.item = true ∧ m.has = false) ∨
     (m.kind = 2 ∧ m.ids = [] ∧ (0 ≤ m.key ∧ m.key < 256) ∧ m.item = item0 ∧ m.has = false) ∨
     (m.kind = 3 ∧ m.ids = [] ∧ (0 ≤ m.key ∧ m.key < 256) ∧ m.item = item0 ∧ m.has = false) ∨
     (m.kind = 3 ∧ m.ids = [] ∧ (0 ≤ m.key ∧ m.key < 256) ∧ itemB m.item = true ∧ m.item.key = m.key ∧ m.has = true)) := by
  obtain ⟨kind, src, dst, ids, key, item, has⟩ := m
  simp only [mayB, Bool.and_eq_true, placeB_iff] at h
  refine ⟨h.1, h.2.1, ?_⟩
  have hb := h.2.2.2
  unfold bodyB at hb
  dsimp only at hb ⊢
  split at hb
  · rename_i hk
    simp only [noneB, Bool.and_eq_true, decide_eq_true_eq, Bool.not_eq_true', item0B_iff] at hb
    exact .inl ⟨hk, hb.2.2, by omega, hb.1.2.1, hb.1.2.2.1, hb.1.2.2.2⟩
  · split at hb
    · rename_i hk
      simp only [noneB, Bool.and_eq_true, decide_eq_true_eq, Bool.not_eq_true'] at hb
      exact .inr (.inl ⟨hk, List.eq_nil_of_length_eq_zero hb.1.1, hb.1.2.1, hb.2, hb.1.2.2.2⟩)
    · split at hb
      · rename_i hk
        simp only [noneB, Bool.and_eq_true, decide_eq_true_eq, Bool.not_eq_true', item0B_iff, placeB_iff] at hb
        exact .inr (.inr (.inl ⟨hk, List.eq_nil_of_length_eq_zero hb.1.1, hb.2, hb.1.2.2.1, hb.1.2.2.2⟩))
      · split at hb
        · rename_i hk
          simp only [Bool.and_eq_true, Bool.or_eq_true, decide_eq_true_eq, Bool.not_eq_true', item0B_iff, placeB_iff] at hb
          have hi := List.eq_nil_of_length_eq_zero hb.1
          rcases hb.2.2 with h3 | h3
          · exact .inr (.inr (.inr (.inl ⟨hk, hi, hb.2.1, h3.2, h3.1⟩)))
          · exact .inr (.inr (.inr (.inr ⟨hk, hi, hb.2.1, h3.2.1, h3.2.2, h3.1⟩)))
        · simp at hb
theorem parse_put {m : GMsg} (h : mayB m = true) : parse (msgBytes m) = m ∧ parseR (msgBytes m) = m ∧ 3 < (msgBytes m).length := by
  obtain ⟨hs, hd, hc⟩ := mayB_cases h
  obtain ⟨kind, src, dst, ids, key, item, has⟩ := m
  dsimp only at hs hd hc
  have e1 := by8_id hs.1 hs.2
  have e2 := by8_id hd.1 hd.2
  have k0 : by8 0 = 0 := by decide
  have k1 : by8 1 = 1 := by decide
  have k2 : by8 2 = 2 := by decide
  have k3 : by8 3 = 3 := by decide
  rcases hc with ⟨rfl, h1, h2, rfl, rfl, rfl⟩ | ⟨rfl, rfl, rfl, h1, rfl⟩ | ⟨rfl, rfl, h1, rfl, rfl⟩ | ⟨rfl, rfl, h1, rfl, rfl⟩ | ⟨rfl, rfl, h1, h2, h3, rfl⟩
  · have hl : msgBytes ⟨0, src, dst, ids, 0, item0, false⟩ = 0 :: src :: dst :: by8 ids.length :: ids := by simp [msgBytes, msgHead, msgRest, e1, e2, k0, map_by8 h1]
    rw [hl]
    exact ⟨rfl, rfl, by simp⟩
  · have hl : msgBytes ⟨1, src, dst, [], 0, item, false⟩ = 1 :: src :: dst :: itemBytes item := by simp [msgBytes, msgHead, msgRest, e1, e2, k1]
    have e3 := item7_bytes h1
    rw [hl]
    refine ⟨?_, ?_, by simp [itemBytes_len]⟩
    · show (⟨1, src, dst, [], 0, getItemL (itemBytes item), false⟩ : GMsg) = _
      rw [getItemL, if_pos (itemBytes_len item), e3]
    · show (⟨1, src, dst, [], 0, if (1 :: src :: dst :: itemBytes item).length = 10 then item7 (itemBytes item) else item0, false⟩ : GMsg) = _
      rw [if_pos (by simp [itemBytes_len]), e3]
  · have e3 := by8_id h1.1 h1.2
    have hl : msgBytes ⟨2, src, dst, [], key, item0, false⟩ = [2, src, dst, key] := by simp [msgBytes, msgHead, msgRest, e1, e2, e3, k2]
    rw [hl]
    exact ⟨rfl, rfl, by simp⟩
  · have e3 := by8_id h1.1 h1.2
    have hl : msgBytes ⟨3, src, dst, [], key, item0, false⟩ = [3, src, dst, key, 0] := by simp [msgBytes, msgHead, msgRest, e1, e2, e3, k3]
    rw [hl]
    exact ⟨rfl, rfl, by simp⟩
  · have e3 := by8_id h1.1 h1.2
    have e4 := item7_bytes h2
    have hl : msgBytes ⟨3, src, dst, [], key, item, true⟩ = 3 :: src :: dst :: key :: 1 :: itemBytes item := by simp [msgBytes, msgHead, msgRest, e1, e2, e3, k3]
    rw [hl]
    refine ⟨?_, ?_, by simp [itemBytes_len]⟩
    · show (⟨3, src, dst, [], key, getItemL (itemBytes item), true⟩ : GMsg) = _
      rw [getItemL, if_pos (itemBytes_len item), e4]
    · show (⟨3, src, dst, [], key, item7 (itemBytes item), true⟩ : GMsg) = _
      rw [e4]
/-- The two readings tell the same. -/
theorem mGet_eq (s : ByteArray) : mGet s = if 3 < s.size ∧ mayB (parseR (bytesL s)) = true ∧ msgBytes (parseR (bytesL s)) = bytesL s then (parseR (bytesL s), 0) else (msg0, 1300) := by
  rw [mGet_def]
  by_cases h1 : mayB (parse (bytesL s)) = true ∧ msgBytes (parse (bytesL s)) = bytesL s
  · have := (parse_put h1.1).2.1
    rw [h1.2] at this
    rw [this]
  · by_cases h2 : mayB (parseR (bytesL s)) = true ∧ msgBytes (parseR (bytesL s)) = bytesL s
    · have := (parse_put h2.1).1
      rw [h2.2] at this
      rw [this]
    · rw [if_neg (fun h => h1 h.2), if_neg (fun h => h2 h.2)]
theorem mGet_put {m : GMsg} (h : mayB m = true) : mGet (mPutS m) = (m, 0) := by
  have h1 := parse_put h
  rw [mGet_def, mPutS_def]
  rw [if_pos h, bytesL_bs (inB_msgBytes m), h1.1, bs_size]
  rw [if_pos ⟨h1.2.2, h, rfl⟩]
theorem mGet_ok {s : ByteArray} (h : (mGet s).2 = 0) : mayB (mGet s).1 = true ∧ mPutS (mGet s).1 = s := by
  rw [mGet_def] at h ⊢
  split at h
  · rename_i h1
    rw [if_pos h1]
    refine ⟨h1.2.1, ?_⟩
    rw [mPutS_def]
    rw [if_pos h1.2.1, h1.2.2, bs_bytesL]
  · simp at h
theorem mGet_cases (s : ByteArray) : (mGet s).2 = 0 ∨ mGet s = (msg0, 1300) := by
  rw [mGet_def]
  split
  · exact .inl rfl
  · exact .inr rfl
theorem putE_cases (m : GMsg) : (mPutE m = 0 ∧ mayB m = true ∧ mPutS m = bs (msgBytes m)) ∨ (mPutE m = 1300 ∧ mayB m = false ∧ mPutS m = ByteArray.empty) := by
  rw [mPutE_def, mPutS_def]
  cases h : mayB m with
  | true => exact .inl ⟨rfl, rfl, rfl⟩
  | false => exact .inr ⟨rfl, rfl, rfl⟩
end Go.Proofs.Ytmgccphapkmmeaa
