/- A symbolic executor for loaded Go code: strings and their bytes. -/
import Derived.Test.YtmgccphapkmmeaaVAr
import Derived.Laws.Strings
namespace Go.Proofs.Ytmgccphapkmmeaa
open Go.RowKit

/-- The string of some bytes. -/
def bs (l : List Int) : ByteArray := ⟨(bytesOf l).toArray⟩
def InB (l : List Int) : Prop := ∀ x ∈ l, 0 ≤ x ∧ x < 256
theorem bytesOf_len (l : List Int) : (bytesOf l).length = l.length := by induction l <;> simp [bytesOf, *]
theorem bytesOf_app (a b : List Int) : bytesOf (a ++ b) = bytesOf a ++ bytesOf b := by induction a <;> simp [bytesOf, *]
theorem bs_size (l : List Int) : (bs l).size = l.length := by simp [bs, ByteArray.size, bytesOf_len]
theorem ba_ext {a b : ByteArray} (h : a.data = b.data) : a = b := by cases a; cases b; simp at h; rw [h]
theorem bs_app (a b : List Int) : bs a ++ bs b = bs (a ++ b) := by
  apply ba_ext
  simp [bs, bytesOf_app, ByteArray.data_append]
theorem bs_nil : bs [] = ByteArray.empty := rfl
theorem bytesL_bs {l : List Int} (h : InB l) : bytesL (bs l) = l := by
  induction l with
  | nil => simp [bytesL, bs, bytesOf]
  | cons x l ih =>
    have hx := h x (by simp)
    have ih := ih fun y hy => h y (by simp [hy])
    simp only [bytesL, bs, ByteArray.toList_mk] at ih ⊢
    simp only [bytesOf, List.map_cons, ih]
    congr 1
    have : (UInt8.ofNat x.toNat).toNat = x.toNat := by
      rw [UInt8.toNat_ofNat']
      omega
    rw [this]
    omega
theorem inB_bytesL (s : ByteArray) : InB (bytesL s) := by
  intro x hx
  simp only [bytesL, List.mem_map] at hx
  obtain ⟨b, _, rfl⟩ := hx
  have := b.toNat_lt
  omega
theorem bs_bytesL (s : ByteArray) : bs (bytesL s) = s := by
  apply ba_ext
  have key : ∀ l : List UInt8, bytesOf (l.map fun b => (b.toNat : Int)) = l := by
    intro l
    induction l with
    | nil => rfl
    | cons b l ih => simp [bytesOf, ih]
  simp only [bs, bytesL, key, ByteArray.toList_eq]
theorem byteAt_bytesL (s : ByteArray) (i : Nat) : byteAt s i = (bytesL s).getD i 0 := by
  rw [byteAt_def]
  split
  · rename_i h; rw [bytesL_get s h]
  · rename_i h
    rw [List.getD_eq_getElem?_getD, List.getElem?_eq_none (by rw [bytesL_len]; omega)]
    rfl
theorem getD_drop {α : Type} (l : List α) (a i : Nat) (d : α) : (l.drop a).getD i d = l.getD (a + i) d := by
  simp [List.getD_eq_getElem?_getD, List.getElem?_drop]
theorem bytesL_extract (s : ByteArray) (a : Nat) : bytesL (s.extract a s.size) = (bytesL s).drop a := by
  simp only [bytesL, ByteArray.toList_eq, ByteArray.data_extract]
  rw [← List.map_drop]
  congr 1
  simp only [ByteArray.size, Array.toList_extract, List.extract_eq_take_drop]
  rw [List.take_of_length_le (by simp)]
theorem str_beq (a b : ByteArray) : (a.toList == b.toList) = decide (a = b) := by
  by_cases h : a = b
  · subst h; simp
  · rw [decide_eq_false h]
    apply beq_eq_false_iff_ne.2
    intro e
    apply h
    apply ba_ext
    rw [ByteArray.toList_eq, ByteArray.toList_eq] at e
    exact Array.toList_inj.1 e
theorem bs_eq_iff {l : List Int} (h : InB l) (s : ByteArray) : bs l = s ↔ l = bytesL s := by
  constructor
  · rintro rfl; exact (bytesL_bs h).symm
  · rintro rfl; exact bs_bytesL s
/-- A byte. -/
def by8 (n : Int) : Int := IntKind.u8.wrap n
theorem by8_in (n : Int) : 0 ≤ by8 n ∧ by8 n < 256 := by unfold by8; rw [wu8]; omega
theorem by8_id {n : Int} (h : 0 ≤ n) (h' : n < 256) : by8 n = n := by unfold by8; rw [wu8]; omega
theorem wrap_byte (s : ByteArray) (i : Nat) : IntKind.i64.wrap (byteAt s i) = (bytesL s).getD i 0 := by
  rw [byteAt_bytesL]
  have : 0 ≤ (bytesL s).getD i 0 ∧ (bytesL s).getD i 0 < 256 := by
    by_cases h : i < (bytesL s).length
    · exact inB_bytesL s _ (by
        rw [List.getD_eq_getElem?_getD, List.getElem?_eq_getElem h]
        exact List.getElem_mem h)
    · rw [List.getD_eq_getElem?_getD, List.getElem?_eq_none (by omega)]
      exact ⟨by decide, by decide⟩
  exact wrapI (by omega) (by omega)
theorem getD_inB {l : List Int} (h : InB l) (i : Nat) : 0 ≤ l.getD i 0 ∧ l.getD i 0 < 256 := by
  by_cases hi : i < l.length
  · exact h _ (by
      rw [List.getD_eq_getElem?_getD, List.getElem?_eq_getElem hi]
      exact List.getElem_mem hi)
  · rw [List.getD_eq_getElem?_getD, List.getElem?_eq_none (by omega)]
    exact ⟨by decide, by decide⟩
theorem or_shl {a b : Int} (h1 : 0 ≤ a) (h2 : a < 256) (h3 : 0 ≤ b) (h4 : b < 256) : bits .or .i64 a (b * 256) = a + 256 * b := by
  obtain ⟨a, rfl⟩ := Int.eq_ofNat_of_zero_le h1
  obtain ⟨b, rfl⟩ := Int.eq_ofNat_of_zero_le h3
  have ha : (BitVec.ofInt 64 (a : Int)).toNat = a := by rw [BitVec.toNat_ofInt]; omega
  have hb : (BitVec.ofInt 64 ((b : Int) * 256)).toNat = b * 256 := by rw [BitVec.toNat_ofInt]; omega
  show IntKind.i64.wrap ((BitVec.ofInt 64 (a : Int) ||| BitVec.ofInt 64 ((b : Int) * 256)).toNat : Nat) = _
  rw [BitVec.toNat_or, ha, hb]
  have : a ||| b * 256 = 256 * b + a := by
    rw [Nat.or_comm, Nat.mul_comm]
    exact (Nat.two_pow_add_eq_or_of_lt (i := 8) (by omega) b).symm
  rw [this, wi64]
  omega
/-- Their sum. -/
def sumL (l : List Int) : Int := l.foldl (· + ·) 0
theorem sumL_app (a b : List Int) : sumL (a ++ b) = b.foldl (· + ·) (sumL a) := by simp [sumL, List.foldl_append]
theorem sumL_take {l : List Int} {i : Nat} (h : i < l.length) : sumL (l.take (i + 1)) = sumL (l.take i) + l.getD i 0 := by
  rw [List.take_succ_eq_append_getElem h, sumL_app]
  simp [List.getD_eq_getElem?_getD, h]
theorem by8_add (a b : Int) : IntKind.u8.wrap (by8 a + b) = by8 (a + b) := by
  unfold by8
  rw [wu8, wu8, wu8]
  omega
end Go.Proofs.Ytmgccphapkmmeaa
