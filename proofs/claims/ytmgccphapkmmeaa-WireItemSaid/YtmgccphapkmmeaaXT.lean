/- The arguments of a row, read as data: what they say. -/
import Derived.Test.YtmgccphapkmmeaaVDec
import Derived.ChangeArms
import Derived.SizedLaws
import Derived.DataReads
namespace Go.Proofs.Ytmgccphapkmmeaa
open Go.RowKit

def like : SV → SV → Prop
  | .int k _, x => ∃ n, x = .int k n
  | .bool _, x => ∃ b, x = .bool b
  | .str _, x => ∃ s, x = .str s
  | .nilS r, x => ∃ r' : Rw, x = .row .any r' ∧ r'.kd = r.kd
  | .row _ r, x => ∃ r' : Rw, x = .row .any r' ∧ r'.kd = r.kd
  | _, _ => False
def likeL (z xs : List SV) : Prop := z.length = xs.length ∧ ∀ (j : Nat) y, z[j]? = some y → ∃ x, xs[j]? = some x ∧ like y x
def samePat : SV → SV → Bool
  | .int k _, .int k' _ => sameK k k'
  | .bool _, .bool _ => true
  | .str _, .str _ => true
  | .nilS r, .nilS r' => Nat.beq r.kd r'.kd
  | _, _ => false
def samePatL : List SV → List SV → Bool
  | [], [] => true
  | x :: l, y :: l' => samePat x y && samePatL l l'
  | _, _ => false
def fldPat (τ : Tys) : List (Nat × TypeId) → Nat → List SV → Bool
  | [], _, zs => match zs with
    | [] => true
    | _ => false
  | (o, F) :: fs, off, zs => Nat.beq o off && match τ.ti F with
    | some i => samePatL i.zero (zs.take i.sz) && fldPat τ fs (off + i.sz) (zs.drop i.sz)
    | none => false
def patChk (τ : Tys) (i : TI) : Bool := match i.td, i.zero with
  | .int k, [.int k' _] => sameK k k'
  | .bool, [.bool _] => true
  | .str, [.str _] => true
  | .slice e, [.nilS r] => match τ.rk e with
    | some k => Nat.beq r.kd k
    | none => false
  | .struct fs, zs => fldPat τ fs 0 zs && Nat.beq zs.length i.sz
  | _, _ => false
/-- May an argument of that type be read so? -/
def readable (τ : Tys) : Nat → TypeId → Bool
  | 0, _ => false
  | n + 1, T => match τ.ti T with
    | some i => patChk τ i && match i.td with
      | .slice e => readable τ n e
      | .struct fs => fs.all fun q => readable τ n q.2
      | _ => true
    | none => false
theorem samePat_like {z y x : SV} (h : samePat z y = true) (hl : like z x) : like y x := by
  unfold samePat at h
  split at h
  · rw [← sameK_eq h]; exact hl
  · exact hl
  · exact hl
  · have := Nat.eq_of_beq_eq_true h
    obtain ⟨r', h1, h2⟩ := hl
    exact ⟨r', h1, by rw [← this]; exact h2⟩
  · simp at h
theorem likeL.cons_inv {z : SV} {zs xs : List SV} (h : likeL (z :: zs) xs) : ∃ x xs', xs = x :: xs' ∧ like z x ∧ likeL zs xs' := by
  cases xs with
  | nil => have := h.1; simp at this
  | cons x xs =>
    obtain ⟨x', h1, h2⟩ := h.2 0 z (by simp)
    simp at h1
    subst h1
    exact ⟨x, xs, rfl, h2, by have := h.1; simpa using this, fun j y hy => by simpa using h.2 (j + 1) y (by simpa using hy)⟩
theorem likeL.nil_inv {xs : List SV} (h : likeL [] xs) : xs = [] := by
  have := h.1; simp at this; exact List.eq_nil_of_length_eq_zero this.symm
theorem likeL.nil : likeL [] [] := ⟨rfl, fun j y h => by simp at h⟩
theorem likeL.cons {z x : SV} {zs xs : List SV} (h : like z x) (hl : likeL zs xs) : likeL (z :: zs) (x :: xs) := by
  refine ⟨by simp [hl.1], fun j y hy => ?_⟩
  cases j with
  | zero => simp at hy; subst hy; exact ⟨x, by simp, h⟩
  | succ j => simpa using hl.2 j y (by simpa using hy)
theorem samePatL_like : ∀ {z y xs : List SV}, samePatL z y = true → likeL z xs → likeL y xs
  | [], [], xs, _, h => h
  | z :: zs, y :: ys, xs, hp, h => by
    simp only [samePatL, Bool.and_eq_true] at hp
    obtain ⟨x, xs', rfl, h1, h2⟩ := h.cons_inv
    exact .cons (samePat_like hp.1 h1) (samePatL_like hp.2 h2)
  | [], _ :: _, _, h, _ => by simp [samePatL] at h
  | _ :: _, [], _, h, _ => by simp [samePatL] at h
theorem likeL.append {z y xs ys : List SV} (h : likeL z xs) (h' : likeL y ys) : likeL (z ++ y) (xs ++ ys) := by
  induction z generalizing xs with
  | nil => obtain rfl := h.nil_inv; exact h'
  | cons z zs ih =>
    obtain ⟨x, xs', rfl, h1, h2⟩ := h.cons_inv
    exact .cons h1 (ih h2)
/-- An element of each kind of row. -/
theorem mkLike (k n : Nat) (hk : k < 10) (X : Nat → List SV) (h : ∀ i, i < n → likeL ((Rw.zeros k 1).cell .any 0) (X i)) : ∃ r : Rw, r.kd = k ∧ r.len = n ∧ ∀ i, i < n → r.cell .any i = X i := by
  have build : ∀ {α : Type} (d : α) (f : List α → Rw) (c : α → List SV), (∀ l, (f l).len = l.length) → (∀ l i, (f l).cell .any i = c (l.getD i d)) → (∀ l, (f l).kd = k) → (∀ i, i < n → ∃ a, c a = X i) → ∃ r : Rw, r.kd = k ∧ r.len = n ∧ ∀ i, i < n → r.cell .any i = X i := by
    intro α d f c h1 h2 h3 h4
    obtain ⟨l, hl, hg⟩ : ∃ l : List α, l.length = n ∧ ∀ i, i < n → c (l.getD i d) = X i := by
      refine ⟨(List.range n).map fun i => if hi : i < n then Classical.choose (h4 i hi) else d, by simp, fun i hi => ?_⟩
      simp only [List.getD_eq_getElem?_getD, List.getElem?_map, List.getElem?_range hi, Option.map_some, Option.getD_some, hi, dif_pos]
      exact Classical.choose_spec (h4 i hi)
    exact ⟨f l, h3 l, by rw [h1, hl], fun i hi => by rw [h2, hg i hi]⟩
  obtain rfl | rfl | rfl | rfl | rfl | rfl | rfl | rfl | rfl | rfl : k = 0 ∨ k = 1 ∨ k = 2 ∨ k = 3 ∨ k = 4 ∨ k = 5 ∨ k = 6 ∨ k = 7 ∨ k = 8 ∨ k = 9 := by omega
  · refine build ((0 : Int)) .ints (fun x => [.int .i64 x]) (fun _ => rfl) (fun _ _ => rfl) (fun _ => rfl) fun i hi => ?_
    have hh : likeL _ (X i) := h i hi
    obtain ⟨x0, xs0, e0, l0, g0⟩ := likeL.cons_inv (show likeL (_ :: _) _ from hh)
    have en := likeL.nil_inv (show likeL [] _ from g0)
    obtain ⟨a0, rfl⟩ := l0
    subst en
    exact ⟨a0, e0.symm⟩
  · refine build ((0 : Int)) .bytes (fun x => [.int .u8 x]) (fun _ => rfl) (fun _ _ => rfl) (fun _ => rfl) fun i hi => ?_
    have hh : likeL _ (X i) := h i hi
    obtain ⟨x0, xs0, e0, l0, g0⟩ := likeL.cons_inv (show likeL (_ :: _) _ from hh)
    have en := likeL.nil_inv (show likeL [] _ from g0)
    obtain ⟨a0, rfl⟩ := l0
    subst en
    exact ⟨a0, e0.symm⟩
  · refine build (ByteArray.empty) .strs (fun x => [.str x]) (fun _ => rfl) (fun _ _ => rfl) (fun _ => rfl) fun i hi => ?_
    have hh : likeL _ (X i) := h i hi
    obtain ⟨x0, xs0, e0, l0, g0⟩ := likeL.cons_inv (show likeL (_ :: _) _ from hh)
    have en := likeL.nil_inv (show likeL [] _ from g0)
    obtain ⟨a0, rfl⟩ := l0
    subst en
    exact ⟨a0, e0.symm⟩
  · refine build (default) .peers (GPeer.cells) (fun _ => rfl) (fun _ _ => rfl) (fun _ => rfl) fun i hi => ?_
    have hh : likeL _ (X i) := h i hi
    obtain ⟨x0, xs0, e0, l0, g0⟩ := likeL.cons_inv (show likeL (_ :: _) _ from hh)
    obtain ⟨x1, xs1, e1, l1, g1⟩ := likeL.cons_inv (show likeL (_ :: _) _ from g0)
    have en := likeL.nil_inv (show likeL [] _ from g1)
    obtain ⟨a0, rfl⟩ := l0
    obtain ⟨a1, rfl⟩ := l1
    subst en
    subst e1
    exact ⟨⟨a0, a1⟩, e0.symm⟩
  · refine build (default) .items (GItem.cells) (fun _ => rfl) (fun _ _ => rfl) (fun _ => rfl) fun i hi => ?_
    have hh : likeL _ (X i) := h i hi
    obtain ⟨x0, xs0, e0, l0, g0⟩ := likeL.cons_inv (show likeL (_ :: _) _ from hh)
    obtain ⟨x1, xs1, e1, l1, g1⟩ := likeL.cons_inv (show likeL (_ :: _) _ from g0)
    obtain ⟨x2, xs2, e2, l2, g2⟩ := likeL.cons_inv (show likeL (_ :: _) _ from g1)
    obtain ⟨x3, xs3, e3, l3, g3⟩ := likeL.cons_inv (show likeL (_ :: _) _ from g2)
    obtain ⟨x4, xs4, e4, l4, g4⟩ := likeL.cons_inv (show likeL (_ :: _) _ from g3)
    have en := likeL.nil_inv (show likeL [] _ from g4)
    obtain ⟨a0, rfl⟩ := l0
    obtain ⟨a1, rfl⟩ := l1
    obtain ⟨a2, rfl⟩ := l2
    obtain ⟨a3, rfl⟩ := l3
    obtain ⟨a4, rfl⟩ := l4
    subst en
    subst e4
    subst e3
    subst e2
    subst e1
    exact ⟨⟨a0, ⟨a1, a2⟩, a3, a4⟩, e0.symm⟩
  · refine build (default) .tolds (GTold.cells) (fun _ => rfl) (fun _ _ => rfl) (fun _ => rfl) fun i hi => ?_
    have hh : likeL _ (X i) := h i hi
    obtain ⟨x0, xs0, e0, l0, g0⟩ := likeL.cons_inv (show likeL (_ :: _) _ from hh)
    obtain ⟨x1, xs1, e1, l1, g1⟩ := likeL.cons_inv (show likeL (_ :: _) _ from g0)
    obtain ⟨x2, xs2, e2, l2, g2⟩ := likeL.cons_inv (show likeL (_ :: _) _ from g1)
    have en := likeL.nil_inv (show likeL [] _ from g2)
    obtain ⟨a0, rfl⟩ := l0
    obtain ⟨a1, rfl⟩ := l1
    obtain ⟨a2, rfl⟩ := l2
    subst en
    subst e2
    subst e1
    exact ⟨⟨a0, a1, a2⟩, e0.symm⟩
  · refine build (default) .cuts (GCut.cells) (fun _ => rfl) (fun _ _ => rfl) (fun _ => rfl) fun i hi => ?_
    have hh : likeL _ (X i) := h i hi
    obtain ⟨x0, xs0, e0, l0, g0⟩ := likeL.cons_inv (show likeL (_ :: _) _ from hh)
    obtain ⟨x1, xs1, e1, l1, g1⟩ := likeL.cons_inv (show likeL (_ :: _) _ from g0)
    have en := likeL.nil_inv (show likeL [] _ from g1)
    obtain ⟨a0, rfl⟩ := l0
    obtain ⟨a1, rfl⟩ := l1
    subst en
    subst e1
    exact ⟨⟨a0, a1⟩, e0.symm⟩
  · refine build (default) .msgs (GMsg.cells .any) (fun _ => rfl) (fun _ _ => rfl) (fun _ => rfl) fun i hi => ?_
    have hh : likeL _ (X i) := h i hi
    obtain ⟨x0, xs0, e0, l0, g0⟩ := likeL.cons_inv (show likeL (_ :: _) _ from hh)
    obtain ⟨x1, xs1, e1, l1, g1⟩ := likeL.cons_inv (show likeL (_ :: _) _ from g0)
    obtain ⟨x2, xs2, e2, l2, g2⟩ := likeL.cons_inv (show likeL (_ :: _) _ from g1)
    obtain ⟨x3, xs3, e3, l3, g3⟩ := likeL.cons_inv (show likeL (_ :: _) _ from g2)
    obtain ⟨x4, xs4, e4, l4, g4⟩ := likeL.cons_inv (show likeL (_ :: _) _ from g3)
    obtain ⟨x5, xs5, e5, l5, g5⟩ := likeL.cons_inv (show likeL (_ :: _) _ from g4)
    obtain ⟨x6, xs6, e6, l6, g6⟩ := likeL.cons_inv (show likeL (_ :: _) _ from g5)
    obtain ⟨x7, xs7, e7, l7, g7⟩ := likeL.cons_inv (show likeL (_ :: _) _ from g6)
    obtain ⟨x8, xs8, e8, l8, g8⟩ := likeL.cons_inv (show likeL (_ :: _) _ from g7)
    obtain ⟨x9, xs9, e9, l9, g9⟩ := likeL.cons_inv (show likeL (_ :: _) _ from g8)
    obtain ⟨x10, xs10, e10, l10, g10⟩ := likeL.cons_inv (show likeL (_ :: _) _ from g9)
    have en := likeL.nil_inv (show likeL [] _ from g10)
    obtain ⟨a0, rfl⟩ := l0
    obtain ⟨a1, rfl⟩ := l1
    obtain ⟨a2, rfl⟩ := l2
    obtain ⟨q3, rfl, k3⟩ := l3
    obtain ⟨a3, rfl⟩ : ∃ l, q3 = .ints l := by cases q3 <;> first | exact ⟨_, rfl⟩ | (simp [Rw.kd] at k3; done)
    obtain ⟨a4, rfl⟩ := l4
    obtain ⟨a5, rfl⟩ := l5
    obtain ⟨a6, rfl⟩ := l6
    obtain ⟨a7, rfl⟩ := l7
    obtain ⟨a8, rfl⟩ := l8
    obtain ⟨a9, rfl⟩ := l9
    obtain ⟨a10, rfl⟩ := l10
    subst en
    subst e10
    subst e9
    subst e8
    subst e7
    subst e6
    subst e5
    subst e4
    subst e3
    subst e2
    subst e1
    exact ⟨⟨a0, a1, a2, a3, a4, ⟨a5, ⟨a6, a7⟩, a8, a9⟩, a10⟩, e0.symm⟩
  · refine build (default) .nodes (GNode.cells .any) (fun _ => rfl) (fun _ _ => rfl) (fun _ => rfl) fun i hi => ?_
    have hh : likeL _ (X i) := h i hi
    obtain ⟨x0, xs0, e0, l0, g0⟩ := likeL.cons_inv (show likeL (_ :: _) _ from hh)
    obtain ⟨x1, xs1, e1, l1, g1⟩ := likeL.cons_inv (show likeL (_ :: _) _ from g0)
    obtain ⟨x2, xs2, e2, l2, g2⟩ := likeL.cons_inv (show likeL (_ :: _) _ from g1)
    obtain ⟨x3, xs3, e3, l3, g3⟩ := likeL.cons_inv (show likeL (_ :: _) _ from g2)
    obtain ⟨x4, xs4, e4, l4, g4⟩ := likeL.cons_inv (show likeL (_ :: _) _ from g3)
    obtain ⟨x5, xs5, e5, l5, g5⟩ := likeL.cons_inv (show likeL (_ :: _) _ from g4)
    have en := likeL.nil_inv (show likeL [] _ from g5)
    obtain ⟨a0, rfl⟩ := l0
    obtain ⟨a1, rfl⟩ := l1
    obtain ⟨q2, rfl, k2⟩ := l2
    obtain ⟨a2, rfl⟩ : ∃ l, q2 = .peers l := by cases q2 <;> first | exact ⟨_, rfl⟩ | (simp [Rw.kd] at k2; done)
    obtain ⟨q3, rfl, k3⟩ := l3
    obtain ⟨a3, rfl⟩ : ∃ l, q3 = .ints l := by cases q3 <;> first | exact ⟨_, rfl⟩ | (simp [Rw.kd] at k3; done)
    obtain ⟨q4, rfl, k4⟩ := l4
    obtain ⟨a4, rfl⟩ : ∃ l, q4 = .items l := by cases q4 <;> first | exact ⟨_, rfl⟩ | (simp [Rw.kd] at k4; done)
    obtain ⟨q5, rfl, k5⟩ := l5
    obtain ⟨a5, rfl⟩ : ∃ l, q5 = .tolds l := by cases q5 <;> first | exact ⟨_, rfl⟩ | (simp [Rw.kd] at k5; done)
    subst en
    subst e5
    subst e4
    subst e3
    subst e2
    subst e1
    exact ⟨⟨a0, ⟨a1, a2, a3⟩, a4, a5⟩, e0.symm⟩
  · refine build (default) .acts (GAct.cells .any) (fun _ => rfl) (fun _ _ => rfl) (fun _ => rfl) fun i hi => ?_
    have hh : likeL _ (X i) := h i hi
    obtain ⟨x0, xs0, e0, l0, g0⟩ := likeL.cons_inv (show likeL (_ :: _) _ from hh)
    obtain ⟨x1, xs1, e1, l1, g1⟩ := likeL.cons_inv (show likeL (_ :: _) _ from g0)
    obtain ⟨x2, xs2, e2, l2, g2⟩ := likeL.cons_inv (show likeL (_ :: _) _ from g1)
    obtain ⟨x3, xs3, e3, l3, g3⟩ := likeL.cons_inv (show likeL (_ :: _) _ from g2)
    obtain ⟨x4, xs4, e4, l4, g4⟩ := likeL.cons_inv (show likeL (_ :: _) _ from g3)
    obtain ⟨x5, xs5, e5, l5, g5⟩ := likeL.cons_inv (show likeL (_ :: _) _ from g4)
    obtain ⟨x6, xs6, e6, l6, g6⟩ := likeL.cons_inv (show likeL (_ :: _) _ from g5)
    have en := likeL.nil_inv (show likeL [] _ from g6)
    obtain ⟨a0, rfl⟩ := l0
    obtain ⟨a1, rfl⟩ := l1
    obtain ⟨a2, rfl⟩ := l2
    obtain ⟨a3, rfl⟩ := l3
    obtain ⟨q4, rfl, k4⟩ := l4
    obtain ⟨a4, rfl⟩ : ∃ l, q4 = .ints l := by cases q4 <;> first | exact ⟨_, rfl⟩ | (simp [Rw.kd] at k4; done)
    obtain ⟨a5, rfl⟩ := l5
    obtain ⟨a6, rfl⟩ := l6
    subst en
    subst e6
    subst e5
    subst e4
    subst e3
    subst e2
    subst e1
    exact ⟨⟨a0, a1, a2, a3, a4, a5, a6⟩, e0.symm⟩
/-! ### Down -/
section
variable {H : Type} {enc : TypeId × Value → H} {P : Program} {τ : Tys} {W : World} {held : Bool}
theorem weights_agg {T : TypeId} {fs : Array Field} {parts : List (DataW H)} (hu : P.underlying T = some (.struct fs)) : DataW.weights P T (.agg parts) = DataW.weightsEach P (fs.toList.map (·.type)) parts := by simp [DataW.weights, hu]
theorem weights_all {e : TypeId} {l : List (DataW H)} {d : DataW H} (h : d ∈ l) : ∀ n ∈ d.weights P e, n ∈ DataW.weightsAll P e l := by
  induction l with
  | nil => simp at h
  | cons x l ih =>
    intro n hn
    simp only [DataW.weightsAll, List.mem_append]
    rcases List.mem_cons.1 h with rfl | h
    · exact .inl hn
    · exact .inr (ih h n hn)
theorem fitL_like {z y xs : List SV} (h : FitL z y) (hl : likeL z xs) : likeL y xs := by
  refine ⟨h.1.symm.trans hl.1, fun j c hc => ?_⟩
  obtain ⟨b, hb, hf⟩ := h.2 j c hc
  obtain ⟨x, hx, hlx⟩ := hl.2 j b hb
  refine ⟨x, hx, ?_⟩
  cases b <;> cases c <;> simp only [Fit] at hf <;> first
    | exact hf.elim
    | (obtain ⟨rfl, rfl⟩ := hf; exact hlx)
    | exact hlx
    | (obtain ⟨rfl, _⟩ := hf; exact hlx)
    | (simp [like] at hlx; done)
theorem sub_app {fs : List (Nat × TypeId)} {cs : List Value} (hz : ∀ F i, τ.ti F = some i → i.zero.length = i.sz) (hcell : ∀ (j : Nat) (o F : Nat) (i : TI), fs[j]? = some (o, F) → τ.ti F = some i → ∃ xs, likeL i.zero xs ∧ L0 (vd0 E0 [] W) xs ((cs.drop o).take i.sz)) :
    ∀ (l : List (Nat × TypeId)) (off : Nat) (zs : List SV), (∀ q ∈ l, ∃ j : Nat, fs[j]? = some q) → fldPat τ l off zs = true → zs.length + off = cs.length → ∃ xs, likeL zs xs ∧ L0 (vd0 E0 [] W) xs (cs.drop off)
  | [], off, zs, _, h, hl => by
    cases zs with
    | cons z zs => simp [fldPat] at h
    | nil => exact ⟨[], likeL.nil, by rw [List.drop_eq_nil_of_le (by simp at hl; omega)]; exact L0.nil⟩
  | (o, F) :: l, off, zs, hm, h, hl => by
    simp only [fldPat, Bool.and_eq_true] at h
    obtain ⟨h1, h2⟩ := h
    obtain rfl := Nat.eq_of_beq_eq_true h1
    split at h2
    · rename_i i hi
      simp only [Bool.and_eq_true] at h2
      obtain ⟨h3, h4⟩ := h2
      obtain ⟨j, hj⟩ := hm (o, F) (by simp)
      obtain ⟨xs, hx1, hx2⟩ := hcell j o F i hj hi
      have hlen : i.zero.length = (zs.take i.sz).length := by
        have : ∀ {a b : List SV}, samePatL a b = true → a.length = b.length := by
          intro a
          induction a with
          | nil => intro b hb; cases b <;> simp [samePatL] at hb ⊢
          | cons x a ih =>
            intro b hb
            cases b with
            | nil => simp [samePatL] at hb
            | cons y b => simp only [samePatL, Bool.and_eq_true] at hb; simp [ih hb.2]
        exact this h3
      have hzl : i.sz ≤ zs.length := by
        have e1 := hz F i hi
        simp at hlen
        omega
      obtain ⟨ys, hy1, hy2⟩ := sub_app hz hcell l (o + i.sz) (zs.drop i.sz) (fun q hq => hm q (by simp [hq])) h4 (by simp; omega)
      refine ⟨xs ++ ys, ?_, ?_⟩
      · have := (samePatL_like h3 hx1).append hy1
        rwa [List.take_append_drop] at this
      · have := hx2.append hy2
        rwa [← List.drop_drop, List.take_append_drop] at this
    · simp at h2
theorem addr_add_add (a : Addr) (i j : Nat) : (a.add i).add j = a.add (i + j) := by
  unfold Addr.add
  by_cases hi : i = 0 <;> by_cases hj : j = 0 <;> simp [hi, hj, Nat.add_assoc]
theorem cell_row_flat {r r' : Rw} {t t' : Tag} {i j : Nat} (h : (r.cell t i)[j]? = some (.row t' r')) : r'.flat = true := by
  have hm := List.mem_of_getElem? h
  cases r <;> simp [Rw.cell, GItem.cells, GPeer.cells, GTold.cells, GCut.cells, GMsg.cells, GNode.cells, GAct.cells] at hm
  · obtain ⟨_, rfl⟩ := hm; rfl
  · rcases hm with ⟨_, rfl⟩ | ⟨_, rfl⟩ | ⟨_, rfl⟩ | ⟨_, rfl⟩ <;> rfl
  · obtain ⟨_, rfl⟩ := hm; rfl
theorem trod_cells (hτ : TysOk P τ) : ∀ (m fuel : Nat) (T : TypeId) (i : TI) (cs : List Value) (x : DataW H × List MemPlace), readable τ m T = true → τ.ti T = some i →
    DataW.trod enc P W 0 (fun _ => true) held fuel T cs = some x → (∀ n ∈ x.1.weights P T, n ≤ reachBytes) → ∃ xs, likeL i.zero xs ∧ L0 (vd0 E0 [] W) xs cs := by
  have hz : ∀ F i, τ.ti F = some i → i.zero.length = i.sz := by
    intro F i hi
    obtain ⟨x, z, _, _, _, _, h5, h6⟩ := (hτ.ti F i hi).info
    have := (h6 E0 [] W).1
    simp at this
    omega
  have hcells : ∀ F i, τ.ti F = some i → P.cellsOf F = i.sz := by
    intro F i hi
    obtain ⟨x, z, h1, h2, _⟩ := (hτ.ti F i hi).info
    simp [Program.cellsOf, h1, h2]
  have hbytes : ∀ F i, τ.ti F = some i → P.bytesOf F = i.bytes := by
    intro F i hi
    obtain ⟨x, z, h1, _, h3, _⟩ := (hτ.ti F i hi).info
    simp [Program.bytesOf, h1, h3]
  intro m
  induction m with
  | zero => intro fuel T i cs x hr; simp [readable] at hr
  | succ m ih =>
    intro fuel T i cs x hr hi h hw
    obtain ⟨d, hu, hd⟩ := (hτ.ti T i hi).und
    simp only [readable, hi, Bool.and_eq_true] at hr
    obtain ⟨hp, hr⟩ := hr
    unfold patChk at hp
    split at hp
    · rename_i k k' n htd hzr
      rw [htd] at hd
      obtain rfl : d = _ := hd
      obtain ⟨m, rfl, _⟩ := DataW.trod_int hu h
      rw [hzr, ← sameK_eq hp]
      exact ⟨[.int k m], .cons ⟨m, rfl⟩ .nil, .cons rfl .nil⟩
    · rename_i b htd hzr
      rw [htd] at hd
      obtain rfl : d = _ := hd
      obtain ⟨m, rfl, _⟩ := DataW.trod_bool hu h
      rw [hzr]
      exact ⟨[.bool m], .cons ⟨m, rfl⟩ .nil, .cons rfl .nil⟩
    · rename_i b htd hzr
      rw [htd] at hd
      obtain rfl : d = _ := hd
      obtain ⟨m, rfl, _⟩ := DataW.trod_string hu h
      rw [hzr]
      exact ⟨[.str m], .cons ⟨m, rfl⟩ .nil, .cons rfl .nil⟩
    · rename_i e r htd hzr
      rw [htd] at hd
      obtain rfl : d = _ := hd
      split at hp
      · rename_i k hk
        obtain ⟨hk10, het, ie, hie, hsz, hby, hfit, hnr⟩ := hτ.rk e k hk
        have hrk := Nat.eq_of_beq_eq_true hp
        rw [hzr]
        rcases DataW.trod_slice hu h with ⟨rfl, _⟩ | ⟨a, len, cap, elems, rest, n, hfu, rfl, rfl, _, hl, hm, hlen, hel, _, _⟩
        · obtain ⟨r', h1, h2, _⟩ := mkLike k 0 hk10 (fun _ => []) fun i hi => absurd hi (Nat.not_lt_zero _)
          exact ⟨[.row .any r'], .cons ⟨r', rfl, h1.trans hrk.symm⟩ .nil, .cons (show RowDen W (E0.F .any) r' (.slice none 0 0) from empty_row h2 _) .nil⟩
        · have hwt : ∀ y ∈ elems, ∀ n ∈ y.1.weights P e, n ≤ reachBytes := fun y hy n hn => hw n (by
            simp only [DataW.weights, hu, List.mem_cons, List.mem_append]
            exact .inr (.inl (weights_all (List.mem_map.2 ⟨y, hy, rfl⟩) n hn)))
          have hsize : len * ie.bytes ≤ 140737488355328 := by
            have := hw ((elems.length + rest.length) * P.bytesOf e) (by simp [DataW.weights, hu])
            rw [hbytes e ie hie, Nat.add_mul, hlen] at this
            have : len * ie.bytes ≤ reachBytes := by omega
            exact Nat.le_trans this (by decide)
          have hX : ∀ i, i < len → ∃ xs : List SV, likeL ie.zero xs ∧ ∃ cs', W.cells? 0 (a.add (i * P.cellsOf e)) (P.cellsOf e) = some cs' ∧ L0 (vd0 E0 [] W) xs cs' := by
            intro i hi
            have h1 := hel i hi
            rw [List.getElem?_eq_getElem (by omega)] at h1
            obtain ⟨cs', h2, h3⟩ := Option.bind_eq_some_iff.1 h1
            obtain ⟨xs, h4, h5⟩ := ih _ e ie cs' _ (by rw [htd] at hr; exact hr) hie h3 (hwt _ (List.getElem_mem _))
            exact ⟨xs, h4, cs', h2, h5⟩
          obtain ⟨X, hX⟩ : ∃ X : Nat → List SV, ∀ i, i < len → likeL ie.zero (X i) ∧ ∃ cs', W.cells? 0 (a.add (i * P.cellsOf e)) (P.cellsOf e) = some cs' ∧ L0 (vd0 E0 [] W) (X i) cs' :=
            ⟨fun i => if hi : i < len then Classical.choose (hX i hi) else [], fun i hi => by simp only [hi, dif_pos]; exact Classical.choose_spec (hX i hi)⟩
          obtain ⟨r', g1, g2, g3⟩ := mkLike k len hk10 X fun i hi => fitL_like hfit (hX i hi).1
          refine ⟨[.row .any r'], .cons ⟨r', rfl, g1.trans hrk.symm⟩ .nil, .cons ?_ .nil⟩
          have hrs : r'.sz = P.cellsOf e := by rw [hcells e ie hie, hsz]; simp [Rw.sz, g1]
          have hpos : 0 < P.cellsOf e := by rw [← hrs]; exact sz_pos r'
          refine ⟨by rw [g2]; simpa [Rw.bts, g1, ← hby] using hsize, some a, cap, by rw [g2], by rw [g2]; exact hl, fun h0 => ⟨a, rfl, ?_, E0_F _ rfl _, fun i j x hi hx => ?_⟩⟩
          · rw [g2] at h0
            obtain ⟨_, cs', h1, _⟩ := hX 0 h0
            obtain ⟨_, h2, h3⟩ := World.cells?_some h1
            have := h3 0 hpos
            rw [List.getElem?_eq_getElem (by omega)] at this
            have hsp := World.cell?_spot this
            simpa [Addr.add] using hsp
          · rw [g2] at hi
            rw [g3 i hi] at hx
            obtain ⟨hl1, cs', h1, h2⟩ := hX i hi
            obtain ⟨u, hu', hv⟩ := h2.2 j x hx
            obtain ⟨_, h4, h5⟩ := World.cells?_some h1
            have hj : j < P.cellsOf e := by rw [← h4]; exact (List.getElem?_eq_some_iff.1 hu').1
            refine ⟨u, ?_, ?_⟩
            · have := h5 j hj
              rw [hu', addr_add_add, ← hrs] at this
              exact this
            · rw [← g3 i hi] at hx
              cases x with
              | row t'' r'' =>
                have hlk := hl1.2 j
                have ht : t'' = .any := cell_retag .any r' i j _ hx t'' r'' rfl
                subst ht
                exact RowDen.flat hv (cell_row_flat hx)
              | int k n => exact hv
              | bool b => exact hv
              | lit b => exact hv
              | str b => exact hv
              | _ =>
                have := List.mem_of_getElem? hx
                cases r' <;> simp [Rw.cell, GItem.cells, GPeer.cells, GTold.cells, GCut.cells, GMsg.cells, GNode.cells, GAct.cells] at this
      · simp at hp
    · rename_i _ _ fs htd
      rw [htd] at hd
      obtain ⟨fa, rfl, hfa⟩ := hd
      simp only [Bool.and_eq_true] at hp
      obtain ⟨xs, n, hfu, rfl, hlen, hxs, hf⟩ := DataW.trod_struct hu h
      rw [hcells T i hi] at hlen
      have := sub_app (τ := τ) (W := W) (fs := fs) (cs := cs) hz ?_ fs 0 i.zero (fun q hq => List.mem_iff_getElem?.1 hq) hp.1 (by rw [Nat.eq_of_beq_eq_true hp.2, hlen]; rfl)
      · simpa using this
      · intro j o F iF hj hiF
        have hj' := hfa j
        rw [nth_eq, hj] at hj'
        obtain ⟨f, hfj, hfe⟩ := Option.map_eq_some_iff.1 hj'.symm
        simp only [Prod.mk.injEq] at hfe
        obtain ⟨rfl, rfl⟩ := hfe
        have h1 := hf j f hfj
        have hjx : j < xs.length := by rw [hxs]; exact (Array.getElem?_eq_some_iff.1 hfj).1
        rw [List.getElem?_eq_getElem hjx, hcells _ iF hiF] at h1
        refine ih _ f.type iF _ _ (by rw [htd] at hr; simp only [List.all_eq_true] at hr; exact hr (f.offset, f.type) (List.mem_of_getElem? hj)) hiF h1 fun n hn => hw n ?_
        rw [weights_agg hu]
        exact DataW.weights_mem_each (j := j) (t := f.type) (d := xs[j].1) (by simp [List.getElem?_map, hfj]) (by simp [hjx]) n hn
    · simp at hp
end
end Go.Proofs.Ytmgccphapkmmeaa
