/- A symbolic executor for loaded Go code: the type table, checked by computation. -/
import Derived.Test.YtmgccphapkmmeaaVZ
namespace Go.Proofs.Ytmgccphapkmmeaa
open Go.RowKit

inductive Tr (α : Type) where
  | nil
  | leaf (k : Nat) (v : α)
  | node (m : Nat) (l r : Tr α)
def Tr.get {α : Type} : Tr α → Nat → Option α
  | .nil, _ => none
  | .leaf k v, t => match Nat.beq k t with
    | true => some v
    | false => none
  | .node m l r, t => match Nat.blt t m with
    | true => l.get t
    | false => r.get t
def Tr.all {α : Type} (p : Nat → α → Bool) : Tr α → Bool
  | .nil => true
  | .leaf k v => p k v
  | .node _ l r => match l.all p with
    | true => r.all p
    | false => false
theorem Tr.get_all {α : Type} {p : Nat → α → Bool} : ∀ {t : Tr α}, t.all p = true → ∀ k v, t.get k = some v → p k v = true
  | .nil, _, k, v, h => by simp [Tr.get] at h
  | .leaf k' v', ha, k, v, h => by
    simp only [Tr.get] at h
    split at h
    · rename_i hk
      obtain rfl := Nat.eq_of_beq_eq_true hk
      simp at h
      subst h
      exact ha
    · simp at h
  | .node m l r, ha, k, v, h => by
    simp only [Tr.all] at ha
    split at ha
    · rename_i hl
      simp only [Tr.get] at h
      split at h
      · exact Tr.get_all hl k v h
      · exact Tr.get_all ha k v h
    · simp at ha
def zeroChk : List SV → List Value → Bool
  | [], [] => true
  | .int k n :: l, .int k' n' :: l' => sameK k k' && decide (n = n') && zeroChk l l'
  | .bool b :: l, .bool c :: l' => sameB b c && zeroChk l l'
  | .str s :: l, .string s' :: l' => decide (s.size = 0) && decide (s'.size = 0) && zeroChk l l'
  | .nilS r :: l, .slice none 0 0 :: l' => decide (r.len = 0) && zeroChk l l'
  | _, _ => false
theorem bytes_empty {s t : ByteArray} (h : s.size = 0) (h' : t.size = 0) : t = s := by
  have key : ∀ {u : ByteArray}, u.size = 0 → u = ByteArray.empty := by
    intro u hu
    obtain ⟨d⟩ := u
    have : d.size = 0 := hu
    have : d = #[] := Array.eq_empty_of_size_eq_zero this
    subst this
    rfl
  rw [key h, key h']
theorem zeroChk_ok (E : Env) (R : List (Nat × Ent)) (w : World) : ∀ (l : List SV) (us : List Value), zeroChk l us = true → L0 (vd0 E R w) l us
  | [], [], _ => L0.nil
  | x :: l, u :: us, h => by
    unfold zeroChk at h
    split at h <;> (try simp only [Bool.and_eq_true, decide_eq_true_eq] at h)
    · rename_i h1 h2; simp at h1
    · rename_i k n l1 k' n' l1' h1 h2
      injection h1 with h1 h3; injection h2 with h2 h4; subst h1; subst h2; subst h3; subst h4
      obtain ⟨⟨h5, h6⟩, h7⟩ := h
      rw [sameK_eq h5, h6]
      exact .cons rfl (zeroChk_ok E R w _ _ h7)
    · rename_i b l1 c l1' h1 h2
      injection h1 with h1 h3; injection h2 with h2 h4; subst h1; subst h2; subst h3; subst h4
      obtain ⟨h5, h7⟩ := h
      rw [sameB_eq h5]
      exact .cons rfl (zeroChk_ok E R w _ _ h7)
    · rename_i s l1 t l1' h1 h2
      injection h1 with h1 h3; injection h2 with h2 h4; subst h1; subst h2; subst h3; subst h4
      obtain ⟨⟨h5, h6⟩, h7⟩ := h
      rw [bytes_empty h5 h6]
      exact .cons rfl (zeroChk_ok E R w _ _ h7)
    · rename_i r l1 l1' h1 h2
      injection h1 with h1 h3; injection h2 with h2 h4; subst h1; subst h2; subst h3; subst h4
      obtain ⟨h5, h7⟩ := h
      exact .cons ⟨rfl, h5⟩ (zeroChk_ok E R w _ _ h7)
    · simp at h
  | [], _ :: _, h => by simp [zeroChk] at h
  | x :: l, [], h => by unfold zeroChk at h; split at h <;> first | (rename_i h1 h2; simp at h2; done) | (simp at h; done) | (rename_i h1 _; simp at h1)
def fldChk : List Field → List (Nat × TypeId) → Bool
  | [], [] => true
  | f :: l, (o, T) :: l' => Nat.beq f.offset o && Nat.beq f.type T && fldChk l l'
  | _, _ => false
theorem fldChk_ok : ∀ (l : List Field) (l' : List (Nat × TypeId)), fldChk l l' = true → l' = l.map fun f => (f.offset, f.type)
  | [], [], _ => rfl
  | f :: l, (o, T) :: l', h => by
    simp only [fldChk, Bool.and_eq_true] at h
    obtain ⟨⟨h1, h2⟩, h3⟩ := h
    rw [fldChk_ok l l' h3, ← Nat.eq_of_beq_eq_true h1, ← Nat.eq_of_beq_eq_true h2]
    rfl
  | [], _ :: _, h => by simp [fldChk] at h
  | _ :: _, [], h => by simp [fldChk] at h
def tdChk : TypeDesc → TD → Bool
  | .int k, .int k' => sameK k k'
  | .bool, .bool => true
  | .string, .str => true
  | .slice e, .slice e' => Nat.beq e e'
  | .struct fa, .struct fs => fldChk fa.toList fs
  | .array n e, .arr n' e' => Nat.beq n n' && Nat.beq e e'
  | _, _ => false
theorem tdChk_ok {d : TypeDesc} {t : TD} (h : tdChk d t = true) : tdOk d t := by
  unfold tdChk at h
  split at h
  · rw [sameK_eq h]; rfl
  · rfl
  · rfl
  · rw [Nat.eq_of_beq_eq_true h]; rfl
  · rename_i fa fs
    refine ⟨fa, rfl, fun j => ?_⟩
    rw [nth_eq, fldChk_ok _ _ h]
    simp
  · simp only [Bool.and_eq_true] at h
    rw [Nat.eq_of_beq_eq_true h.1, Nat.eq_of_beq_eq_true h.2]
    rfl
  · simp at h
def isSomeB {α : Type} : Option α → Bool
  | some _ => true
  | none => false
theorem isSomeB_ok {α : Type} {o : Option α} (h : isSomeB o = true) : ∃ x, o = some x := by cases o with
  | none => simp [isSomeB] at h
  | some x => exact ⟨x, rfl⟩
def subChk (τ : Tys) : TD → Bool
  | .struct fs => fs.all fun p => isSomeB (τ.ti p.2)
  | .arr _ e => isSomeB (τ.ti e)
  | _ => true
def tiChk (P : Program) (τ : Tys) (T : TypeId) (i : TI) : Bool := match P.info? T, P.underlying T with
  | some x, some d => match x.zero with
    | some z => Nat.beq x.size i.sz && Nat.beq x.bytes i.bytes && Nat.beq z.cells.size i.sz && zeroChk i.zero z.cells.toList && tdChk d i.td && subChk τ i.td
    | none => false
  | _, _ => false
theorem tiChk_ok {P : Program} {τ : Tys} {T : TypeId} {i : TI} (h : tiChk P τ T i = true) : TiOk P τ T i := by
  unfold tiChk at h
  split at h
  · rename_i x d hx hd
    split at h
    · rename_i z hz
      simp only [Bool.and_eq_true] at h
      obtain ⟨⟨⟨⟨⟨h1, h2⟩, h3⟩, h4⟩, h5⟩, h6⟩ := h
      refine ⟨?_, ?_, ⟨x, z, hx, Nat.eq_of_beq_eq_true h1, Nat.eq_of_beq_eq_true h2, hz, Nat.eq_of_beq_eq_true h3, fun E R w => zeroChk_ok E R w _ _ h4⟩, ⟨d, hd, tdChk_ok h5⟩⟩
      · intro fs hfs j p hp
        rw [hfs] at h6
        simp only [subChk, List.all_eq_true] at h6
        rw [nth_eq] at hp
        exact isSomeB_ok (h6 p (List.mem_of_getElem? hp))
      · intro n e he
        rw [he] at h6
        exact isSomeB_ok h6
    · simp at h
  · simp at h
def fitB : SV → SV → Bool
  | .int k n, .int k' n' => sameK k k' && decide (n = n')
  | .bool b, .bool c => sameB b c
  | .str s, .str t => decide (s.size = 0) && decide (t.size = 0)
  | .nilS (.ints []), .row _ (.ints []) => true
  | .nilS (.peers []), .row _ (.peers []) => true
  | .nilS (.items []), .row _ (.items []) => true
  | .nilS (.tolds []), .row _ (.tolds []) => true
  | .nilS (.cuts []), .row _ (.cuts []) => true
  | _, _ => false
def fitLB : List SV → List SV → Bool
  | [], [] => true
  | x :: l, y :: l' => fitB x y && fitLB l l'
  | _, _ => false
theorem fitB_ok {x y : SV} (h : fitB x y = true) : Fit x y := by
  unfold fitB at h
  split at h <;> (try simp only [Bool.and_eq_true, decide_eq_true_eq] at h)
  · exact ⟨sameK_eq h.1, h.2⟩
  · exact sameB_eq h
  · exact (bytes_empty h.1 h.2).symm
  · exact ⟨rfl, rfl⟩
  · exact ⟨rfl, rfl⟩
  · exact ⟨rfl, rfl⟩
  · exact ⟨rfl, rfl⟩
  · exact ⟨rfl, rfl⟩
  · simp at h
theorem fitLB_ok : ∀ {l l' : List SV}, fitLB l l' = true → FitL l l'
  | [], [], _ => FitL.nil
  | x :: l, y :: l', h => by
    simp only [fitLB, Bool.and_eq_true] at h
    exact FitL.cons (fitB_ok h.1) (fitLB_ok h.2)
  | [], _ :: _, h => by simp [fitLB] at h
  | _ :: _, [], h => by simp [fitLB] at h
def noRowB : List SV → Bool
  | [] => true
  | .row _ _ :: _ => false
  | _ :: l => noRowB l
theorem noRowB_ok : ∀ {l : List SV}, noRowB l = true → ∀ t r, SV.row t r ∉ l
  | [], _, t, r, h => by simp at h
  | x :: l, h, t, r, hm => by
    unfold noRowB at h
    split at h
    · rename_i h1; simp at h1
    · simp at h
    · rename_i x' l' hne h1
      injection h1 with h1 h2
      subst h1; subst h2
      rcases List.mem_cons.1 hm with e | hm
      · exact hne t r e.symm
      · exact noRowB_ok h t r hm
def rkChk (τ : Tys) (e k : Nat) : Bool := Nat.blt k 10 && Nat.beq (τ.et k) e && match τ.ti e with
  | some i => Nat.beq i.sz (kdSz k) && Nat.beq i.bytes (kdBytes k) && fitLB i.zero ((Rw.zeros k 1).cell .any 0) && noRowB i.zero
  | none => false
theorem rkChk_ok {τ : Tys} {e k : Nat} (h : rkChk τ e k = true) : k < 10 ∧ τ.et k = e ∧ ∃ i, τ.ti e = some i ∧ i.sz = kdSz k ∧ i.bytes = kdBytes k ∧ FitL i.zero ((Rw.zeros k 1).cell .any 0) ∧ ∀ t r, SV.row t r ∉ i.zero := by
  unfold rkChk at h
  simp only [Bool.and_eq_true] at h
  obtain ⟨⟨h1, h2⟩, h3⟩ := h
  split at h3
  · rename_i i hi
    simp only [Bool.and_eq_true] at h3
    obtain ⟨⟨⟨h4, h5⟩, h6⟩, h7⟩ := h3
    exact ⟨Nat.lt_of_succ_le (Nat.le_of_ble_eq_true h1), Nat.eq_of_beq_eq_true h2, i, hi, Nat.eq_of_beq_eq_true h4, Nat.eq_of_beq_eq_true h5, fitLB_ok h6, noRowB_ok h7⟩
  · simp at h3
/-- The table, out of trees. -/
def mkTys (I : Tr TI) (K : Tr Nat) (Et : Tr Nat) (S : Tr (List Nat)) : Tys := ⟨I.get, K.get, fun k => match Et.get k with
  | some e => e
  | none => 0, S.get⟩
theorem tys_ok {P : Program} {I : Tr TI} {K Et : Tr Nat} {S : Tr (List Nat)} (h1 : I.all (tiChk P (mkTys I K Et S)) = true) (h2 : K.all (rkChk (mkTys I K Et S)) = true) (h3 : ∀ T sh, S.get T = some sh → EqOk P T sh) : TysOk P (mkTys I K Et S) :=
  ⟨fun T i h => tiChk_ok (Tr.get_all h1 T i h), h3, fun e k h => rkChk_ok (Tr.get_all h2 e k h)⟩
/-! ### Equality of structs -/
theorem eqCells_int {sh : List Nat} {a b : List SV} {e : Bool} (h : eqCells (0 :: sh) a b = some e) : ∃ x y a' b' e', a = .int .i64 x :: a' ∧ b = .int .i64 y :: b' ∧ eqCells sh a' b' = some e' ∧ e = (decide (x = y) && e') := by
  unfold eqCells at h
  split at h
  · rename_i h1; simp at h1
  · rename_i sh' x a' y b' h1
    injection h1 with _ h1
    subst h1
    split at h
    · rename_i e' he
      simp at h
      subst h
      refine ⟨x, y, a', b', true, rfl, rfl, ?_, by simp⟩
      cases a' <;> cases b' <;> simp [eqCells] at he ⊢
    · rename_i e' hne he
      simp at h
      subst h
      exact ⟨x, y, a', b', e', rfl, rfl, he, rfl⟩
    · simp at h
  · rename_i h1; simp at h1
  · simp at h
theorem eqCells_bool {sh : List Nat} {n : Nat} {a b : List SV} {e : Bool} (h : eqCells ((n + 1) :: sh) a b = some e) : ∃ sx sy x y a' b' e', a = sx :: a' ∧ b = sy :: b' ∧ sx.asBool = some x ∧ sy.asBool = some y ∧ eqCells sh a' b' = some e' ∧ e = ((x == y) && e') := by
  unfold eqCells at h
  split at h
  · rename_i h1; simp at h1
  · rename_i h1; simp at h1
  · rename_i n' sh' x a' y b' h1
    injection h1 with _ h1
    subst h1
    split at h
    · rename_i p q e' hp hq he
      simp at h
      subst h
      refine ⟨x, y, p, q, a', b', true, rfl, rfl, hp, hq, ?_, by simp⟩
      cases a' <;> cases b' <;> simp [eqCells] at he ⊢
    · rename_i p q e' hne hp hq he
      simp at h
      subst h
      exact ⟨x, y, p, q, a', b', e', rfl, rfl, hp, hq, he, rfl⟩
    · simp at h
  · simp at h
theorem eqCells_nil {a b : List SV} {e : Bool} (h : eqCells [] a b = some e) : a = [] ∧ b = [] ∧ e = true := by
  cases a <;> cases b <;> simp [eqCells] at h
  exact ⟨rfl, rfl, h⟩
end Go.Proofs.Ytmgccphapkmmeaa
