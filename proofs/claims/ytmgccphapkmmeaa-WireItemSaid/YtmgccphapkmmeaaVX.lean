/- A symbolic executor for loaded Go code: a function that meets its contract. -/
import Derived.Test.YtmgccphapkmmeaaVWb
namespace Go.Proofs.Ytmgccphapkmmeaa
open Go.RowKit

section
variable {P : Program} {τ : Tys} {w0 : World} {as : List (Array Value)} {E : Env} {w : World} {s : St}

/-! ### 1. Its arguments -/
/-- All there is on entry is old. -/
def Ein (w : World) : Env := { base := w.heap.size, M := w.heap.size, bs := fun _ => 0, hs := fun _ => undef, ow := fun _ => False }
theorem in_old {F : Nat → Prop} : ∀ g, F g → g < w.heap.size → w.heap[g]? = w.heap[g]? ∧ (Ein w).F .old g := fun _ _ h => ⟨rfl, fun h => h, h⟩
theorem in_any {F : Nat → Prop} : ∀ g, F g → g < w.heap.size → w.heap[g]? = w.heap[g]? ∧ (Ein w).F .any g := fun _ _ _ => ⟨rfl, fun h => h, trivial⟩
theorem in_keep {t : Tag} (ht : t = .any) : ∀ g, E0.F t g → g < w.heap.size → w.heap[g]? = w.heap[g]? ∧ (Ein w).F t g := by subst ht; exact in_any
/-- Which tags an argument's may be. -/
theorem E0_tag {t : Tag} {g : Nat} (h : E0.F t g) : t = .any ∨ t = .new := by
  cases t with
  | any => exact .inl rfl
  | new => exact .inr rfl
  | old => exact absurd h.2 (Nat.not_lt_zero g)
/-- May an argument be so? -/
def argOk0 : SV → Bool
  | .row .any _ => true
  | .row _ _ => false
  | .pt .any _ => true
  | .pt _ _ => false
  | .own _ => false
  | .box _ _ => false
  | .oel _ _ _ => false
  | .agg _ => false
  | .tup _ => false
  | .clo _ _ _ => false
  | _ => true
def argOkF : SV → Bool
  | .agg cs => allB argOk0 cs
  | .tup _ => false
  | .clo _ a c => match allB argOkF' a with
    | true => allB argOk0 c
    | false => false
  | v => argOk0 v
where argOkF' : SV → Bool
  | .agg cs => allB argOk0 cs
  | v => argOk0 v
theorem allB_of_mem {p : SV → Bool} : ∀ {l : List SV}, allB p l = true → ∀ x ∈ l, p x = true
  | [], _, x, hx => by simp at hx
  | y :: l, h, x, hx => by
    simp only [allB] at h
    split at h
    · rename_i hy
      rcases List.mem_cons.1 hx with rfl | hx
      · exact hy
      · exact allB_of_mem h x hx
    · simp at h
theorem arg0 {x : SV} {u : Value} (ho : argOk0 x = true) (h : vd0 E0 [] w x u) : vd0 (Ein w) [] w x.old0 u := by
  cases x with
  | row t r => cases t <;> simp [argOk0] at ho; exact RowDen.mono h in_old
  | pt t cs =>
    cases t <;> simp [argOk0] at ho
    obtain ⟨ad, rfl, hs, hlt, hF, hc⟩ := h
    refine ⟨ad, rfl, hs, hlt, ⟨fun h => h, hlt⟩, fun j x hx => ?_⟩
    obtain ⟨u, hu, hd⟩ := hc j x hx
    exact ⟨u, hu, cd2.mono hd in_old⟩
  | own k => simp [argOk0] at ho
  | box k off => simp [argOk0] at ho
  | oel k i off => simp [argOk0] at ho
  | _ => exact h
theorem arg0k {x : SV} {u : Value} (ho : argOk0 x = true) (h : vd0 E0 [] w x u) : vd0 (Ein w) [] w x u := by
  cases x with
  | row t r => cases t <;> simp [argOk0] at ho; exact RowDen.mono h in_any
  | pt t cs =>
    cases t <;> simp [argOk0] at ho
    obtain ⟨ad, rfl, hs, hlt, hF, hc⟩ := h
    refine ⟨ad, rfl, hs, hlt, ⟨fun h => h, trivial⟩, fun j x hx => ?_⟩
    obtain ⟨u, hu, hd⟩ := hc j x hx
    exact ⟨u, hu, cd2.mono hd in_any⟩
  | own k => simp [argOk0] at ho
  | box k off => simp [argOk0] at ho
  | oel k i off => simp [argOk0] at ho
  | _ => exact h
theorem oldL_len : ∀ l : List SV, (oldL l).length = l.length
  | [] => rfl
  | x :: l => by simp [oldL, oldL_len l]
theorem oldL_get : ∀ (l : List SV) (j : Nat) (x : SV), (oldL l)[j]? = some x → ∃ y, l[j]? = some y ∧ x = y.old0
  | [], j, x, h => by simp [oldL] at h
  | y :: l, 0, x, h => by simp [oldL] at h; exact ⟨y, by simp, h.symm⟩
  | y :: l, j + 1, x, h => by simpa using oldL_get l j x (by simpa [oldL] using h)
theorem old0_vd1 {R : List (Nat × Ent)} {x : SV} {u : Value} (h : vd0 E R w x u) : vd1 E R w x u := by cases x <;> first | exact h | exact h.elim
theorem arg_in {x : SV} {u : Value} (ho : argOkF x = true) (h : vd3 E0 [] w x u) : vd3 (Ein w) [] w x.old u := by
  cases x with
  | tup cs => simp [argOkF] at ho
  | agg cs =>
    obtain ⟨us, rfl, hl⟩ := h
    refine ⟨us, rfl, by rw [oldL_len]; exact hl.1, fun j x hx => ?_⟩
    obtain ⟨y, hy, rfl⟩ := oldL_get cs j x hx
    obtain ⟨u, hu, hd⟩ := hl.2 j y hy
    have hok := allB_of_mem ho y (List.mem_of_getElem? hy)
    refine ⟨u, hu, old0_vd1 (arg0 hok ?_)⟩
    cases y <;> first | exact hd | (simp [argOk0] at hok; done)
  | clo f b c =>
    obtain ⟨us, vs, rfl, h1, h2⟩ := h
    simp only [argOkF] at ho
    split at ho
    · rename_i hb
      refine ⟨us, vs, rfl, h1.mono fun x u hx hp => ?_, h2.mono fun x u hx hp => arg0k (allB_of_mem ho x hx) hp⟩
      have hk := allB_of_mem hb x hx
      cases x with
      | agg cs => obtain ⟨us, rfl, hl⟩ := hp; exact ⟨us, rfl, hl.mono fun y u hy hp => arg0k (allB_of_mem hk y hy) hp⟩
      | row t r => exact arg0k (x := .row t r) hk hp
      | pt t r => exact arg0k (x := .pt t r) hk hp
      | own k => simp [argOkF.argOkF', argOk0] at hk
      | box k off => simp [argOkF.argOkF', argOk0] at hk
      | oel k i off => simp [argOkF.argOkF', argOk0] at hk
      | _ => exact hp
    · simp at ho
  | row t r => exact vd3_of_vd0 (arg0 (x := .row t r) ho h)
  | pt t r => exact vd3_of_vd0 (arg0 (x := .pt t r) ho h)
  | own k => simp [argOkF, argOk0] at ho
  | box k off => simp [argOkF, argOk0] at ho
  | oel k i off => simp [argOkF, argOk0] at ho
  | _ => exact h
theorem enterF_lkv : ∀ (l : List SV) (us : List Value) (n t : Nat) (p : SV → Value → Prop), (∀ u, p .junk u) → L0 (fun x u => p x.old u) l us → p (lkv (enterF l n) t) (if n ≤ t then (us[t - n]?).getD undef else undef)
  | [], us, n, t, p, hj, _ => by simp only [enterF, lkv]; exact hj _
  | x :: l, us, n, t, p, hj, h => by
    obtain ⟨u, us', rfl, h1, h2⟩ := h.inv_cons
    simp only [enterF, lkv]
    split
    · rename_i hk
      obtain rfl := Nat.eq_of_beq_eq_true hk
      simpa using h1
    · rename_i hk
      have hne : n ≠ t := fun e => by subst e; simp at hk
      have := enterF_lkv l us' (n + 1) t p hj h2
      by_cases h3 : n + 1 ≤ t
      · rw [if_pos h3] at this
        rw [if_pos (by omega)]
        obtain ⟨j, rfl⟩ : ∃ j, t = n + 1 + j := ⟨t - (n + 1), by omega⟩
        rw [show n + 1 + j - (n + 1) = j by omega] at this
        rw [show n + 1 + j - n = j + 1 by omega]
        simpa using this
      · rw [if_neg h3] at this
        rw [if_neg (by omega)]
        exact this
theorem start_den {args : List SV} {vals : List Value} {n : Nat} (ho : allB argOkF args = true) (h : L0 (vd3 E0 [] w) args vals) :
    At τ w w.heap.size w.heap.size n [] (startSt args) { tmps := vals.toArray ++ Array.replicate (n - vals.toArray.size) undef, defers := [] } w := by
  refine ⟨Ein w, ⟨Below.refl _ _, Nat.le_refl _, Nat.le_refl _, fun g hg => hg.elim, ?_, ?_, ?_, ?_, ?_, ?_⟩, rfl, Nat.le_refl _, ?_, rfl⟩
  · intro i f hf
    cases i with
    | succ i => simp [startSt] at hf
    | zero =>
      simp [startSt] at hf
      subst hf
      refine ⟨_, rfl, fun t => ?_⟩
      have := enterF_lkv args vals 0 t (vd3 (Ein w) [] w) (fun u => trivial) (h.mono fun x u hx hp => arg_in (allB_of_mem ho x hx) hp)
      simp only [Nat.zero_le, if_true, Nat.sub_zero] at this
      have he : (vals.toArray ++ Array.replicate (n - vals.toArray.size) undef).getD t undef = (vals[t]?).getD undef := by
        rw [Array.getD_eq_getD_getElem?, Array.getElem?_append]
        split
        · simp
        · rename_i hlt
          have : vals[t]? = none := by simpa using hlt
          rw [this, Array.getElem?_replicate]
          split <;> rfl
      show vd3 (Ein w) [] w _ _
      dsimp only
      rw [he]
      exact this
  · intro k T cs hk; simp [startSt, lk] at hk
  · intro k e lo r hk; simp [startSt, lk] at hk
  · intro k k' b b' hk; simp [startSt, lk] at hk
  · intro k k' b e m hk; simp [startSt, lk] at hk
  · intro k k' e e' m m' g hk; simp [startSt, lk] at hk
  · simp; omega
/-! ### How long they are -/
theorem deep_of {F : Nat → Prop} {r : Rw} {v : Value} (h : RowDen w F r v) : r.deep := by
  have cell : ∀ (i j : Nat) (t : Tag) (r' : Rw), i < r.len → (r.cell .any i)[j]? = some (.row t r') → r'.len * r'.bts ≤ 140737488355328 := by
    intro i j t r' hi hx
    obtain ⟨_, A, c, _, _, hc⟩ := h
    obtain ⟨ad, _, _, _, hcell⟩ := hc (by omega)
    obtain ⟨u, _, hd⟩ := hcell i j _ hi hx
    exact hd.1
  have h0 := h.1
  cases r with
  | msgs l =>
    refine ⟨h0, fun m hm => ?_⟩
    obtain ⟨i, hi⟩ := List.mem_iff_getElem?.1 hm
    have hlt := (List.getElem?_eq_some_iff.1 hi).1
    exact cell i 3 .any (.ints m.ids) hlt (by simp [Rw.cell, List.getD_eq_getElem?_getD, hi, GMsg.cells])
  | acts l =>
    refine ⟨h0, fun m hm => ?_⟩
    obtain ⟨i, hi⟩ := List.mem_iff_getElem?.1 hm
    have hlt := (List.getElem?_eq_some_iff.1 hi).1
    exact cell i 4 .any (.ints m.ids) hlt (by simp [Rw.cell, List.getD_eq_getElem?_getD, hi, GAct.cells])
  | nodes l =>
    refine ⟨h0, fun m hm => ?_⟩
    obtain ⟨i, hi⟩ := List.mem_iff_getElem?.1 hm
    have hlt := (List.getElem?_eq_some_iff.1 hi).1
    refine ⟨cell i 2 .any (.peers m.view.peers) hlt ?_, cell i 3 .any (.ints m.view.passive) hlt ?_, cell i 4 .any (.items m.items) hlt ?_, cell i 5 .any (.tolds m.log) hlt ?_⟩ <;>
      simp [Rw.cell, List.getD_eq_getElem?_getD, hi, GNode.cells]
  | _ => exact h0
theorem fitsL_of {p : SV → Value → Prop} (hp : ∀ x u, p x u → fits0 x) : ∀ {cs : List SV} {us : List Value}, L0 p cs us → fitsL cs
  | [], _, _ => trivial
  | x :: cs, _, h => by
    obtain ⟨u, us', rfl, h1, h2⟩ := h.inv_cons
    exact ⟨hp x u h1, fitsL_of hp h2⟩
theorem fitsL_get : ∀ {cs : List SV}, (∀ (j : Nat) x, cs[j]? = some x → fits0 x) → fitsL cs
  | [], _ => trivial
  | x :: cs, h => ⟨h 0 x (by simp), fitsL_get fun j y hy => h (j + 1) y (by simpa using hy)⟩
theorem fitsV_of {x : SV} {u : Value} (h : vd3 E0 [] w x u) : fitsV x := by
  cases x with
  | row t r => exact deep_of h
  | pt t cs =>
    obtain ⟨ad, _, _, _, _, hc⟩ := h
    refine fitsL_get fun j x hx => ?_
    obtain ⟨u, _, hd⟩ := hc j x hx
    cases x with
    | row t' r => exact deep_of hd
    | _ => trivial
  | agg cs =>
    obtain ⟨us, _, hl⟩ := h
    refine fitsL_of (fun x u hx => ?_) hl
    cases x with
    | row t' r => exact deep_of hx
    | _ => trivial
  | _ => trivial
theorem argFits_of : ∀ {args : List SV} {vals : List Value}, L0 (vd3 E0 [] w) args vals → argFits args
  | [], _, _ => trivial
  | x :: l, _, h => by
    obtain ⟨u, us', rfl, h1, h2⟩ := h.inv_cons
    exact ⟨fitsV_of h1, argFits_of h2⟩
end
end Go.Proofs.Ytmgccphapkmmeaa
