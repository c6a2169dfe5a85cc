/- A symbolic executor for loaded Go code: calls by contract. -/
import Derived.Test.YtmgccphapkmmeaaVQ
namespace Go.Proofs.Ytmgccphapkmmeaa
open Go.RowKit

/-- Nothing of one's own: how a contract sees its arguments. -/
def E0 : Env := { base := 0, M := 0, bs := fun _ => 0, hs := fun _ => undef, ow := fun _ => False }
def Out.good (r : Out) (p : SV → List Rw → Prop) : Prop := match r with
  | .ok v rows => p v rows
  | .ob q v rows => q → p v rows
  | .bad => True
/-- The rows of a result, by their places. -/
def resRows : List Rw → Nat → List (Nat × Ent)
  | [], _ => []
  | r :: l, n => (n, .own r) :: resRows l (n + 1)
/-- What a call has handed back: new rows of its own, from block B on, and what it tells of them. -/
structure Res (τ : Tys) (B : Nat) (w : World) (v : SV) (rows : List Rw) (z : Value) : Prop where
  ex : ∃ E : Env, E.base = B ∧ E.M = B ∧ (∀ g, E.ow g → B ≤ g ∧ g < w.heap.size) ∧ (∀ i r, rows[i]? = some r → OwnD τ E w i r.len r) ∧
    (∀ i j ri rj g, rows[i]? = some ri → rows[j]? = some rj → i ≠ j → (E.hs i).ownBlock = some g → (E.hs j).ownBlock ≠ some g) ∧ vd3 E (resRows rows 0) w v z
/-- A contract: whatever memory, the call returns what the contract says, and has turned nothing. -/
def Valid (P : Program) (τ : Tys) (f : FuncId) (C : Spec) : Prop := ∀ (args : List SV) (vals : List Value) (w : World), L0 (vd3 E0 [] w) args vals →
  (C args).good fun v rows => Calls P f vals.toArray w fun e w' => ∃ z, e = .returned z ∧ Below w.heap.size w w' ∧ Res τ w.heap.size w' v rows z
/-- That function has a Go body. -/
def Enters (P : Program) (f : FuncId) : Prop := ∀ args w, (callFunc f args).run P w = .ok (.enter f args) w
/-- What a call does to the state is so: whatever the frames. -/
def TrOk (P : Program) (τ : Tys) (f : FuncId) (T : CallT) : Prop :=
  ∀ (w0 : World) (E : Env) (s : St) (as : List (Array Value)) (w : World) (args : List SV) (vals : List Value) (K : SV → St → Prop), Den τ w0 E s as w → L0 (vd3 E s.rows w) args vals → T args s K →
    Calls P f vals.toArray w fun e w' => ∃ z v s' E', e = .returned z ∧ K v s' ∧ Den τ w0 E' s' as w' ∧ E'.base = E.base ∧ E.M ≤ E'.M ∧ vd3 E' s'.rows w' v z
structure CtxOk (P : Program) (τ : Tys) (C : Ctx) : Prop where
  enters : ∀ f sp, C.spec f = some sp → Enters P f
  valid : ∀ f sp, C.spec f = some sp → Valid P τ f sp
  trEnters : ∀ f T, C.tr f = some T → Enters P f
  trOk : ∀ f T, C.tr f = some T → TrOk P τ f T

section
variable {P : Program} {τ : Tys} {w0 : World} {E : Env} {as : List (Array Value)} {a : Act} {w : World}
variable {s : St} {bs : List (Array Value)} {o : Oper}
variable {fr : List (Nat × SV)} {stk : List (List (Nat × SV))} {bx : List (Nat × (TypeId × List SV))} {rw' : List (Nat × Ent)} {dep : Nat}

/-! ### 1. Arguments -/
theorem E0_F (t : Tag) (h : t = .any) (g : Nat) : E0.F t g := by subst h; exact ⟨fun h => h, trivial⟩
theorem row0 {F : Nat → Prop} {r : Rw} {u : Value} (h : RowDen w F r u) : RowDen w (E0.F .any) r u := h.mono fun g _ _ => ⟨rfl, E0_F _ rfl g⟩
/-- A cell, as a contract sees it. -/
theorem plain_vd (hd : Den τ w0 E s bs w) {x : SV} {u : Value} (h : vd3 E s.rows w x u) : vd0 E0 [] w (res1 s.rows x).plain u := by
  cases x with
  | own k =>
    simp only [res1]
    split
    · rename_i e hk
      have := own_read hd hk h
      exact row0 this
    · trivial
  | row t r => exact row0 h
  | nilS r =>
    obtain ⟨rfl, h0⟩ := h
    exact empty_row h0 _
  | int k n => exact h
  | bool b => exact h
  | lit b => exact h
  | str s => exact h
  | _ => trivial
theorem plain_up {x : SV} {u : Value} (h : vd0 E0 [] w x u) : vd1 E0 [] w x u := by cases x <;> first | exact h | exact h.elim
theorem plainL_vd (hd : Den τ w0 E s bs w) {cs : List SV} {us : List Value} (h : L0 (vd1 E s.rows w) cs us) : L0 (vd0 E0 [] w) (plainL s.rows cs) us := by
  induction cs generalizing us with
  | nil => obtain rfl := h.inv_nil; exact L0.nil
  | cons x cs ih =>
    obtain ⟨u, us', rfl, h1, h2⟩ := h.inv_cons
    exact .cons (plain_vd hd (vd_of_vd1 h1)) (ih h2)
theorem plain_cd {R : List (Nat × Ent)} {x : SV} {u : Value} (h : vd0 E0 [] w (res1 R x).plain u) (hj : (res1 R x).plain ≠ .junk) : cd2 w (E0.F .any) (res1 R x).plain u := by
  cases hx : res1 R x <;> rw [hx] at h hj <;> first
    | exact h
    | exact absurd rfl hj
theorem noJunk_mem {l : List SV} (h : noJunk l = true) {x : SV} (hx : x ∈ l) : x ≠ .junk := by
  induction l with
  | nil => simp at hx
  | cons y l ih =>
    rcases List.mem_cons.1 hx with rfl | hx
    · rintro rfl; simp [noJunk] at h
    · have : noJunk l = true := by cases y <;> first | exact h | (simp [noJunk] at h; done)
      exact ih this hx
theorem plainL_get {R : List (Nat × Ent)} : ∀ (cs : List SV) (j : Nat) (x : SV), (plainL R cs)[j]? = some x → ∃ y, cs[j]? = some y ∧ x = (res1 R y).plain
  | [], j, x, h => by simp [plainL] at h
  | c :: cs, 0, x, h => by simp [plainL] at h; exact ⟨c, by simp, h.symm⟩
  | c :: cs, j + 1, x, h => by
    simp only [plainL, List.getElem?_cons_succ] at h
    simpa using plainL_get cs j x h
/-- A pointer to such cells. -/
theorem ptOf_vd {cs : List SV} {ad : Addr} (hs : ad.spot = none) (hlt : ad.block < w.heap.size) (hc : ∀ (j : Nat) x, cs[j]? = some x → x ≠ .junk → ∃ u, w.cell? (ad.add j) = some u ∧ cd2 w (E0.F .any) x u) : vd0 E0 [] w (ptOf cs) (.pointer (some ad)) := by
  unfold ptOf
  split
  · rename_i hn
    exact ⟨ad, rfl, hs, hlt, E0_F _ rfl _, fun j x hx => hc j x hx (noJunk_mem hn (List.mem_of_getElem? hx))⟩
  · trivial
theorem block_add (ad : Addr) (n : Nat) : (ad.add n).block = ad.block := by unfold Addr.add; split <;> rfl
theorem resP_vd (hd : Den τ w0 E s bs w) {x : SV} {u : Value} (h : vd3 E s.rows w x u) : vd0 E0 [] w (resP s x) u := by
  cases x with
  | pt t cs =>
    obtain ⟨ad, rfl, hs, hlt, hF, hc⟩ := h
    simp only [resP, forceL_eq]
    refine ptOf_vd hs hlt fun j x hx hj => ?_
    obtain ⟨y, hy, rfl⟩ := plainL_get cs j x hx
    obtain ⟨v, hv, hd'⟩ := hc j y hy
    refine ⟨v, hv, ?_⟩
    cases y with
    | row t' r => exact row0 hd'
    | int k n => exact hd'
    | bool b => exact hd'
    | lit b => exact hd'
    | str s => exact hd'
    | _ => exact hd'.elim
  | box k off =>
    obtain rfl : u = _ := h
    simp only [resP]
    split
    · rename_i T cs hk
      obtain ⟨how, us, hheap, hcs⟩ := hd.box k T cs hk
      rw [forceL_eq]
      refine ptOf_vd rfl (hd.owb _ how).2 fun j x hx hj => ?_
      obtain ⟨y, hy, rfl⟩ := plainL_get _ j x hx
      obtain ⟨v, hv, hvd⟩ := (hcs.drop off).2 j y hy
      refine ⟨v, ?_, plain_cd (plain_vd hd (vd_of_vd1 hvd)) hj⟩
      rw [Addr.add_lit, cell_of_row w _ _ _ _ _ hheap]
      rw [List.getElem?_drop] at hv
      simpa using hv
    · trivial
  | oel k i off =>
    simp only [vd3, vd2, vd1, vd0] at h
    have fin : ∀ e lo r g n c, lk s.rows k = some e → e.mine = some (lo, r) → E.hs k = .slice (some ⟨g, 0, none⟩) n c → 0 ≤ i → i < r.len → vd0 E0 [] w (.pt .any ((r.cell .any i.toNat).drop off)) (.pointer (some ⟨g, i.toNat * r.sz + off, none⟩)) := by
      intro e lo r g n c hk hm hh h0 h1
      have hO := hd.own k e lo r hk hm
      obtain ⟨us, hcs, hcell⟩ := hO.elem (rw' := s.rows) hh (i := i.toNat) (by omega) (t := .any) (fun h => by simp at h) (by simp)
      refine ⟨_, rfl, rfl, (hd.owb _ (hO.ow g (by rw [hh]; rfl))).2, E0_F _ rfl _, fun j x hx => ?_⟩
      rw [List.getElem?_drop] at hx
      obtain ⟨v, hv, hvd⟩ := hcs.2 (off + j) x hx
      refine ⟨v, ?_, ?_⟩
      · have := hcell (off + j) v hv
        rw [Addr.add_lit] at this ⊢
        rw [Nat.add_assoc]
        exact this
      · have ht := cell_retag .any r i.toNat (off + j) x hx
        cases x with
        | row t' r' => obtain rfl := ht t' r' rfl; exact row0 hvd
        | int k n => exact hvd
        | bool b => exact hvd
        | lit b => exact hvd
        | str s => exact hvd
        | _ =>
          have := List.mem_of_getElem? hx
          cases r <;> simp [Rw.cell, GItem.cells, GPeer.cells, GTold.cells, GCut.cells, GMsg.cells, GNode.cells, GAct.cells] at this
    simp only [resP]
    split
    · rename_i r hk
      rw [hk] at h
      obtain ⟨g, n, c, hh, h0, h1, rfl⟩ := h
      exact fin _ _ _ g n c hk rfl hh h0 h1
    · rename_i lo r hk
      rw [hk] at h
      obtain ⟨g, n, c, hh, h0, h1, rfl⟩ := h
      exact fin _ _ _ g n c hk rfl hh h0 h1
    · trivial
  | tup vs => trivial
  | agg cs => trivial
  | clo f b c => trivial
  | own k => exact plain_vd hd h
  | row t r => exact plain_vd hd h
  | nilS r => exact plain_vd hd h
  | int k n => exact h
  | bool b => exact h
  | lit b => exact h
  | str s => exact h
  | junk => trivial
end
end Go.Proofs.Ytmgccphapkmmeaa
