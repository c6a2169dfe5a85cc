/- A symbolic executor for loaded Go code: drawn regions: every order. -/
import Derived.Test.YtmgccphapkmmeaaXB1
namespace Go.Proofs.Ytmgccphapkmmeaa
open Go.RowKit

section
variable {P : Program} {τ : Tys} {w0 : World} {base M nn : Nat} {as : List (Array Value)} {ops : Array Oper} {tab : List (Nat × Nat)}
theorem nodup_le : ∀ (n : Nat) (l : List Nat), l.Nodup → (∀ j ∈ l, j < n) → l.length ≤ n
  | 0, l, _, h => by
    cases l with
    | nil => simp
    | cons x l => exact absurd (h x (by simp)) (Nat.not_lt_zero _)
  | n + 1, l, hn, h => by
    have h1 : (l.erase n).Nodup := hn.erase n
    have h2 : ∀ j ∈ l.erase n, j < n := by
      intro j hj
      have hj' := List.mem_of_mem_erase hj
      have hne : j ≠ n := fun e => by subst e; exact (List.Nodup.not_mem_erase hn) hj
      have := h j hj'
      omega
    have h3 := nodup_le n _ h1 h2
    have h4 : l.length ≤ (l.erase n).length + 1 := by
      rw [List.length_erase]
      split <;> omega
    omega
theorem wp_transfer {o : Oper} {g a : Act} {w : World} {Mx : Act → World → Prop} {next : Act → World → Prop} {Q : Exit → Act → World → Prop} (he : execOp g.eval o = execOp a.eval o) (h : o.wp P g w Mx fun _ _ _ => False)
    (hdef : ∀ g' w', Mx g' w' → g'.defers = []) (hn : ∀ v w', Mx (g.put o.dst v) w' → next (a.put o.dst v) w') : o.wp P a w next Q := by
  unfold Oper.wp at *
  rw [← he]
  generalize (execOp g.eval o).run P w = r at *
  cases r with
  | ok n w' =>
    cases n <;> simp only [Oper.upon] at h ⊢
    case value v => exact hn v w' h
    case skip => exact hn undef w' h
    case defer d =>
      have := hdef _ _ h
      rw [(put_size _ _ _).2] at this
      simp at this
    case enter f args =>
      refine Calls.mono h fun e w'' he => ?_
      cases e with
      | returned v => exact hn v w'' he
      | panicked c => exact he.elim
      | outgrown => obtain ⟨_, _, hf⟩ := he; exact hf.elim
    case row row args => exact Rows.mono h fun v w'' he => hn v w'' he
  | halt x w' =>
    cases x <;> simp only [Oper.upon] at h
theorem allW_true {p : Nat} : ∀ (os : List Oper) (tb : List (Nat × Nat)), (∀ (j : Nat) o q, os[j]? = some o → tb[j]? = some q → isR o = false → inM q.1 p = true) → allW p os tb = true
  | [], tb, _ => by unfold allW; rfl
  | _ :: _, [], _ => by unfold allW; rfl
  | o :: os, (j, b) :: tb, h => by
    simp only [allW]
    split
    · rename_i h1 h2
      have := h 0 o (j, b) (by simp) (by simp) h1
      rw [this] at h2
      simp at h2
    · exact allW_true os tb fun i q r hq hr => h (i + 1) q r (by simpa using hq) (by simpa using hr)
theorem allW_all {p : Nat} : ∀ (os : List Oper) (tb : List (Nat × Nat)), allW p os tb = true → ∀ (j : Nat) o q, os[j]? = some o → tb[j]? = some q → isR o = false → inM q.1 p = true
  | [], tb, _, j, o, q, h, _, _ => by simp at h
  | _ :: _, [], _, j, o, q, _, h, _ => by simp at h
  | o' :: os, (k, b) :: tb, h, j, o, q, ho, hq, hr => by
    simp only [allW] at h
    split at h
    · simp at h
    · rename_i hne
      cases j with
      | zero =>
        simp at ho hq
        subst ho; subst hq
        cases hp : inM k p with
        | true => rfl
        | false => exact absurd hp (hne hr)
      | succ j => exact allW_all os tb h j o q (by simpa using ho) (by simpa using hq) hr
theorem candO_get {p av : Nat} {F : Nat → Oper → Prop} : ∀ (os : List Oper) (tb : List (Nat × Nat)), candO p av F os tb → ∀ (j : Nat) o q, os[j]? = some o → tb[j]? = some q → isR o = false → inM q.1 p = false → subM q.2 av = true → F q.1 o
  | [], tb, _, j, o, q, h, _, _, _, _ => by simp at h
  | _ :: _, [], _, j, o, q, _, h, _, _, _ => by simp at h
  | o' :: os, (k, b) :: tb, h, j, o, q, ho, hq, hr, hp, hs => by
    simp only [candO] at h
    cases j with
    | zero =>
      simp at ho hq
      subst ho; subst hq
      split at h
      · exact h.1
      · rename_i hne; exact absurd hs (hne hr hp)
    | succ j =>
      have := candO_get os tb (by split at h <;> first | exact h.2 | exact h) j o q (by simpa using ho) (by simpa using hq) hr hp hs
      exact this
theorem sureM_sub {X : Nat → Prop} : ∀ (l : List (Nat × Nat)) (m : Nat), (∀ j, inM j m = true → X j) → (∀ q ∈ l, X q.1 → ∀ k, inM k q.2 = true → X k) → ∀ j, inM j (sureM l m) = true → X j
  | [], m, h, _, j, hj => h j hj
  | (i, b) :: l, m, h, hc, j, hj => by
    simp only [sureM] at hj
    split at hj
    · rename_i hi
      rw [forceN_eq] at hj
      refine sureM_sub l _ ?_ (fun q hq => hc q (List.mem_cons_of_mem _ hq)) j hj
      intro k hk
      rw [inM_or] at hk
      simp only [Bool.or_eq_true] at hk
      rcases hk with hk | hk
      · exact h k hk
      · exact hc (i, b) (by simp) (h i hi) k hk
    · exact sureM_sub l m h (fun q hq => hc q (List.mem_cons_of_mem _ hq)) j hj
theorem At.pop {s : St} {g : Act} {w : World} {x : Array Value} (h : At τ w0 base M nn (x :: as) s g w) : At τ w0 base M nn as (pop1 s) g w := by
  obtain ⟨E, hd, h1⟩ := h
  refine ⟨E, ?_, h1⟩
  obtain ⟨fr, stk, bx, rw', dep⟩ := s
  cases stk with
  | nil =>
    refine ⟨hd.below, hd.bM, hd.Mh, hd.owb, ?_, hd.box, hd.own, hd.bb, hd.br, hd.rr⟩
    intro i f hf
    cases i with
    | zero =>
      obtain ⟨b, hb, hfr⟩ := hd.fr 0 f hf
      exact ⟨b, by simpa using hb, hfr⟩
    | succ i => simp [pop1] at hf
  | cons f0 stk =>
    refine ⟨hd.below, hd.bM, hd.Mh, hd.owb, ?_, hd.box, hd.own, hd.bb, hd.br, hd.rr⟩
    intro i f hf
    cases i with
    | zero =>
      obtain ⟨b, hb, hfr⟩ := hd.fr 0 f (by simpa [pop1] using hf)
      exact ⟨b, by simpa using hb, hfr⟩
    | succ i =>
      obtain ⟨b, hb, hfr⟩ := hd.fr (i + 2) f (by simpa [pop1] using hf)
      exact ⟨b, by simpa using hb, hfr⟩
theorem At.refill {old fr0 : List (Nat × SV)} {stk : List (List (Nat × SV))} {bx : List (Nat × (TypeId × List SV))} {rw' : List (Nat × Ent)} {dep : Nat} {g : Act} {w : World} {a0 : Array Value}
    (h : At τ w0 base M nn (a0 :: as) ⟨old, fr0 :: stk, bx, rw', dep⟩ g w) (hs : a0.size = g.tmps.size) : At τ w0 base M nn (g.tmps :: a0 :: as) ⟨fr0, old :: fr0 :: stk, bx, rw', dep⟩ { tmps := a0, defers := [] } w := by
  obtain ⟨E, hd, h1, h2, h3, h4⟩ := h
  refine ⟨E, ⟨hd.below, hd.bM, hd.Mh, hd.owb, ?_, hd.box, hd.own, hd.bb, hd.br, hd.rr⟩, h1, h2, by simpa [hs] using h3, rfl⟩
  intro i f hf
  cases i with
  | zero =>
    obtain ⟨b, hb, hfr⟩ := hd.fr 1 f (by simpa using hf)
    exact ⟨b, by simpa using hb, hfr⟩
  | succ i =>
    obtain ⟨b, hb, hfr⟩ := hd.fr i f (by simpa using hf)
    exact ⟨b, by simpa using hb, hfr⟩
theorem Fills.same {S S' : Nat → Prop} {z : Nat → Value} {a0 : Array Value} {x y : Act} (h : Fills ops S z a0 x.tmps) (h' : Fills ops S' z a0 y.tmps) (D : DrawD ops tab) (hS : ∀ (j : Nat) (o : Oper), ops[j]? = some o → (S j ↔ S' j)) : x.tmps = y.tmps := by
  have hsz : x.tmps.size = y.tmps.size := h.size.trans h'.size.symm
  have hv : ∀ t, x.tmps.getD t undef = y.tmps.getD t undef := by
    intro t
    rcases h.at_ t with ⟨i, q, hiq, hqd, hSi, hv⟩ | ⟨hn, hv⟩
    · rw [hv, h'.get D hiq hqd ((hS i q hiq).1 hSi)]
    · rcases h'.at_ t with ⟨i, q, hiq, hqd, hSi, hv'⟩ | ⟨_, hv'⟩
      · exact absurd ((hS i q hiq).2 hSi) (hn i q hiq hqd)
      · rw [hv, hv']
  refine Array.ext hsz fun i h1 h2 => ?_
  have := hv i
  simpa [Array.getD_eq_getD_getElem?, h1, h2] using this
theorem getD_tf {l : Array Bool} {j : Nat} (hj : j < l.size) : l.getD j true = l.getD j false := by simp [Array.getD_eq_getD_getElem?, hj]
theorem opLt {j : Nat} {o : Oper} (h : ops[j]? = some o) : j < ops.size := (Array.getElem?_eq_some_iff.1 h).1
theorem listed_av (D : DrawD ops tab) {listed : Array Bool} {p av : Nat} (hcl : ∀ j, listed.getD j false = true → ∀ k, Waits ops k j → listed.getD k false = true)
    (hW : ∀ (j : Nat) (o : Oper), ops[j]? = some o → isR o = false → (inM j p = true ↔ listed.getD j false = true)) (hA : ∀ (j : Nat) (o : Oper), ops[j]? = some o → (inM j av = true ↔ Avl ops p av j o)) :
    ∀ j, j < ops.size → listed.getD j false = true → inM j av = true := by
  intro j
  induction j using Nat.strongRecOn with
  | _ j ih =>
    intro hj hL
    have ho : ops[j]? = some ops[j] := Array.getElem?_eq_getElem hj
    refine (hA j _ ho).2 ?_
    cases hr : isR ops[j] with
    | true => exact .inl ⟨hr, fun k hk => ih k (D.back k j hk) (Nat.lt_trans (D.back k j hk) hj) (hcl j hL k hk)⟩
    | false => exact .inr ⟨hr, (hW j _ ho hr).2 hL⟩
theorem all_listed (D : DrawD ops tab) {listed : Array Bool} (hsz : listed.size = ops.size) (hr : Region.ready .any ops listed = []) : ∀ j, j < ops.size → listed.getD j false = true := by
  intro j
  induction j using Nat.strongRecOn with
  | _ j ih =>
    intro hj
    cases hL : listed.getD j false with
    | true => rfl
    | false =>
      exfalso
      have ho : ops[j]? = some ops[j] := Array.getElem?_eq_getElem hj
      have : j ∈ Region.ready .any ops listed := by
        refine mem_ready.2 ⟨by rw [getD_tf (by rw [hsz]; exact hj)]; exact hL, ops[j], ho, fun e he hb => ?_⟩
        have hw : Waits ops e.on j := ⟨_, ho, e, he, by rw [bindsB_eq]; exact hb, rfl⟩
        have hlt := D.back _ _ hw
        exact ih e.on hlt (Nat.lt_trans hlt hj)
      rw [hr] at this
      simp at this
theorem node_fin (D : DrawD ops tab) {τ : Tys} {C : Ctx} {Q : Exit → Act → World → Prop} {K : St → Prop} (hK : ∀ s a w, K s → At τ w0 base M nn as s a w → Q .normal a w) {listed : Array Bool} {a g : Act} {w : World} {f p av : Nat} {s : St} {z : Nat → Value} {a0 : Array Value}
    (hall : ∀ j, j < ops.size → listed.getD j false = true) (hcl : ∀ j, listed.getD j false = true → ∀ k, Waits ops k j → listed.getD k false = true)
    (hat : At τ w0 base M nn (a0 :: as) s g w) (hF : Fills ops (fun j => inM j av = true) z a0 g.tmps) (hL : Fills ops (fun j => listed.getD j false = true) z a0 a.tmps) (hdef : a.defers = [])
    (hW : ∀ (j : Nat) (o : Oper), ops[j]? = some o → isR o = false → (inM j p = true ↔ listed.getD j false = true)) (hA : ∀ (j : Nat) (o : Oper), ops[j]? = some o → (inM j av = true ↔ Avl ops p av j o))
    (hw : wpNode τ C ops.toList tab f p av s K) : Q .normal a w := by
  have hav := listed_av D hcl hW hA
  have heq : g.tmps = a.tmps := hF.same hL D fun j o ho => ⟨fun _ => hall j (opLt ho), fun h => hav j (opLt ho) h⟩
  have hga : g = a := by
    obtain ⟨_, _, _, _, _, hgd⟩ := id hat
    cases g; cases a
    simp_all
  subst hga
  cases f with
  | zero => exact hw.elim
  | succ f =>
    simp only [wpNode] at hw
    have : allW p ops.toList tab = true := allW_true _ _ fun j o q ho hq hr => by
      have ho' : ops[j]? = some o := by simpa using ho
      rw [D.tab j o ho'] at hq
      injection hq with hq
      subst hq
      exact (hW j o ho' hr).2 (hall j (opLt ho'))
    rw [this] at hw
    exact hK _ _ _ hw hat.pop
theorem set_listed {listed : Array Bool} {i : Nat} (hi : i < listed.size) (j : Nat) : (listed.setIfInBounds i true).getD j false = true ↔ listed.getD j false = true ∨ j = i := by
  by_cases h : i = j
  · subst h
    simp [Array.getD_eq_getD_getElem?, hi]
  · rw [getD_set_ne false h]
    exact ⟨.inl, fun h' => h'.resolve_right fun e => h e.symm⟩
variable (hτ : TysOk P τ) {C : Ctx} (hC : CtxOk P τ C)
include hτ hC
theorem node_sound (D : DrawD ops tab) (hdst : dstOk nn ops.toList = true) {Q : Exit → Act → World → Prop} {K : St → Prop} (hK : ∀ s a w, K s → At τ w0 base M nn as s a w → Q .normal a w) :
    ∀ (F : Nat) (listed : Array Bool) (a : Act) (w : World) (f p av : Nat) (s : St) (z : Nat → Value) (a0 : Array Value) (g : Act),
      listed.size = ops.size → (∀ l : List Nat, l.Nodup → (∀ j ∈ l, j < ops.size ∧ listed.getD j true = false) → l.length ≤ F) →
      (∀ j, listed.getD j false = true → ∀ k, Waits ops k j → listed.getD k false = true) →
      At τ w0 base M nn (a0 :: as) s g w → Fills ops (fun j => inM j av = true) z a0 g.tmps → Fills ops (fun j => listed.getD j false = true) z a0 a.tmps → a.defers = [] →
      (∀ (j : Nat) (o : Oper), ops[j]? = some o → isR o = false → (inM j p = true ↔ listed.getD j false = true)) →
      (∀ (j : Nat) (o : Oper), ops[j]? = some o → (inM j av = true ↔ Avl ops p av j o)) →
      (∀ (j : Nat) (o : Oper), ops[j]? = some o → isR o = true → inM j av = true → ¬ listed.getD j false = true → RunFact P ops w z a0 j o) →
      (∀ j, inM j p = true → ∃ o, ops[j]? = some o ∧ isR o = false) →
      wpNode τ C ops.toList tab f p av s K → wpAny P .any ops Q F listed a w := by
  intro F
  induction F with
  | zero =>
    intro listed a w f p av s z a0 g hsz hcnt hcl hat hF hL hdef hW hA hRun hP hw
    have hall : ∀ j, j < ops.size → listed.getD j false = true := by
      intro j hj
      cases h : listed.getD j false with
      | true => rfl
      | false =>
        have := hcnt [j] (by simp) (by
          intro k hk
          simp at hk
          subst hk
          exact ⟨hj, by rw [getD_tf (by rw [hsz]; exact hj)]; exact h⟩)
        simp at this
    refine ⟨?_, node_fin D hK hall hcl hat hF hL hdef hW hA hw⟩
    apply List.eq_nil_iff_forall_not_mem.2
    intro j hj
    obtain ⟨h1, o, ho, _⟩ := mem_ready.1 hj
    have hlt := opLt ho
    rw [getD_tf (by rw [hsz]; exact hlt), hall j hlt] at h1
    simp at h1
  | succ F ih =>
    intro listed a w f p av s z a0 g hsz hcnt hcl hat hF hL hdef hW hA hRun hP hw
    refine ⟨fun hr => node_fin D hK (all_listed D hsz hr) hcl hat hF hL hdef hW hA hw, fun i hi => ?_⟩
    obtain ⟨hun, o, ho, hall⟩ := mem_ready.1 hi
    have hlt := opLt ho
    have hnl : ¬ listed.getD i false = true := by rw [← getD_tf (by rw [hsz]; exact hlt), hun]; simp
    have hwait : ∀ k, Waits ops k i → listed.getD k false = true := by
      rintro k ⟨o', ho', e, he, hb, rfl⟩
      rw [ho] at ho'
      injection ho' with ho'
      subst ho'
      exact hall e he (by rw [← bindsB_eq]; exact hb)
    have hset := set_listed (listed := listed) (i := i) (by rw [hsz]; exact hlt)
    have hav := listed_av D hcl hW hA
    have hdn : ∀ t, o.dst = some t → t < nn := dstOk_mem hdst o (by
      have : ops.toList[i]? = some o := by simpa using ho
      exact List.mem_of_getElem? this)
    have hsz0 : g.tmps.size = a.tmps.size := hF.size.trans hL.size.symm
    have hnn : nn ≤ g.tmps.size := by obtain ⟨_, _, _, _, h, _⟩ := hat; exact h
    have hdl : ∀ t, o.dst = some t → t < a.tmps.size := fun t ht => hsz0 ▸ Nat.lt_of_lt_of_le (hdn t ht) hnn
    -- the same, with one more listed
    have hsz' : (listed.setIfInBounds i true).size = ops.size := by simp [hsz]
    have hcnt' : ∀ l : List Nat, l.Nodup → (∀ j ∈ l, j < ops.size ∧ (listed.setIfInBounds i true).getD j true = false) → l.length ≤ F := by
      intro l hn hl
      have := hcnt (i :: l) (List.nodup_cons.2 ⟨fun hm => by
          have := (hl i hm).2
          rw [getD_tf (by rw [hsz']; exact hlt), (hset i).2 (.inr rfl)] at this
          simp at this, hn⟩) (by
        intro j hj
        rcases List.mem_cons.1 hj with rfl | hj
        · exact ⟨hlt, hun⟩
        · obtain ⟨h1, h2⟩ := hl j hj
          refine ⟨h1, ?_⟩
          rw [getD_tf (by rw [hsz]; exact h1)]
          rw [getD_tf (by rw [hsz']; exact h1)] at h2
          cases h : listed.getD j false with
          | false => rfl
          | true => rw [(hset j).2 (.inl h)] at h2; exact h2)
      simpa using this
    have hcl' : ∀ j, (listed.setIfInBounds i true).getD j false = true → ∀ k, Waits ops k j → (listed.setIfInBounds i true).getD k false = true := by
      intro j hj k hk
      rcases (hset j).1 hj with h | rfl
      · exact (hset k).2 (.inl (hcl j h k hk))
      · exact (hset k).2 (.inl (hwait k hk))
    cases hr : isR o with
    | true =>
      have hi_av : inM i av = true := (hA i o ho).2 (.inl ⟨hr, fun k hk => hav k (Nat.lt_trans (D.back k i hk) hlt) (hwait k hk)⟩)
      obtain ⟨g', S, hS, hSlt, hSw, hcm⟩ := hRun i o ho hr hi_av hnl
      have hag := hS.agree hL D ho (fun k hk => ⟨hSw k hk, hwait k hk⟩) (fun k hk => ⟨fun h => by have := hSlt k h; have := D.back i k hk; omega, fun h => hnl (hcl k h i hk)⟩) (fun h => Nat.lt_irrefl _ (hSlt i h)) hnl
      obtain ⟨he, hwd⟩ := same_op D ho (hS.size.trans hL.size.symm) hag
      have go : wpAny P .any ops Q F (listed.setIfInBounds i true) (a.put o.dst (z i)) w := by
        refine ih _ _ w f p av s z a0 g hsz' hcnt' hcl' hat hF (hL.put D ho hdl hset) (by rw [(put_size _ _ _).2]; exact hdef) ?_ hA ?_ hP hw
        · intro j q hq hrq
          rw [hW j q hq hrq, hset]
          exact ⟨.inl, fun h => h.resolve_right fun e => by subst e; rw [ho] at hq; injection hq with hq; subst hq; rw [hr] at hrq; simp at hrq⟩
        · intro j q hq hrq hj hn
          exact hRun j q hq hrq hj fun h => hn ((hset j).2 (.inl h))
      unfold wpOp
      rw [ho]
      dsimp only
      rcases hcm with ⟨h1, h2⟩ | ⟨h1, h2⟩
      · rw [if_pos (hwd ▸ h1)]
        refine .inl ?_
        unfold Oper.wp
        rw [← he, h2]
        exact go
      · rw [if_neg (by rw [← hwd, h1]; simp), ← h2]
        exact go
    | false =>
      have hip : inM i p = false := by
        cases h : inM i p with
        | false => rfl
        | true => exact absurd ((hW i o ho hr).1 h) hnl
      cases f with
      | zero => exact hw.elim
      | succ f =>
        simp only [wpNode] at hw
        split at hw
        · rename_i h
          have := allW_all _ _ h i o (i, edgeM o.after.toList 0) (by simpa using ho) (D.tab i o ho) hr
          rw [hip] at this
          exact absurd this (by simp)
        · have hcand := candO_get _ _ hw i o _ (by simpa using ho) (D.tab i o ho) hr hip ((subM_iff _ _).2 fun k hk => hav k (by
              have hk := (waits_inM ho).1 hk
              exact Nat.lt_trans (D.back k i hk) hlt) (hwait k ((waits_inM ho).1 hk)))
          simp only [forceN_eq] at hcand
          have hnav : ∀ k, Waits ops i k → ¬ inM k av = true := by
            rintro k hk h
            obtain ⟨q, hq, _⟩ := id hk
            rcases (hA k q hq).1 h with h1 | h1
            · have := (hA i o ho).1 (h1.2 i hk)
              rcases this with h2 | h2
              · rw [hr] at h2; simp at h2
              · rw [hip] at h2; simp at h2
            · exact hnl (hcl k ((hW k q hq h1.1).1 h1.2) i hk)
          have hiav : ¬ inM i av = true := fun h => by
            rcases (hA i o ho).1 h with h2 | h2
            · rw [hr] at h2; simp at h2
            · rw [hip] at h2; simp at h2
          have hag := hF.agree hL D ho (fun k hk => ⟨hav k (Nat.lt_trans (D.back k i hk) hlt) (hwait k hk), hwait k hk⟩) (fun k hk => ⟨hnav k hk, fun h => hnl (hcl k h i hk)⟩) hiav hnl
          obtain ⟨he, hwd⟩ := same_op D ho hsz0 hag
          -- behind it
          have go : ∀ (s' : St) (v : Value) (w' : World), refill τ ops.toList tab (addM i p) av (sureM tab.reverse (addM i p)) (fun av s => wpNode τ C ops.toList tab f (addM i p) av s K) s' → At τ w0 base M nn (a0 :: as) s' (g.put o.dst v) w' →
              wpAny P .any ops Q F (listed.setIfInBounds i true) (a.put o.dst v) w' := by
            intro s' v w' hrf hat'
            obtain ⟨old, stk, bx, rw', dep⟩ := s'
            cases stk with
            | nil => exact hrf.elim
            | cons fr0 stk =>
              simp only [refill] at hrf
              let z2 : Nat → Value := fun k => if k = i then v else z k
              have hz2 : ∀ k, k ≠ i → z2 k = z k := fun k hk => by simp [z2, hk]
              have hz2i : z2 i = v := by simp [z2]
              have hpin : ∀ j, inM j (addM i p) = true ↔ inM j p = true ∨ j = i := fun j => by rw [inM_add]; simp
              have hpW : ∀ (j : Nat) (q : Oper), ops[j]? = some q → isR q = false → (inM j (addM i p) = true ↔ (listed.setIfInBounds i true).getD j false = true) := by
                intro j q hq hrq
                rw [hpin, hset, hW j q hq hrq]
              have hL2 : Fills ops (fun j => (listed.setIfInBounds i true).getD j false = true) z2 a0 (a.put o.dst v).tmps := by
                have h1 : Fills ops (fun j => listed.getD j false = true) z2 a0 a.tmps := hL.congr (fun _ => Iff.rfl) fun j hj => hz2 j fun e => by subst e; exact hnl hj
                rw [← hz2i]
                exact h1.put D ho hdl hset
              have hgs : a0.size = (g.put o.dst v).tmps.size := by rw [(put_size _ _ _).1]; exact hF.size.symm
              refine fill_sound hτ D (p := addM i p) (avO := av) (su := sureM tab.reverse (addM i p)) (old := old) (Dn := fun j => (listed.setIfInBounds i true).getD j false = true) (z := z2) (a0 := a0) (oldA := (g.put o.dst v).tmps) (as := a0 :: as) (w := w') (w0 := w0) (base := base) (M := M) (nn := nn) hdst
                (fun j q hq hrq h => (hpW j q hq hrq).1 h) ?_ ?_ ?_ ?_ ops.toList tab 0 0 _ { tmps := a0, defers := [] } z2 rfl rfl hrf (hat'.refill hgs) ⟨_, rfl⟩ ?_ (fun _ _ => rfl) (fun j q _ hj => absurd hj (Nat.not_lt_zero _)) (fun j hj => by rw [inM_zero] at hj; simp at hj) (fun j q _ _ hj => by rw [inM_zero] at hj; simp at hj)
              · intro j q hq hrq hj
                rcases (hset j).1 hj with h | rfl
                · exact hav j (opLt hq) h
                · rw [ho] at hq; injection hq with hq; subst hq; rw [hr] at hrq; simp at hrq
              · refine sureM_sub _ _ ?_ ?_
                · intro j hj
                  rcases (hpin j).1 hj with h | rfl
                  · obtain ⟨q, hq, hrq⟩ := hP j h
                    exact (hset j).2 (.inl ((hW j q hq hrq).1 h))
                  · exact (hset _).2 (.inr rfl)
                · intro q hq hX k hk
                  rw [List.mem_reverse] at hq
                  obtain ⟨j, hj⟩ := List.mem_iff_getElem?.1 hq
                  have hjl := (List.getElem?_eq_some_iff.1 hj).1
                  rw [D.len] at hjl
                  have hjo : ops[j]? = some ops[j] := Array.getElem?_eq_getElem hjl
                  rw [D.tab j _ hjo] at hj
                  injection hj with hj
                  subst hj
                  exact hcl' j hX k ((waits_inM hjo).1 hk)
              · intro j q t hq hqt hj
                rw [getD_put]
                rcases (hset j).1 hj with h | rfl
                · have hne : j ≠ i := fun e => by subst e; exact hnl h
                  rw [if_neg (fun hc => (D.dst j i o q t ho hq hne hqt) hc.1), hz2 j hne]
                  exact hF.get D hq hqt (hav j (opLt hq) h)
                · rw [ho] at hq
                  injection hq with hq
                  subst hq
                  rw [if_pos ⟨hqt, Nat.lt_of_lt_of_le (hdn t hqt) hnn⟩, hz2i]
              · intro av' s'' g'' z3 hnode hat'' _ hF'' hz3 hA' hRun'
                refine ih _ _ w' f (addM i p) av' (pop1 s'') z3 a0 g'' hsz' hcnt' hcl' hat''.pop hF'' (hL2.congr (fun _ => Iff.rfl) hz3) (by rw [(put_size _ _ _).2]; exact hdef) hpW hA' hRun' (fun j hj => ((hpin j).1 hj).elim (hP j) fun e => ⟨o, by rw [e]; exact ho, hr⟩) hnode
              · exact ⟨rfl, fun t => .inr ⟨fun j q _ _ hj => by rw [inM_zero] at hj; simp at hj, rfl⟩⟩
          unfold wpOp
          rw [ho]
          dsimp only
          rcases guardO_sound hat hcand with ⟨h1, s1, h2, h3⟩ | ⟨h1, s1, h2, h3⟩
          · rw [if_pos (hwd ▸ h1)]
            refine .inl (wp_transfer (Mx := fun g' w' => ∃ s', refill τ ops.toList tab (addM i p) av (sureM tab.reverse (addM i p)) (fun av s => wpNode τ C ops.toList tab f (addM i p) av s K) s' ∧ At τ w0 base M nn (a0 :: as) s' g' w') he (stepW_wp hτ hC h3 hdn h2 fun s' a' w' hk hat => ⟨s', hk, hat⟩) ?_ ?_)
            · rintro g' w' ⟨s', _, _, _, _, _, _, hgd⟩; exact hgd
            · rintro v w' ⟨s', hk, hat'⟩; exact go s' v w' hk hat'
          · rw [if_neg (by rw [← hwd, h1]; simp)]
            exact go _ undef w h2 (h3.skip hdn)
omit hτ hC in
theorem At.drew {s : St} {a : Act} {w : World} (h : At τ w0 base M nn as s a w) : At τ w0 base M nn as s a { w with drawn := w.drawn + 1 } := by
  obtain ⟨E, hd, h1⟩ := h
  refine ⟨E, ?_, h1⟩
  have hk : Keeps E E w { w with drawn := w.drawn + 1 } := ⟨rfl, Nat.le_refl _, fun _ _ _ => rfl, fun _ h => .inl h⟩
  have hs := Shift.refl E s s { w with drawn := w.drawn + 1 } rfl
  refine hd.move hk rfl ⟨rfl, rfl, rfl, Nat.le_refl _, fun _ _ => rfl⟩ hs rfl rfl hd.owb ?_ ?_ hd.bb hd.br hd.rr
  · intro k T cs hb
    obtain ⟨ho, us, hh, hc⟩ := hd.box k T cs hb
    exact ⟨ho, us, hh, hs.cells hk hb hc⟩
  · intro k e lo r hl hm
    exact (hd.own k e lo r hl hm).keeps hk rfl rfl (hd.own k e lo r hl hm).ow fun _ _ => rfl
omit hτ hC in
theorem At.begin {fr : List (Nat × SV)} {stk : List (List (Nat × SV))} {bx : List (Nat × (TypeId × List SV))} {rw' : List (Nat × Ent)} {dep : Nat} {a : Act} {w : World} (h : At τ w0 base M nn as ⟨fr, stk, bx, rw', dep⟩ a w) :
    At τ w0 base M nn (a.tmps :: a.tmps :: as) ⟨fr, [] :: fr :: stk, bx, rw', dep⟩ { tmps := a.tmps, defers := [] } w := by
  obtain ⟨E, hd, h1, h2, h3, h4⟩ := h
  refine ⟨E, ⟨hd.below, hd.bM, hd.Mh, hd.owb, ?_, hd.box, hd.own, hd.bb, hd.br, hd.rr⟩, h1, h2, h3, rfl⟩
  intro i f hf
  cases i with
  | zero =>
    obtain ⟨b, hb, hfr⟩ := hd.fr 0 f hf
    exact ⟨b, by simpa using hb, hfr⟩
  | succ i =>
    cases i with
    | zero =>
      simp at hf
      subst hf
      exact ⟨_, rfl, fun t => by unfold lkv; trivial⟩
    | succ i =>
      obtain ⟨b, hb, hfr⟩ := hd.fr i f (by simpa using hf)
      exact ⟨b, by simpa using hb, hfr⟩
theorem draw_sound (hm : P.follows .mixedOrders = true) {id : Nat} {Q : Exit → Act → World → Prop} {K : St → Prop} {s : St} {a : Act} {w : World} (hdst : dstOk nn ops.toList = true) (hdr : drawOk ops.toList tab = true)
    (hK : ∀ s a w, K s → At τ w0 base M nn as s a w → Q .normal a w) (hw : wpDraw τ C ops.toList tab K s) (hat : At τ w0 base M nn as s a w) : (Code.region id ops true).wp P Q a w := by
  refine wp_region_any hm ?_
  have D := drawOk_spec hdr
  obtain ⟨fr, stk, bx, rw', dep⟩ := s
  simp only [wpDraw, refill] at hw
  have hdef : a.defers = [] := by obtain ⟨_, _, _, _, _, h⟩ := hat; exact h
  have hemp : ∀ j, ¬ inM j 0 = true := fun j hj => by rw [inM_zero] at hj; simp at hj
  have hno : ∀ j, ¬ (Array.replicate ops.size false).getD j false = true := fun j => by
    rw [Array.getD_eq_getD_getElem?, Array.getElem?_replicate]
    split <;> simp
  refine fill_sound hτ D (p := 0) (avO := 0) (su := 0) (old := []) (Dn := fun _ => False) (z := fun _ => undef) (a0 := a.tmps) (oldA := a.tmps) (as := a.tmps :: as) (w0 := w0) (base := base) (M := M) (nn := nn) hdst
    (fun j q hq hrq h => hemp j h) (fun j q hq hrq h => h.elim) (fun j h => hemp j h) (fun j q t _ _ h => h.elim) ?_ ops.toList tab 0 0 _ { tmps := a.tmps, defers := [] } (fun _ => undef) rfl rfl hw hat.drew.begin ⟨_, rfl⟩
    ⟨rfl, fun t => .inr ⟨fun j q _ _ hj => hemp j hj, rfl⟩⟩ (fun _ h => h.elim) (fun j q _ hj => absurd hj (Nat.not_lt_zero _)) (fun j hj => absurd hj (hemp j)) (fun j q _ _ hj => absurd hj (hemp j))
  intro av s'' g z' hnode hat'' _ hF _ hA hRun
  refine node_sound hτ hC D hdst hK ops.size _ a _ _ 0 av (pop1 s'') z' a.tmps g (by simp) ?_ (fun j hj => absurd hj (hno j)) hat''.pop hF ⟨rfl, fun t => .inr ⟨fun j q _ _ hj => hno j hj, rfl⟩⟩ hdef ?_ hA (fun j q hq hrq hj _ => hRun j q hq hrq hj fun h => h) (fun j hj => absurd hj (hemp j)) hnode
  · intro l hn hl
    exact nodup_le _ l hn fun j hj => (hl j hj).1
  · intro j q hq hrq
    exact ⟨fun h => absurd h (hemp j), fun h => absurd h (hno j)⟩
end
end Go.Proofs.Ytmgccphapkmmeaa
