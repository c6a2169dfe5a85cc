/- A symbolic executor for loaded Go code: calls, and every operation. -/
import Derived.Test.YtmgccphapkmmeaaVUa
namespace Go.Proofs.Ytmgccphapkmmeaa
open Go.RowKit

section
variable {P : Program} {τ : Tys} {w0 : World} {E : Env} {as : List (Array Value)} {a : Act} {w : World}
variable {s : St} {bs : List (Array Value)} {o : Oper}
variable {fr : List (Nat × SV)} {stk : List (List (Nat × SV))} {bx : List (Nat × (TypeId × List SV))} {rw' : List (Nat × Ent)} {dep : Nat}

/-- What a call is to come to, by its contract. -/
theorem putRes_good (hd : Den τ w0 E ⟨fr, stk, bx, rw', dep⟩ (a.tmps :: as) w) (hdst : ∀ t, o.dst = some t → t < a.tmps.size) (f : FuncId) (args : List Value)
    (hrun : (execOp a.eval o).run P w = .ok (.enter f args.toArray) w) (v : SV) (rows : List Rw) (q : Prop) (K : St → RS) (hK : ∀ s' p, (K s').good p ↔ (q → p s'))
    (hc : q → Calls P f args.toArray w fun e w' => ∃ z, e = .returned z ∧ Below w.heap.size w w' ∧ Res τ w.heap.size w' v rows z) :
    (putRes o.dst v rows K ⟨fr, stk, bx, rw', dep⟩).good (OpGood P τ w0 E as o a w) := by
  unfold putRes
  dsimp only
  split
  · rename_i hok
    split
    · rename_i hdn
      refine (hK _ _).2 fun hq next Q h => ?_
      unfold Oper.wp
      rw [hrun, Oper.upon_enter]
      refine (hc hq).mono ?_
      rintro e w' ⟨z, rfl, hb, Er, h1, h2, h3, h4, h5, h6⟩
      have hj := hd.join (kb := 0) (rows := []) hb h2 h3 (fun i r h => by simp at h) (fun i j ri rj g h => by simp at h) rfl
      refine h (E.join Er 0 0) z w' ?_ rfl rfl
      rw [hdn]
      exact hj
    · rename_i d hdn
      split
      · rename_i hfree
        rw [SV.force_eq]
        refine (hK _ _).2 fun hq next Q h => ?_
        unfold Oper.wp
        rw [hrun, Oper.upon_enter]
        refine (hc hq).mono ?_
        rintro e w' ⟨z, rfl, hb, Er, h1, h2, h3, h4, h5, h6⟩
        have hj := hd.join (kb := dep + d) (rows := rows) hb h2 h3 h4 h5 hfree
        have hz := renum2_vd (kb := dep + d) (R := rw') h2 hd.Mh (fun g hg => (hd.owb g hg).2) hok h6
        have hp := hj.put (d := some d) hz (fun t ht => by simp at ht; subst ht; exact hdst d hdn)
        refine h (E.join Er (dep + d) rows.length) z w' ?_ rfl rfl
        rw [hdn]
        exact hp
      · trivial
  · trivial
theorem value_good (hτ : TysOk P τ) {C : Ctx} (hC : CtxOk P τ C) (hd : Den τ w0 E ⟨fr, stk, bx, rw', dep⟩ (a.tmps :: as) w) (hdst : ∀ t, o.dst = some t → t < a.tmps.size) (c : Call) (x : Operand) (ho : o.op = .call c) (hb : c.callee = .value x) :
    (stepCall τ C c o.dst ⟨fr, stk, bx, rw', dep⟩).good (OpGood P τ w0 E as o a w) := by
  unfold stepCall
  rw [hb]
  dsimp only
  rw [SV.force_eq]
  have hx := hd.get x
  split
  · rename_i g ls cs hg
    rw [hg] at hx
    obtain ⟨us, vs, hf, h1, h2⟩ := hx
    split
    · rename_i sp hsp
      rw [forceL_eq]
      have hargs : L0 (vd3 E rw' w) (ls ++ getN τ ⟨fr, stk, bx, rw', dep⟩ c.args.toList c.argTypes.toList ++ cs) (us ++ c.args.toList.map a.eval ++ vs) :=
        ((h1.mono fun _ _ _ h => vd3_of_vdf h).append (getN_vd hd _ _)).append (h2.mono fun _ _ _ h => vd3_of_vd0 h)
      have hv := hC.valid g sp hsp _ _ w (args_vd hd hargs)
      have hrun : (execOp a.eval o).run P w = .ok (.enter g (us ++ c.args.toList.map a.eval ++ vs).toArray) w := by
        have he := hC.enters g sp hsp (us ++ c.args.toList.map a.eval ++ vs).toArray w
        simp only [execOp, ho, resolve, hb, hf, Deferred.ofValue, invoke, Sem.run_bind, Sem.run_pure, Result.andThen_ok]
        rw [← he]
        congr 2
        apply Array.toList_inj.1
        simp
      split
      · rename_i v rows hs
        rw [hs] at hv
        exact putRes_good hd hdst g _ hrun v rows True _ (fun s' p => by simp [RS.good]) fun _ => hv
      · rename_i q v rows hs
        rw [hs] at hv
        exact putRes_good hd hdst g _ hrun v rows q _ (fun s' p => by simp [RS.good]) hv
      · trivial
    · trivial
  · trivial
theorem call_good (hτ : TysOk P τ) {C : Ctx} (hC : CtxOk P τ C) (hd : Den τ w0 E ⟨fr, stk, bx, rw', dep⟩ (a.tmps :: as) w) (hdst : ∀ t, o.dst = some t → t < a.tmps.size) (c : Call) (ho : o.op = .call c) :
    (stepCall τ C c o.dst ⟨fr, stk, bx, rw', dep⟩).good (OpGood P τ w0 E as o a w) := by
  cases hb : c.callee with
  | value x => exact value_good hτ hC hd hdst c x ho hb
  | invoke r n => unfold stepCall; rw [hb]; trivial
  | builtin b =>
    unfold stepCall
    rw [hb]
    cases b with
    | len =>
      dsimp only
      split
      · rename_i x T hx hT
        rw [SV.force_eq]
        split
        · rename_i n b hn htd hs
          exact len_good hτ hd hdst c x T ho hb hx hT hn (.inl ⟨htd, b, hs⟩)
        · rename_i n e t r hn htd hs
          exact len_good hτ hd hdst c x T ho hb hx hT hn (.inr ⟨⟨_, htd⟩, fun b => by rw [hs]; simp⟩)
        · rename_i n e k hn htd hs
          exact len_good hτ hd hdst c x T ho hb hx hT hn (.inr ⟨⟨_, htd⟩, fun b => by rw [hs]; simp⟩)
        · rename_i n e r hn htd hs
          exact len_good hτ hd hdst c x T ho hb hx hT hn (.inr ⟨⟨_, htd⟩, fun b => by rw [hs]; simp⟩)
        · trivial
      · trivial
    | append =>
      dsimp only
      split
      · rename_i x y T T' hx hT
        split
        · rename_i hTT
          obtain rfl := Nat.eq_of_beq_eq_true hTT
          exact append_good hτ hd hdst c T x y ho hb hx hT
        · trivial
      · trivial
    | min =>
      dsimp only
      split
      · rename_i x y hx
        rw [SV.force_eq, SV.force_eq]
        exact min_good hd hdst c x y .min (.inl rfl) ho hb hx
      · trivial
    | max =>
      dsimp only
      split
      · rename_i x y hx
        rw [SV.force_eq, SV.force_eq]
        exact min_good hd hdst c x y .max (.inr rfl) ho hb hx
      · trivial
    | _ => trivial
theorem step_good (hτ : TysOk P τ) {C : Ctx} (hC : CtxOk P τ C) (hd : Den τ w0 E ⟨fr, stk, bx, rw', dep⟩ (a.tmps :: as) w) (hdst : ∀ t, o.dst = some t → t < a.tmps.size) :
    (step τ C o ⟨fr, stk, bx, rw', dep⟩).good (OpGood P τ w0 E as o a w) := by
  unfold step
  dsimp only
  split
  · rename_i x ho; exact move_good hτ hd hdst x (.inl ho)
  · rename_i x ho; exact move_good hτ hd hdst x (.inr ho)
  · rename_i c x y ho; simp only [SV.force_eq]; exact pick_good hd hdst c x y ho
  · rename_i T ho; exact alloc_good hτ hd hdst T ho
  · rename_i T x ho; exact box_good hτ hd hdst T x ho
  · rename_i T ps ho; exact build_good hτ hd hdst T ps ho
  · rename_i T n ps ho; exact lit_good hτ hd hdst T n ps ho
  · rename_i T x ho; rw [SV.force_eq]; exact load_good hτ hd hdst T x ho
  · rename_i T x v ho
    split
    · rename_i hdn; exact store_good hτ hd hdn T x v ho
    · trivial
  · rename_i x ho; rw [SV.force_eq]; exact check_good hd hdst x ho
  · rename_i op T x y T' ho; simp only [SV.force_eq]; exact bin_good hτ hd hdst op T T' x y ho
  · rename_i op T x ho; simp only [SV.force_eq]; exact un_good hd hdst op T x ho
  · rename_i b c x ho
    split
    · exact bytes_good hτ hd hdst b c x ho
    · simp only [SV.force_eq]; exact conv_good hτ hd hdst b c x ho
  · rename_i fn b c ho; exact func_good hd hdst fn b c ho
  · rename_i T n c ho
    split
    · split
      · rename_i hnc
        obtain rfl := Nat.eq_of_beq_eq_true hnc
        exact make_good hτ hd hdst T _ ho
      · trivial
    · trivial
  · rename_i T x lo hi mx ho; exact slice_good hτ hd hdst T x lo hi mx ho
  · rename_i S x j ho; rw [SV.force_eq]; exact fieldAddr_good hτ hd hdst S x j ho
  · rename_i S x j ho; rw [SV.force_eq]; exact field_good hτ hd hdst S x j ho
  · rename_i T x i ho; simp only [SV.force_eq]; exact indexAddr_good hτ hd hdst T x i ho
  · rename_i T x i ho; simp only [SV.force_eq]; exact index_good hτ hd hdst T x i ho
  · rename_i x j ho; rw [SV.force_eq]; exact extract_good hd hdst x j ho
  · rename_i c ho; exact call_good hτ hC hd hdst c ho
  · trivial
end
end Go.Proofs.Ytmgccphapkmmeaa
