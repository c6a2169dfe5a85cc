/- The row of Msgs. -/
import Derived.Test.YtgaamffapifobaaRows
import Derived.Test.YtgaamffapifobaaG12
import Derived.Test.YtgaamffapifobaaXT
import Derived.WalkKit
import Derived.ProofKit
import Derived.OpenShut
import Derived.ShutString
import Derived.ChangeOld
import Derived.Below
import Derived.SizedLaws
import Derived.Carry
namespace Go.Proofs.Ytgaamffapifobaa.msgs
open Go.ChangeShapes Go.WideShapes Go.ChangeAt Go.RowKit
open Go.ChangeMaps (open_string shut_string)
theorem own : ownKnob Try.prog.godebug = none := by kernel_rfl
theorem laidOut : laidOutB Try.prog = true := by kernel_rfl
theorem openArg {H : Type} {enc : TypeId × Value → H} {W : World} {T : TypeId} {i : TI} {v : Value} {d : DataW H} {p : List MemPlace} (hr : readable tau 8 T = true) (hi : tau.ti T = some i)
    (h : DataW.Trod enc Try.prog W 0 (fun _ => true) true T v d p) (hw : ∀ n ∈ d.weights Try.prog T, n ≤ reachBytes) : ∃ xs, likeL i.zero xs ∧ L0 (vd0 E0 [] W) xs v.cells.toList := by
  obtain ⟨fuel, hf⟩ := h
  exact trod_cells tau_ok 8 fuel T i _ _ hr hi hf hw
theorem agg_of {W : World} {z xs : List SV} {v : Value} (hz : 1 < z.length) (hl : likeL z xs) (h : L0 (vd0 E0 [] W) xs v.cells.toList) : vd3 E0 [] W (.agg xs) v := by
  have hlen : 1 < v.cells.toList.length := by rw [← h.1, ← hl.1]; exact hz
  cases v with
  | agg cs => exact ⟨cs.toList, by simp, (h.mono fun x u _ hp => old0_vd1 hp : L0 (vd1 E0 [] W) xs cs.toList)⟩
  | _ => simp [Value.cells] at hlen
theorem msg_of {z xs : List SV} (hz : z = [.int .i64 0, .int .i64 0, .int .i64 0, .nilS (mkEmpty 0), .int .i64 0, .int .i64 0, .int .i64 0, .int .i64 0, .int .i64 0, .bool false, .bool false]) (h : likeL z xs) : ∃ m : GMsg, SV.agg xs = dMsg.e m := by
  subst hz
  obtain ⟨x0, xs0, e0, l0, g0⟩ := likeL.cons_inv (show likeL (_ :: _) _ from h)
  obtain ⟨x1, xs1, e1, l1, g1⟩ := likeL.cons_inv (show likeL (_ :: _) _ from g0)
  obtain ⟨x2, xs2, e2, l2, g2⟩ := likeL.cons_inv (show likeL (_ :: _) _ from g1)
  obtain ⟨x3, xs3, e3, l3, g3⟩ := likeL.cons_inv (show likeL (_ :: _) _ from g2)
  obtain ⟨x4, xs4, e4, l4, g4⟩ := likeL.cons_inv (show likeL (_ :: _) _ from g3)
  obtain ⟨x5, xs5, e5, l5, g5⟩ := likeL.cons_inv (show likeL (_ :: _) _ from g4)
  obtain ⟨x6, xs6, e6, l6, g6⟩ := likeL.cons_inv (show likeL (_ :: _) _ from g5)
  obtain ⟨x7, xs7, e7, l7, g7⟩ := likeL.cons_inv (show likeL (_ :: _) _ from g6)
  obtain ⟨x8, xs8, e8, l8, g8⟩ := likeL.cons_inv (show likeL (_ :: _) _ from g7)
  obtain ⟨x9, xs9, e9, l9, g9⟩ := likeL.cons_inv (show likeL (_ :: _) _ from g8)
  obtain ⟨x10, xs10, e10, l10, g10⟩ := likeL.cons_inv (show likeL (_ :: _) _ from g9)
  have en := likeL.nil_inv (show likeL [] _ from g10)
  obtain ⟨a0, rfl⟩ := l0
  obtain ⟨a1, rfl⟩ := l1
  obtain ⟨a2, rfl⟩ := l2
  obtain ⟨q3, rfl, k3⟩ := l3
  obtain ⟨a3, rfl⟩ : ∃ l, q3 = .ints l := by cases q3 <;> first | exact ⟨_, rfl⟩ | (simp [Rw.kd, mkEmpty] at k3; done)
  obtain ⟨a4, rfl⟩ := l4
  obtain ⟨a5, rfl⟩ := l5
  obtain ⟨a6, rfl⟩ := l6
  obtain ⟨a7, rfl⟩ := l7
  obtain ⟨a8, rfl⟩ := l8
  obtain ⟨a9, rfl⟩ := l9
  obtain ⟨a10, rfl⟩ := l10
  subst en
  subst e10
  subst e9
  subst e8
  subst e7
  subst e6
  subst e5
  subst e4
  subst e3
  subst e2
  subst e1
  subst e0
  exact ⟨⟨a0, a1, a2, a3, a4, ⟨a5, ⟨a6, a7⟩, a8, a9⟩, a10⟩, rfl⟩
set_option maxRecDepth 100000 in
theorem lifted (os : Os) (started : os.Started) (H : Type) (enc : TypeId × Value → H) :
    ReturnsInHanded {} Try.checked os 3 .any (Rows.msgsSpec.pre6 enc Try.prog Try.f3 Rows.msgsRow.domain false) (Rows.msgsSpec.post enc Try.prog Try.f3 false true false false) := by
  refine returnsInHanded_of_change_sized (C := Try.checked) own started (by kernel_rfl) Try.func3
    (ChangeSpec.witness6 (enc := enc) (C := Try.checked) false ⟨#[], #[.agg #[.int .i64 0, .int .i64 0, .int .i64 0, .slice none 0 0, .int .i64 0, .int .i64 0, .int .i64 0, .int .i64 0, .int .i64 0, .bool false, .bool false]], []⟩ 8 (by kernel_rfl) (by kernel_rfl) (by kernel_rfl) (by kernel_rfl)) ?_
  intro W base args ds gs before hval0 hW hcnd hsz0 _
  have hsz : (DataW.weightsEach Try.prog (Try.f3.params.toList ++ Rows.msgsSpec.plain.varTypes Try.prog) (ds ++ gs)).all (· ≤ reachBytes) = true := hsz0
  have hval : ∀ (j : Nat) t v, Try.f3.params[j]? = some t → args[j]? = some v → Value.okWide Try.prog W .any base t v := hval0
  have hW' := hW
  obtain ⟨p, q, hA0, hV, rfl, hfz, hnd⟩ := hW
  have hA : DataW.TrodAll enc Try.prog W 0 (fun _ => true) true Try.f3.params.toList args.toList ds p := hA0
  rw [Try.params3] at hA hval hsz
  obtain ⟨v0, vs0, d0, ds0, p0, q0, hargs, rfl, rfl, h0, r0⟩ := trodAll_cons hA
  obtain ⟨rfl, rfl, rfl⟩ := trodAll_nil r0
  obtain rfl : args = #[v0] := by cases args; simp_all
  obtain ⟨rfl, rfl⟩ := trodVars_none hV
  have k0 := h0
  have lt0 : ∀ x ∈ p0, x.block < W.heap.size := by obtain ⟨m, hm⟩ := k0; exact DataW.trod_lt m _ _ _ hm
  have w0 : ∀ n ∈ d0.weights Try.prog 28, n ≤ reachBytes := fun n hn => by
    have := List.all_eq_true.1 hsz n (DataW.weights_mem_each (j := 0) (t := 28) (d := d0) rfl rfl n hn)
    simpa using this
  obtain ⟨xs, hl, hx⟩ := openArg (i := _) (by kernel_rfl) rfl h0 w0
  have hv := agg_of (by decide) hl hx
  obtain ⟨m, hm⟩ := msg_of rfl hl
  rw [hm] at hv
  have hc : Calls Try.prog 3 #[v0] W fun e w' => ∃ z, e = .returned z ∧ Below W.heap.size W w' ∧ Res tau W.heap.size w' (.bool true) [] z := k_Msgs.valid [dMsg.e m] [v0] W (.cons hv .nil)
  refine hc.mono fun e W' => ?_
  rintro ⟨z, rfl, bel, E, _, _, _, _, _, hz⟩
  obtain rfl : z = .bool true := hz
  clear hA0 hval0 hsz0 hsz
  exact ⟨_, rfl, _, _, _, [], _, [], hW', trodAll_mk1 (shut_bool Try.underlying4 _), (trodAll_cons_mk (Below.trod laidOut (by kernel_rfl) (of_decide_eq_true (by kernel_rfl)) k0 bel lt0) trodAll_mk0), rfl, bel.frame _, fun h => by cases h⟩
theorem over : Rows.msgsRow.holds Try.pinned (OpenSpec.ofChange Rows.msgsSpec) :=
  OpenClaim.holds_of_wide 3 Try.f3 rfl rfl rfl rfl rfl rfl rfl ⟨rfl, rfl, rfl, rfl, rfl⟩ rfl rfl rfl rfl rfl (by kernel_rfl) Try.func3 (by kernel_rfl)
    (of_decide_eq_true (by kernel_rfl)) (by unfold Func.isWrapper; first | (rw [if_pos (by decide +kernel)]; kernel_rfl) | (rw [if_neg (by decide +kernel)]; exact ⟨rfl, rfl⟩))
    (fun os started H enc _ => lifted os started H enc)
theorem proved : Rows.MsgsSaid := over
#print axioms proved
end Go.Proofs.Ytgaamffapifobaa.msgs
