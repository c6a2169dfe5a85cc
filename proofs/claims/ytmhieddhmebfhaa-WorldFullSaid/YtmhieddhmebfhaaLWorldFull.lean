/- The statement WorldFull holds: the row, out of the contract of its function. -/
import Derived.Test.YtmhieddhmebfhaaRows
import Derived.Test.YtmhieddhmebfhaaMLWorldFull4
import Derived.WalkKit
import Derived.ProofKit
import Derived.OpenShut
import Derived.ShutString
import Derived.ChangeOld
import Derived.Below
import Derived.SizedLaws
import Derived.Carry
namespace Go.Proofs.Ytmhieddhmebfhaa.worldFull
open Go.ChangeShapes Go.WideShapes Go.ChangeAt Go.RowKit
open Go.ChangeMaps (open_string shut_string)
theorem own : ownKnob Try.prog.godebug = none := by kernel_rfl
theorem laidOut : laidOutB Try.prog = true := by kernel_rfl
theorem openArg {H : Type} {enc : TypeId × Value → H} {W : World} {T : TypeId} {i : TI} {v : Value} {d : DataW H} {p : List MemPlace} (hr : readable tau 8 T = true) (hi : tau.ti T = some i)
    (h : DataW.Trod enc Try.prog W 0 (fun _ => true) true T v d p) (hw : ∀ n ∈ d.weights Try.prog T, n ≤ reachBytes) : ∃ xs, likeL i.zero xs ∧ L0 (vd0 E0 [] W) xs v.cells.toList := by
  obtain ⟨fuel, hf⟩ := h
  exact trod_cells tau_ok 8 fuel T i _ _ hr hi hf hw
set_option maxRecDepth 100000 in
theorem lifted (os : Os) (started : os.Started) (H : Type) (enc : TypeId × Value → H) :
    ReturnsInHanded {} Try.checked os 8 .any (Rows.worldFullSpec.pre6 enc Try.prog Try.f8 Rows.worldFullRow.domain false) (Rows.worldFullSpec.post enc Try.prog Try.f8 false true false false) := by
  refine returnsInHanded_of_change_sized (C := Try.checked) own started (by kernel_rfl) Try.func8
    (ChangeSpec.witness6 (enc := enc) (C := Try.checked) false ⟨#[], #[.int .i64 0, .int .i64 0], []⟩ 8 (by kernel_rfl) (by kernel_rfl) (by kernel_rfl) (by kernel_rfl)) ?_
  intro W base args ds gs before hval0 hW hcnd hsz0 _
  have hsz : (DataW.weightsEach Try.prog (Try.f8.params.toList ++ Rows.worldFullSpec.plain.varTypes Try.prog) (ds ++ gs)).all (· ≤ reachBytes) = true := hsz0
  have hval : ∀ (j : Nat) t v, Try.f8.params[j]? = some t → args[j]? = some v → Value.okWide Try.prog W .any base t v := hval0
  have hW' := hW
  obtain ⟨p, q, hA0, hV, rfl, hfz, hnd⟩ := hW
  have hA : DataW.TrodAll enc Try.prog W 0 (fun _ => true) true Try.f8.params.toList args.toList ds p := hA0
  rw [Try.params8] at hA hval hsz
  obtain ⟨v0, vs0, d0, ds0, p0, q0, hargs, rfl, rfl, h0, r0⟩ := trodAll_cons hA
  obtain ⟨v1, vs1, d1, ds1, p1, q1, rfl, rfl, rfl, h1, r1⟩ := trodAll_cons r0
  obtain ⟨rfl, rfl, rfl⟩ := trodAll_nil r1
  obtain rfl : args = #[v0, v1] := by cases args; simp_all
  obtain ⟨rfl, rfl⟩ := trodVars_none hV
  have k0 := h0
  have lt0 : ∀ x ∈ p0, x.block < W.heap.size := by obtain ⟨m, hm⟩ := k0; exact DataW.trod_lt m _ _ _ hm
  obtain ⟨a0, rfl, rfl, rfl, w0⟩ := open_int Try.underlying3 (hval 0 3 v0 rfl rfl) h0
  have k1 := h1
  have lt1 : ∀ x ∈ p1, x.block < W.heap.size := by obtain ⟨m, hm⟩ := k1; exact DataW.trod_lt m _ _ _ hm
  obtain ⟨a1, rfl, rfl, rfl, w1⟩ := open_int Try.underlying3 (hval 1 3 v1 rfl rfl) h1
  have hc : Calls Try.prog 8 #[.int .i64 a0, .int .i64 a1] W fun e w' => ∃ z, e = .returned z ∧ Below W.heap.size W w' ∧ Res tau W.heap.size w' (.bool true) [] z := k_WorldFull.valid [.int .i64 a0, .int .i64 a1] [.int .i64 a0, .int .i64 a1] W (.cons (show vd3 E0 [] W (.int .i64 a0) (.int .i64 a0) from rfl) (.cons (show vd3 E0 [] W (.int .i64 a1) (.int .i64 a1) from rfl) .nil))
  refine hc.mono fun e W' => ?_
  rintro ⟨z, rfl, bel, E, _, _, _, _, _, hz⟩
  obtain rfl : z = .bool true := hz
  clear hA0 hval0 hsz0 hsz
  exact ⟨_, rfl, _, _, _, [], _, [], hW', trodAll_mk1 (shut_bool Try.underlying4 _), (trodAll_cons_mk (Below.trod laidOut (by kernel_rfl) (of_decide_eq_true (by kernel_rfl)) k0 bel lt0) (trodAll_cons_mk (Below.trod laidOut (by kernel_rfl) (of_decide_eq_true (by kernel_rfl)) k1 bel lt1) trodAll_mk0)), rfl, bel.frame _, fun h => by cases h⟩
theorem over : Rows.worldFullRow.holds Try.pinned (OpenSpec.ofChange Rows.worldFullSpec) :=
  OpenClaim.holds_of_wide 8 Try.f8 rfl rfl rfl rfl rfl rfl rfl ⟨rfl, rfl, rfl, rfl, rfl⟩ rfl rfl rfl rfl rfl (by kernel_rfl) Try.func8 (by kernel_rfl)
    (of_decide_eq_true (by kernel_rfl)) (by unfold Func.isWrapper; first | (rw [if_pos (by decide +kernel)]; kernel_rfl) | (rw [if_neg (by decide +kernel)]; exact ⟨rfl, rfl⟩))
    (fun os started H enc _ => lifted os started H enc)
theorem proved : Rows.WorldFullSaid := over
#print axioms proved
end Go.Proofs.Ytmhieddhmebfhaa.worldFull
