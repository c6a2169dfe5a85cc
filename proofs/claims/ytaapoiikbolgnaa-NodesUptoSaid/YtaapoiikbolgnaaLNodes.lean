/- The statement Nodes holds: the row, out of the contract of its function. -/
import Derived.Test.YtaapoiikbolgnaaRows
import Derived.Test.YtaapoiikbolgnaaMLNodes4
import Derived.WalkKit
import Derived.ProofKit
import Derived.OpenShut
import Derived.ShutString
import Derived.ChangeOld
import Derived.Below
import Derived.SizedLaws
import Derived.Carry
import Derived.JoinedCond
import Derived.Deep.CondSized
import Derived.ChangeArms
namespace Go.Proofs.Ytaapoiikbolgnaa.nodes
open Go.ChangeShapes Go.WideShapes Go.ChangeAt Go.RowKit
open Go.ChangeMaps (open_string shut_string)
theorem own : ownKnob Try.prog.godebug = none := by kernel_rfl
theorem laidOut : laidOutB Try.prog = true := by kernel_rfl
theorem openArg {H : Type} {enc : TypeId × Value → H} {W : World} {T : TypeId} {i : TI} {v : Value} {d : DataW H} {p : List MemPlace} (hr : readable tau 8 T = true) (hi : tau.ti T = some i)
    (h : DataW.Trod enc Try.prog W 0 (fun _ => true) true T v d p) (hw : ∀ n ∈ d.weights Try.prog T, n ≤ reachBytes) : ∃ xs, likeL i.zero xs ∧ L0 (vd0 E0 [] W) xs v.cells.toList := by
  obtain ⟨fuel, hf⟩ := h
  exact trod_cells tau_ok 8 fuel T i _ _ hr hi hf hw
theorem bulk_pos {H : Type} (d : DataW H) : 1 ≤ Rows.uptoBulk d := by
  cases d <;> first | (simp [Rows.uptoBulk]; done) | (rename_i l; cases l <;> simp [Rows.uptoBulk])
theorem bulkAll_len {H : Type} : ∀ l : List (DataW H), l.length ≤ Rows.uptoBulkAll l
  | [] => Nat.zero_le _
  | d :: r => by
    have h1 := bulk_pos d
    have h2 := bulkAll_len r
    simp only [Rows.uptoBulkAll, List.length_cons]
    omega
theorem slice_bulk {H : Type} {enc : TypeId × Value → H} {P : Program} {w : World} {base : Nat} {spare : Nat → Bool} {held : Bool} {t e : TypeId} {b : Option Addr} {n c : Nat} {d : DataW H} {q : List MemPlace}
    (ht : P.underlying t = some (.slice e)) (h : DataW.Trod enc P w base spare held t (.slice b n c) d q) : n ≤ Rows.uptoBulk d := by
  obtain ⟨f, h⟩ := h
  rcases DataW.trod_slice ht h with ⟨h1, _⟩ | ⟨a, len, cap, elems, rest, k, _, h1, h2, _, _, _, h5, _⟩
  · have h1 : [Value.slice b n c] = [.slice none 0 0] := h1
    injection h1 with h1 _
    injection h1 with _ h1 _
    omega
  · have h1 : [Value.slice b n c] = [.slice (some a) len cap] := h1
    injection h1 with h1 _
    injection h1 with _ h1 _
    have h3 := congrArg Prod.fst h2
    have h4 := bulkAll_len (elems.map (·.1))
    simp only [List.length_map] at h4
    simp only at h3
    rw [h3, h1]
    simp only [Rows.uptoBulk]
    omega
set_option maxRecDepth 100000 in
theorem lifted (os : Os) (started : os.Started) (H : Type) (enc : TypeId × Value → H) (F : Stop.Interp) :
    ReturnsInHanded {} Try.checked os 3 .any ((Rows.OpenSpec.upto Rows.nodesSpec).pre6 enc Try.prog Try.f3 Rows.nodesUptoRow.domain false) (((Rows.OpenSpec.upto Rows.nodesSpec).at F).post enc Try.prog Try.f3 false true false false) := by
  refine returnsInHanded_of_cond_sized (C := Try.checked) (s := Rows.OpenSpec.upto Rows.nodesSpec) (k := Rows.uptoSmall) rfl own started (by kernel_rfl) Try.func3
    (OpenSpec.witness (enc := enc) (C := Try.checked) (s := Rows.OpenSpec.upto Rows.nodesSpec) (k := Rows.uptoSmall) rfl false ⟨#[], #[.int .i64 0, .slice none 0 0, .agg #[.bool false, .int .i64 0, .slice none 0 0, .slice none 0 0, .slice none 0 0, .slice none 0 0]], []⟩ 8 (by kernel_rfl) (by kernel_rfl) (by kernel_rfl) (x := ([.lit (.int .i64 0), .nil, .agg [.lit (.bool false), .agg [.lit (.int .i64 0), .nil, .nil], .nil, .nil]], [], [])) (by kernel_rfl) rfl (by kernel_rfl)) ?_
  intro W base args ds gs before hval0 hW hcnd hk0 hsz0 _
  have hsz : (DataW.weightsEach Try.prog (Try.f3.params.toList ++ (Rows.OpenSpec.upto Rows.nodesSpec).bare.plain.varTypes Try.prog) (ds ++ gs)).all (· ≤ reachBytes) = true := hsz0
  have hval : ∀ (j : Nat) t v, Try.f3.params[j]? = some t → args[j]? = some v → Value.okWide Try.prog W .any base t v := hval0
  have hW' := hW
  obtain ⟨p, q, hA0, hV, rfl, hfz, hnd⟩ := hW
  have hA : DataW.TrodAll enc Try.prog W 0 (fun _ => true) true Try.f3.params.toList args.toList ds p := hA0
  rw [Try.params3] at hA hval hsz
  obtain ⟨v0, vs0, d0, ds0, p0, q0, hargs, rfl, rfl, h0, r0⟩ := trodAll_cons hA
  obtain ⟨v1, vs1, d1, ds1, p1, q1, rfl, rfl, rfl, h1, r1⟩ := trodAll_cons r0
  obtain ⟨v2, vs2, d2, ds2, p2, q2, rfl, rfl, rfl, h2, r2⟩ := trodAll_cons r1
  obtain ⟨rfl, rfl, rfl⟩ := trodAll_nil r2
  obtain rfl : args = #[v0, v1, v2] := by cases args; simp_all
  obtain ⟨rfl, rfl⟩ := trodVars_none hV
  have k0 := h0
  have lt0 : ∀ x ∈ p0, x.block < W.heap.size := by obtain ⟨m, hm⟩ := k0; exact DataW.trod_lt m _ _ _ hm
  obtain ⟨a0, rfl, rfl, rfl, w0⟩ := open_int Try.underlying3 (hval 0 3 v0 rfl rfl) h0
  have k1 := h1
  have lt1 : ∀ x ∈ p1, x.block < W.heap.size := by obtain ⟨m, hm⟩ := k1; exact DataW.trod_lt m _ _ _ hm
  have w1 : ∀ n ∈ d1.weights Try.prog 22, n ≤ reachBytes := fun n hn => by
    have := List.all_eq_true.1 hsz n (DataW.weights_mem_each (j := 1) (t := 22) (d := d1) rfl rfl n hn)
    simpa using this
  obtain ⟨b1, len1, cap1, rfl⟩ := okWide_slice Try.underlying22 (hval 1 22 v1 rfl rfl)
  obtain ⟨xs1, hl1, hx1⟩ := openArg (i := _) (by kernel_rfl) rfl h1 w1
  obtain ⟨a1, rfl⟩ := shapeInts rfl hl1
  have lb1 := slice_bulk Try.underlying22 h1
  have hv1 := one_of hx1
  have k2 := h2
  have lt2 : ∀ x ∈ p2, x.block < W.heap.size := by obtain ⟨m, hm⟩ := k2; exact DataW.trod_lt m _ _ _ hm
  have w2 : ∀ n ∈ d2.weights Try.prog 29, n ≤ reachBytes := fun n hn => by
    have := List.all_eq_true.1 hsz n (DataW.weights_mem_each (j := 2) (t := 29) (d := d2) rfl rfl n hn)
    simpa using this
  obtain ⟨xs2, hl2, hx2⟩ := openArg (i := _) (by kernel_rfl) rfl h2 w2
  have hv2 := agg_of (by decide) hl2 hx2
  obtain ⟨a2, hm2⟩ := shapeNode rfl hl2
  rw [hm2] at hv2
  have hb : Rows.uptoBulkAll _ ≤ 1048576 := of_decide_eq_true hk0
  simp only [Rows.uptoBulkAll, Rows.uptoBulk, List.append_nil, List.cons_append, List.nil_append] at hb
  have hc : Calls Try.prog 3 #[.int .i64 a0, .slice b1 len1 cap1, v2] W fun e w' => ∃ z, e = .returned z ∧ Below W.heap.size W w' ∧ Res tau W.heap.size w' (.bool true) [] z := k_Nodes.valid [.int .i64 a0, dInts.e a1, dNode.e a2] [.int .i64 a0, .slice b1 len1 cap1, v2] W (.cons (show vd3 E0 [] W (.int .i64 a0) (.int .i64 a0) from rfl) (.cons hv1 (.cons hv2 .nil))) (by obtain ⟨_, A, c, e, _⟩ := hv1; injection e with _ e2 _; have e3 : a1.length = len1 := e2.symm; show a1.length ≤ 1048576; omega)
  refine hc.mono fun e W' => ?_
  rintro ⟨z, rfl, bel, E, _, _, _, _, _, hz⟩
  obtain rfl : z = .bool true := hz
  clear hA0 hval0 hsz0 hsz
  exact ⟨_, rfl, _, _, _, [], _, [], hW', trodAll_mk1 (shut_bool Try.underlying4 _), (trodAll_cons_mk (Below.trod laidOut (by kernel_rfl) (of_decide_eq_true (by kernel_rfl)) k0 bel lt0) (trodAll_cons_mk (Below.trod laidOut (by kernel_rfl) (of_decide_eq_true (by kernel_rfl)) k1 bel lt1) (trodAll_cons_mk (Below.trod laidOut (by kernel_rfl) (of_decide_eq_true (by kernel_rfl)) k2 bel lt2) trodAll_mk0))), rfl, bel.frame _, fun h => by cases h⟩
theorem proved : Rows.NodesUptoSaid :=
  OpenClaim.holds_of_cond 3 Try.f3 rfl rfl rfl rfl rfl rfl rfl ⟨rfl, rfl, rfl, rfl, rfl⟩ rfl rfl rfl rfl rfl (by kernel_rfl) Try.func3 (by kernel_rfl)
    (of_decide_eq_true (by kernel_rfl)) (by unfold Func.isWrapper; first | (rw [if_pos (by decide +kernel)]; kernel_rfl) | (rw [if_neg (by decide +kernel)]; exact ⟨rfl, rfl⟩))
    (fun os started H enc _ F => lifted os started H enc F)
#print axioms proved
end Go.Proofs.Ytaapoiikbolgnaa.nodes
