/- A part of the proof of QueueForms: VTau, F1, F2, F1m, F2m, G12, VIn, VAr, G12b, VSt, VLa, ClInts, ClMsgs, VLb, VLc, DelMsgs, F14a, F14b, F14c, G14a. -/
import Derived.Test.YtmgccphapkmmeaaMLQueueForms1
import Derived.Test.YtmgccphapkmmeaaProg
import Derived.Tactics
import Derived.Tactics2
import Derived.StillTactics
import Derived.Laws.Pointers
import Derived.Laws.Small
import Derived.Laws.StructEq
import Derived.Laws.Tables
import Derived.Laws.Cover2
import Derived.KernelRfl
import Derived.Laws.Bits128
import Derived.Laws.Bits64
import Derived.Laws.Strings
import Derived.Shelf.RegionOpenPlain
import Derived.Lib.Walk
import Derived.Lib.SliceRun
import Derived.Laws.AppendOwn
import Derived.Conc.AppendEvents2
import Derived.Sort.Row
import Derived.Laws.IdiomCopy
import Derived.WalkKit
import Derived.Deep.LoopGhost
import Derived.Deep.RegionLaw
/- The type table of the program, for the executor: written by wip/gen.py. -/
namespace Go.Proofs.Ytmgccphapkmmeaa
open Go.RowKit

def tauI : Tr TI := .node 25 (.node 12 (.node 4 (.node 3 (.leaf 2 (⟨.int .i64, 1, 8, [.int .i64 0]⟩)) (.leaf 3 (⟨.int .i64, 1, 8, [.int .i64 0]⟩))) (.node 5 (.leaf 4 (⟨.bool, 1, 1, [.bool false]⟩)) (.node 9 (.leaf 5 (⟨.int .u8, 1, 1, [.int .u8 0]⟩)) (.leaf 9 (⟨.str, 1, 16, [.str ByteArray.empty]⟩))))) (.node 22 (.node 21 (.leaf 12 (⟨.int .u64, 1, 8, [.int .u64 0]⟩)) (.leaf 21 (⟨.int .i32, 1, 4, [.int .i32 0]⟩))) (.node 23 (.leaf 22 (⟨.slice 3, 1, 24, [.nilS (mkEmpty 0)]⟩)) (.node 24 (.leaf 23 (⟨.struct [(0, 3), (1, 3)], 2, 16, [.int .i64 0, .int .i64 0]⟩)) (.leaf 24 (⟨.struct [(0, 3), (1, 3)], 2, 16, [.int .i64 0, .int .i64 0]⟩)))))) (.node 35 (.node 27 (.node 26 (.leaf 25 (⟨.struct [(0, 3), (1, 24), (3, 3), (4, 4)], 5, 40, [.int .i64 0, .int .i64 0, .int .i64 0, .int .i64 0, .bool false]⟩)) (.leaf 26 (⟨.struct [(0, 3), (1, 24), (3, 3), (4, 4)], 5, 40, [.int .i64 0, .int .i64 0, .int .i64 0, .int .i64 0, .bool false]⟩))) (.node 28 (.leaf 27 (⟨.struct [(0, 3), (1, 3), (2, 3), (3, 22), (4, 3), (5, 26), (10, 4)], 11, 104, [.int .i64 0, .int .i64 0, .int .i64 0, .nilS (mkEmpty 0), .int .i64 0, .int .i64 0, .int .i64 0, .int .i64 0, .int .i64 0, .bool false, .bool false]⟩)) (.node 33 (.leaf 28 (⟨.struct [(0, 3), (1, 3), (2, 3), (3, 22), (4, 3), (5, 26), (10, 4)], 11, 104, [.int .i64 0, .int .i64 0, .int .i64 0, .nilS (mkEmpty 0), .int .i64 0, .int .i64 0, .int .i64 0, .int .i64 0, .int .i64 0, .bool false, .bool false]⟩)) (.leaf 33 (⟨.int .i64, 1, 8, [.int .i64 0]⟩))))) (.node 50 (.node 36 (.leaf 35 (⟨.slice 28, 1, 24, [.nilS (mkEmpty 7)]⟩)) (.node 49 (.leaf 36 (⟨.int .u64, 1, 8, [.int .u64 0]⟩)) (.leaf 49 (⟨.slice 9, 1, 24, [.nilS (mkEmpty 2)]⟩)))) (.node 66 (.leaf 50 (⟨.slice 5, 1, 24, [.nilS (mkEmpty 1)]⟩)) (.node 93 (.leaf 66 (⟨.arr 12 4, 12, 12, flatZeros [.bool false] 12⟩)) (.leaf 93 (⟨.int .u32, 1, 4, [.int .u32 0]⟩))))))
def tauK : Tr Nat := .node 9 (.node 5 (.leaf 3 (0)) (.leaf 5 (1))) (.node 26 (.leaf 9 (2)) (.node 28 (.leaf 26 (4)) (.leaf 28 (7))))
def tauE : Tr Nat := .node 2 (.node 1 (.leaf 0 (3)) (.leaf 1 (5))) (.node 4 (.leaf 2 (9)) (.node 7 (.leaf 4 (26)) (.leaf 7 (28))))
def tauS : Tr (List Nat) := .node 26 (.leaf 24 ([0, 0])) (.leaf 26 ([0, 0, 0, 0, 1]))
def tau : Tys := mkTys tauI tauK tauE tauS
theorem eqv24 (n : Nat) (x0 y0 : Int) (x1 y1 : Int) (w : World) : (Op.equalIn (n + 2) 24 (.agg #[.int .i64 x0, .int .i64 x1]) (.agg #[.int .i64 y0, .int .i64 y1])).run Try.prog w = .ok (decide (x0 = y0) && (decide (x1 = y1))) w := by
  have u3 := Try.underlying3; have a3 := Try.isAgg3; have z3 := Try.sizeOf3
  have hS : Try.prog.underlying 24 = some (.struct (Try.prog.fieldsOf 24)) := by kernel_rfl
  have hp : Try.prog.stoodInHeld 24 = false := by kernel_rfl
  rw [run_equalIn_agg w (n + 1) 24 _ _ hS hp]
  simp only [Program.fieldsOf, Try.underlying24]
  go_simp
  by_cases h0 : x0 = y0 <;> by_cases h1 : x1 = y1 <;> simp [h0, h1]
theorem eqk24 : EqOk Try.prog 24 [0, 0] := by
  intro E R w a b us vs e g0 ha0 hb0
  obtain ⟨x0, y0, a0, b0, e0, rfl, rfl, g1, rfl⟩ := eqCells_int g0
  obtain ⟨_, us0, rfl, rfl, ha1⟩ := ha0.inv_cons
  obtain ⟨_, vs0, rfl, rfl, hb1⟩ := hb0.inv_cons
  obtain ⟨x1, y1, a1, b1, e1, rfl, rfl, g2, rfl⟩ := eqCells_int g1
  obtain ⟨_, us1, rfl, rfl, ha2⟩ := ha1.inv_cons
  obtain ⟨_, vs1, rfl, rfl, hb2⟩ := hb1.inv_cons
  obtain ⟨rfl, rfl, rfl⟩ := eqCells_nil g2
  obtain rfl := ha2.inv_nil
  obtain rfl := hb2.inv_nil
  refine ⟨fun op x y => run_eqGuard_agg w op 24 x y _ _ (by kernel_rfl), ?_⟩
  have := eqv24 9998 x0 y0 x1 y1 w
  simpa [Op.equal, Op.maxDepth] using this
theorem eqv26 (n : Nat) (x0 y0 : Int) (x1 y1 : Int) (x2 y2 : Int) (x3 y3 : Int) (x4 y4 : Bool) (w : World) : (Op.equalIn (n + 3) 26 (.agg #[.int .i64 x0, .int .i64 x1, .int .i64 x2, .int .i64 x3, .bool x4]) (.agg #[.int .i64 y0, .int .i64 y1, .int .i64 y2, .int .i64 y3, .bool y4])).run Try.prog w = .ok (decide (x0 = y0) && (decide (x1 = y1) && (decide (x2 = y2) && (decide (x3 = y3) && ((x4 == y4)))))) w := by
  have u3 := Try.underlying3; have a3 := Try.isAgg3; have z3 := Try.sizeOf3
  have u4 := Try.underlying4; have a4 := Try.isAgg4; have z4 := Try.sizeOf4
  have u24 := Try.underlying24; have a24 := Try.isAgg24; have z24 := Try.sizeOf24
  have q24 : ∀ (x0 y0 : Int) (x1 y1 : Int) (w : World), (Op.equalIn (n + 2) 24 (.agg #[.int .i64 x0, .int .i64 x1]) (.agg #[.int .i64 y0, .int .i64 y1])).run Try.prog w = .ok (decide (x0 = y0) && (decide (x1 = y1))) w := eqv24 n
  have hS : Try.prog.underlying 26 = some (.struct (Try.prog.fieldsOf 26)) := by kernel_rfl
  have hp : Try.prog.stoodInHeld 26 = false := by kernel_rfl
  rw [run_equalIn_agg w (n + 2) 26 _ _ hS hp]
  simp only [Program.fieldsOf, Try.underlying26]
  go_simp
  by_cases h0 : x0 = y0 <;> by_cases h1 : x1 = y1 <;> by_cases h2 : x2 = y2 <;> by_cases h3 : x3 = y3 <;> by_cases h4 : x4 = y4 <;> simp [h0, h1, h2, h3, h4]
theorem eqk26 : EqOk Try.prog 26 [0, 0, 0, 0, 1] := by
  intro E R w a b us vs e g0 ha0 hb0
  obtain ⟨x0, y0, a0, b0, e0, rfl, rfl, g1, rfl⟩ := eqCells_int g0
  obtain ⟨_, us0, rfl, rfl, ha1⟩ := ha0.inv_cons
  obtain ⟨_, vs0, rfl, rfl, hb1⟩ := hb0.inv_cons
  obtain ⟨x1, y1, a1, b1, e1, rfl, rfl, g2, rfl⟩ := eqCells_int g1
  obtain ⟨_, us1, rfl, rfl, ha2⟩ := ha1.inv_cons
  obtain ⟨_, vs1, rfl, rfl, hb2⟩ := hb1.inv_cons
  obtain ⟨x2, y2, a2, b2, e2, rfl, rfl, g3, rfl⟩ := eqCells_int g2
  obtain ⟨_, us2, rfl, rfl, ha3⟩ := ha2.inv_cons
  obtain ⟨_, vs2, rfl, rfl, hb3⟩ := hb2.inv_cons
  obtain ⟨x3, y3, a3, b3, e3, rfl, rfl, g4, rfl⟩ := eqCells_int g3
  obtain ⟨_, us3, rfl, rfl, ha4⟩ := ha3.inv_cons
  obtain ⟨_, vs3, rfl, rfl, hb4⟩ := hb3.inv_cons
  obtain ⟨sx4, sy4, x4, y4, a4, b4, e4, rfl, rfl, hx4, hy4, g5, rfl⟩ := eqCells_bool g4
  obtain ⟨_, us4, rfl, hu4, ha5⟩ := ha4.inv_cons
  obtain ⟨_, vs4, rfl, hv4, hb5⟩ := hb4.inv_cons
  obtain rfl := asBool_vd hx4 (vd_of_vd1 hu4)
  obtain rfl := asBool_vd hy4 (vd_of_vd1 hv4)
  obtain ⟨rfl, rfl, rfl⟩ := eqCells_nil g5
  obtain rfl := ha5.inv_nil
  obtain rfl := hb5.inv_nil
  refine ⟨fun op x y => run_eqGuard_agg w op 26 x y _ _ (by kernel_rfl), ?_⟩
  have := eqv26 9997 x0 y0 x1 y1 x2 y2 x3 y3 x4 y4 w
  simpa [Op.equal, Op.maxDepth] using this
theorem tauS_ok : ∀ T sh, tauS.get T = some sh → EqOk Try.prog T sh := by
  intro T sh h
  have hk : tauS.all (fun T sh => (Nat.beq T 24 && sh == [0, 0]) || (Nat.beq T 26 && sh == [0, 0, 0, 0, 1])) = true := by decide
  have := Tr.get_all hk T sh h
  simp only [Bool.or_eq_true, Bool.and_eq_true, beq_iff_eq] at this
  rcases this with h | h
  · obtain ⟨g, rfl⟩ := h; obtain rfl := Nat.eq_of_beq_eq_true g; exact eqk24
  · obtain ⟨g, rfl⟩ := h; obtain rfl := Nat.eq_of_beq_eq_true g; exact eqk26
theorem tau_ok : TysOk Try.prog tau := tys_ok (by kernel_rfl) (by kernel_rfl) tauS_ok
end Go.Proofs.Ytmgccphapkmmeaa

/- Contracts: ring, version, item, msg. -/
namespace Go.Proofs.Ytmgccphapkmmeaa
open Go.RowKit

theorem hmix : Try.prog.follows .mixedOrders = true := by kernel_rfl
def placeB (x : Int) : Bool := decide (0 ≤ x) && decide (x < 256)
def okB (b : Bool) : Out := .ok (.bool b) []
theorem all_take_succ {α : Type} {p : α → Prop} {l : List α} {i : Nat} {d : α} (hi : i < l.length) (h : ∀ x ∈ l.take i, p x) (hx : p (l.getD i d)) : ∀ x ∈ l.take (i + 1), p x := by
  intro x hm
  rw [List.take_succ_eq_append_getElem hi] at hm
  rcases List.mem_append.1 hm with hm | hm
  · exact h x hm
  · simp at hm
    subst hm
    simpa [List.getD_eq_getElem?_getD, hi] using hx
theorem getD_mem {α : Type} {l : List α} {i : Nat} {d : α} (hi : i < l.length) : l.getD i d ∈ l := by
  simp [List.getD_eq_getElem?_getD, hi]
theorem k_Place : Known Try.prog tau 37 (S1 dInt fun x => okB (placeB x)) := by
  refine known1 hmix tau_ok ctx_nil (fn := Try.f37) (by kernel_rfl) [] (by kernel_rfl) _ _ fun x hfit => ⟨rfl, [], ?_⟩
  (repeat' (first | ((with_reducible refine body_intro ?_); (first | refine seq_intro (fun Kv hN hX hR => ?_) | (conv => whnf))) | with_reducible refine body_stop (fun Kv hN hX hR => ?_) | with_reducible refine Stop.mk ?_ | with_reducible refine DrawJ.each ?_ | with_reducible exact SubJ.self _ | with_reducible refine SubJ.of ?_ | with_reducible refine seq_intro (fun Kv hN hX hR => ?_) | (with_reducible refine hN _ ?_; clear hN hX hR; clear Kv) | (with_reducible refine hX _ _ ?_; clear hN hX hR; clear Kv) | (with_reducible refine hR _ ?_; clear hN hX hR; clear Kv) | ((conv => whnf); first | with_reducible rfl | with_reducible exact True.intro | with_reducible intro _ | with_reducible refine And.intro ?_ ?_ | (with_reducible refine hN _ ?_; clear hN hX hR; clear Kv) | (with_reducible refine hX _ _ ?_; clear hN hX hR; clear Kv) | (with_reducible refine hR _ ?_; clear hN hX hR; clear Kv) | with_reducible refine body_stop (fun Kv hN hX hR => ?_) | with_reducible refine Stop.mk ?_ | with_reducible refine DrawJ.each ?_ | with_reducible exact SubJ.self _ | with_reducible refine SubJ.of ?_))); all_goals (conv => whnf); all_goals (repeat (clear hN hX hR; clear Kv))
  all_goals simp_all [placeB]
  all_goals omega
theorem k_Places : Known Try.prog tau 39 (S1 dInts fun l => okB (l.all placeB)) := by
  refine known1 hmix tau_ok (ctx_cons k_Place ctx_nil) (fn := Try.f39) (by kernel_rfl) [] (by kernel_rfl) _ _ fun xs hfit => ⟨rfl,
    [(2, invN [4, 7, 8, 9, 10, 11, 12, 13, 14] (fun i => i ≤ xs.length ∧ ∀ x ∈ xs.take i, placeB x = true) (fun i => withS [(7, .int .i64 i)]) (fun i => xs.length - i))], ?_⟩
  have hlen : xs.length * 8 ≤ 140737488355328 := hfit.1
  clear hfit
  (repeat' (first | ((with_reducible refine body_intro ?_); (first | refine seq_intro (fun Kv hN hX hR => ?_) | (conv => whnf))) | with_reducible refine body_stop (fun Kv hN hX hR => ?_) | with_reducible refine Stop.mk ?_ | with_reducible refine DrawJ.each ?_ | with_reducible exact SubJ.self _ | with_reducible refine SubJ.of ?_ | with_reducible refine seq_intro (fun Kv hN hX hR => ?_) | (with_reducible refine hN _ ?_; clear hN hX hR; clear Kv) | (with_reducible refine hX _ _ ?_; clear hN hX hR; clear Kv) | (with_reducible refine hR _ ?_; clear hN hX hR; clear Kv) | ((conv => whnf); first | with_reducible rfl | with_reducible exact True.intro | with_reducible intro _ | with_reducible refine And.intro ?_ ?_ | (with_reducible refine hN _ ?_; clear hN hX hR; clear Kv) | (with_reducible refine hX _ _ ?_; clear hN hX hR; clear Kv) | (with_reducible refine hR _ ?_; clear hN hX hR; clear Kv) | with_reducible refine body_stop (fun Kv hN hX hR => ?_) | with_reducible refine Stop.mk ?_ | with_reducible refine DrawJ.each ?_ | with_reducible exact SubJ.self _ | with_reducible refine SubJ.of ?_))); all_goals (conv => whnf); all_goals (repeat (clear hN hX hR; clear Kv))
  · refine ⟨0, ⟨by omega, by simp⟩, ?_⟩
    (repeat' (first | ((with_reducible refine body_intro ?_); (first | refine seq_intro (fun Kv hN hX hR => ?_) | (conv => whnf))) | with_reducible refine body_stop (fun Kv hN hX hR => ?_) | with_reducible refine Stop.mk ?_ | with_reducible refine DrawJ.each ?_ | with_reducible exact SubJ.self _ | with_reducible refine SubJ.of ?_ | with_reducible refine seq_intro (fun Kv hN hX hR => ?_) | (with_reducible refine hN _ ?_; clear hN hX hR; clear Kv) | (with_reducible refine hX _ _ ?_; clear hN hX hR; clear Kv) | (with_reducible refine hR _ ?_; clear hN hX hR; clear Kv) | ((conv => whnf); first | with_reducible rfl | with_reducible exact True.intro | with_reducible intro _ | with_reducible refine And.intro ?_ ?_ | (with_reducible refine hN _ ?_; clear hN hX hR; clear Kv) | (with_reducible refine hX _ _ ?_; clear hN hX hR; clear Kv) | (with_reducible refine hR _ ?_; clear hN hX hR; clear Kv) | with_reducible refine body_stop (fun Kv hN hX hR => ?_) | with_reducible refine Stop.mk ?_ | with_reducible refine DrawJ.each ?_ | with_reducible exact SubJ.self _ | with_reducible refine SubJ.of ?_))); all_goals (conv => whnf); all_goals (repeat (clear hN hX hR; clear Kv))
    all_goals rfl
  · rename_i i hi h
    simp at h
    exact Ob.mk ⟨by omega, by simpa using h⟩
  · rename_i i hi h1 h2 h3
    simp at h2
    simp at h3
    refine Eq.symm (List.all_eq_false.2 ⟨_, getD_mem (d := 0) h2, by simpa using h3⟩)
  · rename_i i hi h1 h2 h3
    simp at h2
    simp at h3
    refine ⟨i + 1, ⟨h2, all_take_succ h2 hi.2 h3⟩, by show xs.length - (i + 1) < xs.length - i; omega, ?_⟩
    (repeat' (first | ((with_reducible refine body_intro ?_); (first | refine seq_intro (fun Kv hN hX hR => ?_) | (conv => whnf))) | with_reducible refine body_stop (fun Kv hN hX hR => ?_) | with_reducible refine Stop.mk ?_ | with_reducible refine DrawJ.each ?_ | with_reducible exact SubJ.self _ | with_reducible refine SubJ.of ?_ | with_reducible refine seq_intro (fun Kv hN hX hR => ?_) | (with_reducible refine hN _ ?_; clear hN hX hR; clear Kv) | (with_reducible refine hX _ _ ?_; clear hN hX hR; clear Kv) | (with_reducible refine hR _ ?_; clear hN hX hR; clear Kv) | ((conv => whnf); first | with_reducible rfl | with_reducible exact True.intro | with_reducible intro _ | with_reducible refine And.intro ?_ ?_ | (with_reducible refine hN _ ?_; clear hN hX hR; clear Kv) | (with_reducible refine hX _ _ ?_; clear hN hX hR; clear Kv) | (with_reducible refine hR _ ?_; clear hN hX hR; clear Kv) | with_reducible refine body_stop (fun Kv hN hX hR => ?_) | with_reducible refine Stop.mk ?_ | with_reducible refine DrawJ.each ?_ | with_reducible exact SubJ.self _ | with_reducible refine SubJ.of ?_))); all_goals (conv => whnf); all_goals (repeat (clear hN hX hR; clear Kv))
    exact wrapI (by omega) (by omega)
  · rename_i i hi h1
    simp at h1
    obtain ⟨h2, h3⟩ := hi
    rw [List.take_of_length_le h1] at h3
    exact Eq.symm (List.all_eq_true.2 h3)
def verB (v : GVer) : Bool := decide (1 ≤ v.count) && (decide (v.count ≤ 65535) && placeB v.writer)
def itemB (i : GItem) : Bool := placeB i.key && (placeB i.value && (verB i.ver && (!i.gone || decide (i.value = 0))))
theorem k_Byte : Known Try.prog tau 57 (S1 dInt fun x => okB (placeB x)) := by
  refine known1 hmix tau_ok ctx_nil (fn := Try.f57) (by kernel_rfl) [] (by kernel_rfl) _ _ fun x hfit => ⟨rfl, [], ?_⟩
  (repeat' (first | ((with_reducible refine body_intro ?_); (first | refine seq_intro (fun Kv hN hX hR => ?_) | (conv => whnf))) | with_reducible refine body_stop (fun Kv hN hX hR => ?_) | with_reducible refine Stop.mk ?_ | with_reducible refine DrawJ.each ?_ | with_reducible exact SubJ.self _ | with_reducible refine SubJ.of ?_ | with_reducible refine seq_intro (fun Kv hN hX hR => ?_) | (with_reducible refine hN _ ?_; clear hN hX hR; clear Kv) | (with_reducible refine hX _ _ ?_; clear hN hX hR; clear Kv) | (with_reducible refine hR _ ?_; clear hN hX hR; clear Kv) | ((conv => whnf); first | with_reducible rfl | with_reducible exact True.intro | with_reducible intro _ | with_reducible refine And.intro ?_ ?_ | (with_reducible refine hN _ ?_; clear hN hX hR; clear Kv) | (with_reducible refine hX _ _ ?_; clear hN hX hR; clear Kv) | (with_reducible refine hR _ ?_; clear hN hX hR; clear Kv) | with_reducible refine body_stop (fun Kv hN hX hR => ?_) | with_reducible refine Stop.mk ?_ | with_reducible refine DrawJ.each ?_ | with_reducible exact SubJ.self _ | with_reducible refine SubJ.of ?_))); all_goals (conv => whnf); all_goals (repeat (clear hN hX hR; clear Kv))
  all_goals simp_all [placeB]
  all_goals omega
theorem k_VerMay : Known Try.prog tau 58 (S1 dVer fun x => okB (verB x)) := by
  refine known1 hmix tau_ok (ctx_cons k_Place ctx_nil) (fn := Try.f58) (by kernel_rfl) [] (by kernel_rfl) _ _ fun x hfit => ⟨rfl, [], ?_⟩
  (repeat' (first | ((with_reducible refine body_intro ?_); (first | refine seq_intro (fun Kv hN hX hR => ?_) | (conv => whnf))) | with_reducible refine body_stop (fun Kv hN hX hR => ?_) | with_reducible refine Stop.mk ?_ | with_reducible refine DrawJ.each ?_ | with_reducible exact SubJ.self _ | with_reducible refine SubJ.of ?_ | with_reducible refine seq_intro (fun Kv hN hX hR => ?_) | (with_reducible refine hN _ ?_; clear hN hX hR; clear Kv) | (with_reducible refine hX _ _ ?_; clear hN hX hR; clear Kv) | (with_reducible refine hR _ ?_; clear hN hX hR; clear Kv) | ((conv => whnf); first | with_reducible rfl | with_reducible exact True.intro | with_reducible intro _ | with_reducible refine And.intro ?_ ?_ | (with_reducible refine hN _ ?_; clear hN hX hR; clear Kv) | (with_reducible refine hX _ _ ?_; clear hN hX hR; clear Kv) | (with_reducible refine hR _ ?_; clear hN hX hR; clear Kv) | with_reducible refine body_stop (fun Kv hN hX hR => ?_) | with_reducible refine Stop.mk ?_ | with_reducible refine DrawJ.each ?_ | with_reducible exact SubJ.self _ | with_reducible refine SubJ.of ?_))); all_goals (conv => whnf); all_goals (repeat (clear hN hX hR; clear Kv))
  all_goals simp_all [verB]
  all_goals omega
theorem k_ItemMay : Known Try.prog tau 40 (S1 dItem fun x => okB (itemB x)) := by
  refine known1 hmix tau_ok (ctx_cons k_Byte (ctx_cons k_VerMay ctx_nil)) (fn := Try.f40) (by kernel_rfl) [] (by kernel_rfl) _ _ fun x hfit => ⟨rfl, [], ?_⟩
  (repeat' (first | ((with_reducible refine body_intro ?_); (first | refine seq_intro (fun Kv hN hX hR => ?_) | (conv => whnf))) | with_reducible refine body_stop (fun Kv hN hX hR => ?_) | with_reducible refine Stop.mk ?_ | with_reducible refine DrawJ.each ?_ | with_reducible exact SubJ.self _ | with_reducible refine SubJ.of ?_ | with_reducible refine seq_intro (fun Kv hN hX hR => ?_) | (with_reducible refine hN _ ?_; clear hN hX hR; clear Kv) | (with_reducible refine hX _ _ ?_; clear hN hX hR; clear Kv) | (with_reducible refine hR _ ?_; clear hN hX hR; clear Kv) | ((conv => whnf); first | with_reducible rfl | with_reducible exact True.intro | with_reducible intro _ | with_reducible refine And.intro ?_ ?_ | (with_reducible refine hN _ ?_; clear hN hX hR; clear Kv) | (with_reducible refine hX _ _ ?_; clear hN hX hR; clear Kv) | (with_reducible refine hR _ ?_; clear hN hX hR; clear Kv) | with_reducible refine body_stop (fun Kv hN hX hR => ?_) | with_reducible refine Stop.mk ?_ | with_reducible refine DrawJ.each ?_ | with_reducible exact SubJ.self _ | with_reducible refine SubJ.of ?_))); all_goals (conv => whnf); all_goals (repeat (clear hN hX hR; clear Kv))
  all_goals simp_all [itemB]
theorem k_refPlace : Known Try.prog tau 41 (S1 dInt fun x => okB (placeB x)) := by
  refine known1 hmix tau_ok ctx_nil (fn := Try.f41) (by kernel_rfl) [] (by kernel_rfl) _ _ fun x hfit => ⟨rfl, [], ?_⟩
  (repeat' (first | ((with_reducible refine body_intro ?_); (first | refine seq_intro (fun Kv hN hX hR => ?_) | (conv => whnf))) | with_reducible refine body_stop (fun Kv hN hX hR => ?_) | with_reducible refine Stop.mk ?_ | with_reducible refine DrawJ.each ?_ | with_reducible exact SubJ.self _ | with_reducible refine SubJ.of ?_ | with_reducible refine seq_intro (fun Kv hN hX hR => ?_) | (with_reducible refine hN _ ?_; clear hN hX hR; clear Kv) | (with_reducible refine hX _ _ ?_; clear hN hX hR; clear Kv) | (with_reducible refine hR _ ?_; clear hN hX hR; clear Kv) | ((conv => whnf); first | with_reducible rfl | with_reducible exact True.intro | with_reducible intro _ | with_reducible refine And.intro ?_ ?_ | (with_reducible refine hN _ ?_; clear hN hX hR; clear Kv) | (with_reducible refine hX _ _ ?_; clear hN hX hR; clear Kv) | (with_reducible refine hR _ ?_; clear hN hX hR; clear Kv) | with_reducible refine body_stop (fun Kv hN hX hR => ?_) | with_reducible refine Stop.mk ?_ | with_reducible refine DrawJ.each ?_ | with_reducible exact SubJ.self _ | with_reducible refine SubJ.of ?_))); all_goals (conv => whnf); all_goals (repeat (clear hN hX hR; clear Kv))
  all_goals simp_all [placeB]
  all_goals omega
theorem k_refByte : Known Try.prog tau 59 (S1 dInt fun x => okB (placeB x)) := by
  refine known1 hmix tau_ok ctx_nil (fn := Try.f59) (by kernel_rfl) [] (by kernel_rfl) _ _ fun x hfit => ⟨rfl, [], ?_⟩
  (repeat' (first | ((with_reducible refine body_intro ?_); (first | refine seq_intro (fun Kv hN hX hR => ?_) | (conv => whnf))) | with_reducible refine body_stop (fun Kv hN hX hR => ?_) | with_reducible refine Stop.mk ?_ | with_reducible refine DrawJ.each ?_ | with_reducible exact SubJ.self _ | with_reducible refine SubJ.of ?_ | with_reducible refine seq_intro (fun Kv hN hX hR => ?_) | (with_reducible refine hN _ ?_; clear hN hX hR; clear Kv) | (with_reducible refine hX _ _ ?_; clear hN hX hR; clear Kv) | (with_reducible refine hR _ ?_; clear hN hX hR; clear Kv) | ((conv => whnf); first | with_reducible rfl | with_reducible exact True.intro | with_reducible intro _ | with_reducible refine And.intro ?_ ?_ | (with_reducible refine hN _ ?_; clear hN hX hR; clear Kv) | (with_reducible refine hX _ _ ?_; clear hN hX hR; clear Kv) | (with_reducible refine hR _ ?_; clear hN hX hR; clear Kv) | with_reducible refine body_stop (fun Kv hN hX hR => ?_) | with_reducible refine Stop.mk ?_ | with_reducible refine DrawJ.each ?_ | with_reducible exact SubJ.self _ | with_reducible refine SubJ.of ?_))); all_goals (conv => whnf); all_goals (repeat (clear hN hX hR; clear Kv))
  all_goals simp_all [placeB]
  all_goals omega
theorem k_refPlaces : Known Try.prog tau 42 (S1 dInts fun l => okB (l.all placeB)) := by
  refine known1 hmix tau_ok (ctx_cons k_refPlace ctx_nil) (fn := Try.f42) (by kernel_rfl) [] (by kernel_rfl) _ _ fun xs hfit => ⟨rfl,
    [(2, invN [3, 4, 5, 6, 7, 8, 9, 10, 11, 12, 13, 14, 15] (fun i => i ≤ xs.length ∧ ∀ x ∈ xs.take i, placeB x = true) (fun i => withS [(3, .int .i64 i)]) (fun i => xs.length - i))], ?_⟩
  have hlen : xs.length * 8 ≤ 140737488355328 := hfit.1
  clear hfit
  (repeat' (first | ((with_reducible refine body_intro ?_); (first | refine seq_intro (fun Kv hN hX hR => ?_) | (conv => whnf))) | with_reducible refine body_stop (fun Kv hN hX hR => ?_) | with_reducible refine Stop.mk ?_ | with_reducible refine DrawJ.each ?_ | with_reducible exact SubJ.self _ | with_reducible refine SubJ.of ?_ | with_reducible refine seq_intro (fun Kv hN hX hR => ?_) | (with_reducible refine hN _ ?_; clear hN hX hR; clear Kv) | (with_reducible refine hX _ _ ?_; clear hN hX hR; clear Kv) | (with_reducible refine hR _ ?_; clear hN hX hR; clear Kv) | ((conv => whnf); first | with_reducible rfl | with_reducible exact True.intro | with_reducible intro _ | with_reducible refine And.intro ?_ ?_ | (with_reducible refine hN _ ?_; clear hN hX hR; clear Kv) | (with_reducible refine hX _ _ ?_; clear hN hX hR; clear Kv) | (with_reducible refine hR _ ?_; clear hN hX hR; clear Kv) | with_reducible refine body_stop (fun Kv hN hX hR => ?_) | with_reducible refine Stop.mk ?_ | with_reducible refine DrawJ.each ?_ | with_reducible exact SubJ.self _ | with_reducible refine SubJ.of ?_))); all_goals (conv => whnf); all_goals (repeat (clear hN hX hR; clear Kv))
  · refine ⟨0, ⟨by omega, by simp⟩, ?_⟩
    (repeat' (first | ((with_reducible refine body_intro ?_); (first | refine seq_intro (fun Kv hN hX hR => ?_) | (conv => whnf))) | with_reducible refine body_stop (fun Kv hN hX hR => ?_) | with_reducible refine Stop.mk ?_ | with_reducible refine DrawJ.each ?_ | with_reducible exact SubJ.self _ | with_reducible refine SubJ.of ?_ | with_reducible refine seq_intro (fun Kv hN hX hR => ?_) | (with_reducible refine hN _ ?_; clear hN hX hR; clear Kv) | (with_reducible refine hX _ _ ?_; clear hN hX hR; clear Kv) | (with_reducible refine hR _ ?_; clear hN hX hR; clear Kv) | ((conv => whnf); first | with_reducible rfl | with_reducible exact True.intro | with_reducible intro _ | with_reducible refine And.intro ?_ ?_ | (with_reducible refine hN _ ?_; clear hN hX hR; clear Kv) | (with_reducible refine hX _ _ ?_; clear hN hX hR; clear Kv) | (with_reducible refine hR _ ?_; clear hN hX hR; clear Kv) | with_reducible refine body_stop (fun Kv hN hX hR => ?_) | with_reducible refine Stop.mk ?_ | with_reducible refine DrawJ.each ?_ | with_reducible exact SubJ.self _ | with_reducible refine SubJ.of ?_))); all_goals (conv => whnf); all_goals (repeat (clear hN hX hR; clear Kv))
    all_goals rfl
  · rename_i i hi h
    simp at h
    exact Ob.mk ⟨by omega, by simpa using h⟩
  · rename_i i hi h1 h2 h3
    simp at h2
    simp at h3
    refine Eq.symm (List.all_eq_false.2 ⟨_, getD_mem (d := 0) h2, by simpa using h3⟩)
  · rename_i i hi h1 h2 h3
    simp at h2
    simp at h3
    refine ⟨i + 1, ⟨h2, all_take_succ h2 hi.2 h3⟩, by show xs.length - (i + 1) < xs.length - i; omega, ?_⟩
    (repeat' (first | ((with_reducible refine body_intro ?_); (first | refine seq_intro (fun Kv hN hX hR => ?_) | (conv => whnf))) | with_reducible refine body_stop (fun Kv hN hX hR => ?_) | with_reducible refine Stop.mk ?_ | with_reducible refine DrawJ.each ?_ | with_reducible exact SubJ.self _ | with_reducible refine SubJ.of ?_ | with_reducible refine seq_intro (fun Kv hN hX hR => ?_) | (with_reducible refine hN _ ?_; clear hN hX hR; clear Kv) | (with_reducible refine hX _ _ ?_; clear hN hX hR; clear Kv) | (with_reducible refine hR _ ?_; clear hN hX hR; clear Kv) | ((conv => whnf); first | with_reducible rfl | with_reducible exact True.intro | with_reducible intro _ | with_reducible refine And.intro ?_ ?_ | (with_reducible refine hN _ ?_; clear hN hX hR; clear Kv) | (with_reducible refine hX _ _ ?_; clear hN hX hR; clear Kv) | (with_reducible refine hR _ ?_; clear hN hX hR; clear Kv) | with_reducible refine body_stop (fun Kv hN hX hR => ?_) | with_reducible refine Stop.mk ?_ | with_reducible refine DrawJ.each ?_ | with_reducible exact SubJ.self _ | with_reducible refine SubJ.of ?_))); all_goals (conv => whnf); all_goals (repeat (clear hN hX hR; clear Kv))
    exact wrapI (by omega) (by omega)
  · rename_i i hi h1
    simp at h1
    obtain ⟨h2, h3⟩ := hi
    rw [List.take_of_length_le h1] at h3
    exact Eq.symm (List.all_eq_true.2 h3)
theorem k_refVer : Known Try.prog tau 60 (S1 dVer fun x => okB (verB x)) := by
  refine known1 hmix tau_ok (ctx_cons k_refPlace ctx_nil) (fn := Try.f60) (by kernel_rfl) [] (by kernel_rfl) _ _ fun x hfit => ⟨rfl, [], ?_⟩
  (repeat' (first | ((with_reducible refine body_intro ?_); (first | refine seq_intro (fun Kv hN hX hR => ?_) | (conv => whnf))) | with_reducible refine body_stop (fun Kv hN hX hR => ?_) | with_reducible refine Stop.mk ?_ | with_reducible refine DrawJ.each ?_ | with_reducible exact SubJ.self _ | with_reducible refine SubJ.of ?_ | with_reducible refine seq_intro (fun Kv hN hX hR => ?_) | (with_reducible refine hN _ ?_; clear hN hX hR; clear Kv) | (with_reducible refine hX _ _ ?_; clear hN hX hR; clear Kv) | (with_reducible refine hR _ ?_; clear hN hX hR; clear Kv) | ((conv => whnf); first | with_reducible rfl | with_reducible exact True.intro | with_reducible intro _ | with_reducible refine And.intro ?_ ?_ | (with_reducible refine hN _ ?_; clear hN hX hR; clear Kv) | (with_reducible refine hX _ _ ?_; clear hN hX hR; clear Kv) | (with_reducible refine hR _ ?_; clear hN hX hR; clear Kv) | with_reducible refine body_stop (fun Kv hN hX hR => ?_) | with_reducible refine Stop.mk ?_ | with_reducible refine DrawJ.each ?_ | with_reducible exact SubJ.self _ | with_reducible refine SubJ.of ?_))); all_goals (conv => whnf); all_goals (repeat (clear hN hX hR; clear Kv))
  all_goals simp_all [verB]
  all_goals omega
theorem k_refItem : Known Try.prog tau 43 (S1 dItem fun x => okB (itemB x)) := by
  refine known1 hmix tau_ok (ctx_cons k_refByte (ctx_cons k_refVer ctx_nil)) (fn := Try.f43) (by kernel_rfl) [] (by kernel_rfl) _ _ fun x hfit => ⟨rfl, [], ?_⟩
  (repeat' (first | ((with_reducible refine body_intro ?_); (first | refine seq_intro (fun Kv hN hX hR => ?_) | (conv => whnf))) | with_reducible refine body_stop (fun Kv hN hX hR => ?_) | with_reducible refine Stop.mk ?_ | with_reducible refine DrawJ.each ?_ | with_reducible exact SubJ.self _ | with_reducible refine SubJ.of ?_ | with_reducible refine seq_intro (fun Kv hN hX hR => ?_) | (with_reducible refine hN _ ?_; clear hN hX hR; clear Kv) | (with_reducible refine hX _ _ ?_; clear hN hX hR; clear Kv) | (with_reducible refine hR _ ?_; clear hN hX hR; clear Kv) | ((conv => whnf); first | with_reducible rfl | with_reducible exact True.intro | with_reducible intro _ | with_reducible refine And.intro ?_ ?_ | (with_reducible refine hN _ ?_; clear hN hX hR; clear Kv) | (with_reducible refine hX _ _ ?_; clear hN hX hR; clear Kv) | (with_reducible refine hR _ ?_; clear hN hX hR; clear Kv) | with_reducible refine body_stop (fun Kv hN hX hR => ?_) | with_reducible refine Stop.mk ?_ | with_reducible refine DrawJ.each ?_ | with_reducible exact SubJ.self _ | with_reducible refine SubJ.of ?_))); all_goals (conv => whnf); all_goals (repeat (clear hN hX hR; clear Kv))
  all_goals simp_all [itemB]
end Go.Proofs.Ytmgccphapkmmeaa

/- Contracts: the laws' own small functions. -/
namespace Go.Proofs.Ytmgccphapkmmeaa
open Go.RowKit

theorem k_Num : Known Try.prog tau 19 (S1 dInt fun x => .ok (.int .i64 x) []) := by
  refine known1 hmix tau_ok ctx_nil (fn := Try.f19) (by kernel_rfl) [] (by kernel_rfl) _ _ fun x hfit => ⟨rfl, [], ?_⟩
  (repeat' (first | ((with_reducible refine body_intro ?_); (first | refine seq_intro (fun Kv hN hX hR => ?_) | (conv => whnf))) | with_reducible refine body_stop (fun Kv hN hX hR => ?_) | with_reducible refine Stop.mk ?_ | with_reducible refine DrawJ.each ?_ | with_reducible exact SubJ.self _ | with_reducible refine SubJ.of ?_ | with_reducible refine seq_intro (fun Kv hN hX hR => ?_) | (with_reducible refine hN _ ?_; clear hN hX hR; clear Kv) | (with_reducible refine hX _ _ ?_; clear hN hX hR; clear Kv) | (with_reducible refine hR _ ?_; clear hN hX hR; clear Kv) | ((conv => whnf); first | with_reducible rfl | with_reducible exact True.intro | with_reducible intro _ | with_reducible refine And.intro ?_ ?_ | (with_reducible refine hN _ ?_; clear hN hX hR; clear Kv) | (with_reducible refine hX _ _ ?_; clear hN hX hR; clear Kv) | (with_reducible refine hR _ ?_; clear hN hX hR; clear Kv) | with_reducible refine body_stop (fun Kv hN hX hR => ?_) | with_reducible refine Stop.mk ?_ | with_reducible refine DrawJ.each ?_ | with_reducible exact SubJ.self _ | with_reducible refine SubJ.of ?_))); all_goals (conv => whnf); all_goals (repeat (clear hN hX hR; clear Kv))
theorem eq_of_take {α : Type} {d : α} {xs ys : List α} (hl : xs.length = ys.length) (h : ∀ j, j < xs.length → xs.getD j d = ys.getD j d) : xs = ys := by
  refine List.ext_getElem hl fun i h1 h2 => ?_
  have := h i h1
  simpa [List.getD_eq_getElem?_getD, h1, h2] using this
theorem k_SameInts : Known Try.prog tau 44 (S2 dInts dInts fun a b => okB (decide (a = b))) := by
  refine known2 hmix tau_ok ctx_nil (fn := Try.f44) (by kernel_rfl) [(6, [(0, 0), (1, 0), (2, 3), (3, 4), (4, 0), (5, 0), (6, 48), (7, 64), (8, 136)])] (by kernel_rfl) _ _ _ fun xs ys hfit => ⟨rfl,
    [(4, invN [4, 5, 11, 12, 13, 14, 15, 16, 17, 18, 19, 20, 21, 22, 23, 24, 25] (fun i => i ≤ xs.length ∧ ∀ j, j < i → xs.getD j 0 = ys.getD j 0) (fun i => withS [(5, .int .i64 i)]) (fun i => xs.length - i))], ?_⟩
  have hlen : xs.length * 8 ≤ 140737488355328 := hfit.1
  clear hfit
  (repeat' (first | ((with_reducible refine body_intro ?_); (first | refine seq_intro (fun Kv hN hX hR => ?_) | (conv => whnf))) | with_reducible refine body_stop (fun Kv hN hX hR => ?_) | with_reducible refine Stop.mk ?_ | with_reducible refine DrawJ.each ?_ | with_reducible exact SubJ.self _ | with_reducible refine SubJ.of ?_ | with_reducible refine seq_intro (fun Kv hN hX hR => ?_) | (with_reducible refine hN _ ?_; clear hN hX hR; clear Kv) | (with_reducible refine hX _ _ ?_; clear hN hX hR; clear Kv) | (with_reducible refine hR _ ?_; clear hN hX hR; clear Kv) | ((conv => whnf); first | with_reducible rfl | with_reducible exact True.intro | with_reducible intro _ | with_reducible refine And.intro ?_ ?_ | (with_reducible refine hN _ ?_; clear hN hX hR; clear Kv) | (with_reducible refine hX _ _ ?_; clear hN hX hR; clear Kv) | (with_reducible refine hR _ ?_; clear hN hX hR; clear Kv) | with_reducible refine body_stop (fun Kv hN hX hR => ?_) | with_reducible refine Stop.mk ?_ | with_reducible refine DrawJ.each ?_ | with_reducible exact SubJ.self _ | with_reducible refine SubJ.of ?_))); all_goals (conv => whnf); all_goals (repeat (clear hN hX hR; clear Kv))
  · rename_i h
    simp at h
    exact (decide_eq_false (fun e => h (by rw [e]))).symm
  · refine ⟨0, ⟨by omega, by intros; omega⟩, ?_⟩
    (repeat' (first | ((with_reducible refine body_intro ?_); (first | refine seq_intro (fun Kv hN hX hR => ?_) | (conv => whnf))) | with_reducible refine body_stop (fun Kv hN hX hR => ?_) | with_reducible refine Stop.mk ?_ | with_reducible refine DrawJ.each ?_ | with_reducible exact SubJ.self _ | with_reducible refine SubJ.of ?_ | with_reducible refine seq_intro (fun Kv hN hX hR => ?_) | (with_reducible refine hN _ ?_; clear hN hX hR; clear Kv) | (with_reducible refine hX _ _ ?_; clear hN hX hR; clear Kv) | (with_reducible refine hR _ ?_; clear hN hX hR; clear Kv) | ((conv => whnf); first | with_reducible rfl | with_reducible exact True.intro | with_reducible intro _ | with_reducible refine And.intro ?_ ?_ | (with_reducible refine hN _ ?_; clear hN hX hR; clear Kv) | (with_reducible refine hX _ _ ?_; clear hN hX hR; clear Kv) | (with_reducible refine hR _ ?_; clear hN hX hR; clear Kv) | with_reducible refine body_stop (fun Kv hN hX hR => ?_) | with_reducible refine Stop.mk ?_ | with_reducible refine DrawJ.each ?_ | with_reducible exact SubJ.self _ | with_reducible refine SubJ.of ?_))); all_goals (conv => whnf); all_goals (repeat (clear hN hX hR; clear Kv))
    all_goals rfl
  · rename_i hl i hi h
    simp at h
    exact Ob.mk ⟨by omega, by omega⟩
  · rename_i hl i hi h h2
    simp at hl
    exact Ob.mk ⟨by omega, by omega⟩
  · rename_i hl i hi h h1 h2 h3
    simp at h3
    exact (decide_eq_false (fun e => h3 (by rw [e]))).symm
  · rename_i hl i hi h h1 h2 h3
    simp at h3 h
    refine ⟨i + 1, ⟨by omega, fun j hj => ?_⟩, by show xs.length - (i + 1) < xs.length - i; omega, ?_⟩
    · rcases Nat.lt_succ_iff_lt_or_eq.1 hj with h4 | h4
      · exact hi.2 j h4
      · subst h4; simpa [List.getD_eq_getElem?_getD] using h3
    · (repeat' (first | ((with_reducible refine body_intro ?_); (first | refine seq_intro (fun Kv hN hX hR => ?_) | (conv => whnf))) | with_reducible refine body_stop (fun Kv hN hX hR => ?_) | with_reducible refine Stop.mk ?_ | with_reducible refine DrawJ.each ?_ | with_reducible exact SubJ.self _ | with_reducible refine SubJ.of ?_ | with_reducible refine seq_intro (fun Kv hN hX hR => ?_) | (with_reducible refine hN _ ?_; clear hN hX hR; clear Kv) | (with_reducible refine hX _ _ ?_; clear hN hX hR; clear Kv) | (with_reducible refine hR _ ?_; clear hN hX hR; clear Kv) | ((conv => whnf); first | with_reducible rfl | with_reducible exact True.intro | with_reducible intro _ | with_reducible refine And.intro ?_ ?_ | (with_reducible refine hN _ ?_; clear hN hX hR; clear Kv) | (with_reducible refine hX _ _ ?_; clear hN hX hR; clear Kv) | (with_reducible refine hR _ ?_; clear hN hX hR; clear Kv) | with_reducible refine body_stop (fun Kv hN hX hR => ?_) | with_reducible refine Stop.mk ?_ | with_reducible refine DrawJ.each ?_ | with_reducible exact SubJ.self _ | with_reducible refine SubJ.of ?_))); all_goals (conv => whnf); all_goals (repeat (clear hN hX hR; clear Kv))
      exact wrapI (by omega) (by omega)
  · rename_i hl i hi h
    simp at hl h
    exact (decide_eq_true (eq_of_take (d := 0) (by omega) fun j hj => hi.2 j (by omega))).symm
end Go.Proofs.Ytmgccphapkmmeaa

/- Contracts: msg. -/
namespace Go.Proofs.Ytmgccphapkmmeaa
open Go.RowKit

def item0B (i : GItem) : Bool := decide (i.key = 0) && (decide (i.ver.count = 0) && (decide (i.ver.writer = 0) && (decide (i.value = 0) && !i.gone)))
def noneB (m : GMsg) : Bool := decide (m.ids.length = 0) && (decide (m.key = 0) && (item0B m.item && !m.has))
theorem k_none : Known Try.prog tau 38 (S1 dMsg fun x => okB (noneB x)) := by
  refine known1 hmix tau_ok ctx_nil (fn := Try.f38) (by kernel_rfl) [] (by kernel_rfl) _ _ fun x hfit => ⟨rfl, [], ?_⟩
  (repeat' (first | ((with_reducible refine body_intro ?_); (first | refine seq_intro (fun Kv hN hX hR => ?_) | (conv => whnf))) | with_reducible refine body_stop (fun Kv hN hX hR => ?_) | with_reducible refine Stop.mk ?_ | with_reducible refine DrawJ.each ?_ | with_reducible exact SubJ.self _ | with_reducible refine SubJ.of ?_ | with_reducible refine seq_intro (fun Kv hN hX hR => ?_) | (with_reducible refine hN _ ?_; clear hN hX hR; clear Kv) | (with_reducible refine hX _ _ ?_; clear hN hX hR; clear Kv) | (with_reducible refine hR _ ?_; clear hN hX hR; clear Kv) | ((conv => whnf); first | with_reducible rfl | with_reducible exact True.intro | with_reducible intro _ | with_reducible refine And.intro ?_ ?_ | (with_reducible refine hN _ ?_; clear hN hX hR; clear Kv) | (with_reducible refine hX _ _ ?_; clear hN hX hR; clear Kv) | (with_reducible refine hR _ ?_; clear hN hX hR; clear Kv) | with_reducible refine body_stop (fun Kv hN hX hR => ?_) | with_reducible refine Stop.mk ?_ | with_reducible refine DrawJ.each ?_ | with_reducible exact SubJ.self _ | with_reducible refine SubJ.of ?_))); all_goals (conv => whnf); all_goals (repeat (clear hN hX hR; clear Kv))
  all_goals simp_all [noneB, item0B, Rw.len]
def bodyB (m : GMsg) : Bool :=
  if m.kind = 0 then noneB { m with ids := [] } && (decide ((m.ids.length : Int) ≤ 16) && m.ids.all placeB)
  else if m.kind = 1 then noneB { m with item := ⟨0, ⟨0, 0⟩, 0, false⟩ } && itemB m.item
  else if m.kind = 2 then noneB { m with key := 0 } && placeB m.key
  else if m.kind = 3 then decide (m.ids.length = 0) && (placeB m.key && ((!m.has && item0B m.item) || (m.has && (itemB m.item && decide (m.item.key = m.key)))))
  else false
def mayB (m : GMsg) : Bool := placeB m.src && (placeB m.dst && (!decide (m.src = m.dst) && bodyB m))
theorem k_MsgMay : Known Try.prog tau 16 (S1 dMsg fun x => okB (mayB x)) := by
  refine known1 hmix tau_ok (ctx_cons k_Place (ctx_cons k_Places (ctx_cons k_none (ctx_cons k_ItemMay ctx_nil)))) (fn := Try.f16) (by kernel_rfl) [] (by kernel_rfl) _ _ fun x hfit => ⟨rfl, [], ?_⟩
  clear hfit
  obtain ⟨kind, src, dst, ids, key, ⟨ik, ⟨ic, iw⟩, iv, ig⟩, has⟩ := x
  (repeat' (first | ((with_reducible refine body_intro ?_); (first | refine seq_intro (fun Kv hN hX hR => ?_) | (conv => whnf))) | with_reducible refine body_stop (fun Kv hN hX hR => ?_) | with_reducible refine Stop.mk ?_ | with_reducible refine DrawJ.each ?_ | with_reducible exact SubJ.self _ | with_reducible refine SubJ.of ?_ | with_reducible refine seq_intro (fun Kv hN hX hR => ?_) | (with_reducible refine hN _ ?_; clear hN hX hR; clear Kv) | (with_reducible refine hX _ _ ?_; clear hN hX hR; clear Kv) | (with_reducible refine hR _ ?_; clear hN hX hR; clear Kv) | ((conv => whnf); first | with_reducible rfl | with_reducible exact True.intro | with_reducible intro _ | with_reducible refine And.intro ?_ ?_ | (with_reducible refine hN _ ?_; clear hN hX hR; clear Kv) | (with_reducible refine hX _ _ ?_; clear hN hX hR; clear Kv) | (with_reducible refine hR _ ?_; clear hN hX hR; clear Kv) | with_reducible refine body_stop (fun Kv hN hX hR => ?_) | with_reducible refine Stop.mk ?_ | with_reducible refine DrawJ.each ?_ | with_reducible exact SubJ.self _ | with_reducible refine SubJ.of ?_))); all_goals (conv => whnf); all_goals (repeat (clear hN hX hR; clear Kv))
  all_goals (try simp_all [mayB, bodyB, noneB, item0B, Rw.len])
  all_goals (intros; omega)
theorem k_refMsg : Known Try.prog tau 17 (S1 dMsg fun x => okB (mayB x)) := by
  refine known1 hmix tau_ok (ctx_cons k_refPlace (ctx_cons k_refPlaces (ctx_cons k_refItem ctx_nil))) (fn := Try.f17) (by kernel_rfl) [] (by kernel_rfl) _ _ fun x hfit => ⟨rfl, [], ?_⟩
  clear hfit
  obtain ⟨kind, src, dst, ids, key, ⟨ik, ⟨ic, iw⟩, iv, ig⟩, has⟩ := x
  (repeat' (first | ((with_reducible refine body_intro ?_); (first | refine seq_intro (fun Kv hN hX hR => ?_) | (conv => whnf))) | with_reducible refine body_stop (fun Kv hN hX hR => ?_) | with_reducible refine Stop.mk ?_ | with_reducible refine DrawJ.each ?_ | with_reducible exact SubJ.self _ | with_reducible refine SubJ.of ?_ | with_reducible refine seq_intro (fun Kv hN hX hR => ?_) | (with_reducible refine hN _ ?_; clear hN hX hR; clear Kv) | (with_reducible refine hX _ _ ?_; clear hN hX hR; clear Kv) | (with_reducible refine hR _ ?_; clear hN hX hR; clear Kv) | ((conv => whnf); first | with_reducible rfl | with_reducible exact True.intro | with_reducible intro _ | with_reducible refine And.intro ?_ ?_ | (with_reducible refine hN _ ?_; clear hN hX hR; clear Kv) | (with_reducible refine hX _ _ ?_; clear hN hX hR; clear Kv) | (with_reducible refine hR _ ?_; clear hN hX hR; clear Kv) | with_reducible refine body_stop (fun Kv hN hX hR => ?_) | with_reducible refine Stop.mk ?_ | with_reducible refine DrawJ.each ?_ | with_reducible exact SubJ.self _ | with_reducible refine SubJ.of ?_))); all_goals (conv => whnf); all_goals (repeat (clear hN hX hR; clear Kv))
  all_goals (try simp_all [mayB, bodyB, noneB, item0B, Rw.len])
end Go.Proofs.Ytmgccphapkmmeaa

/- Contracts: the laws' own small functions, of messages. -/
namespace Go.Proofs.Ytmgccphapkmmeaa
open Go.RowKit

theorem k_SameMsg : Known Try.prog tau 18 (S2 dMsg dMsg fun a b => okB (decide (a = b))) := by
  refine known2 hmix tau_ok (ctx_cons k_SameInts ctx_nil) (fn := Try.f18) (by kernel_rfl) [] (by kernel_rfl) _ _ _ fun x y hfit => ⟨rfl, [], ?_⟩
  clear hfit
  obtain ⟨kind, src, dst, ids, key, ⟨ik, ⟨ic, iw⟩, iv, ig⟩, has⟩ := x
  obtain ⟨kind', src', dst', ids', key', ⟨ik', ⟨ic', iw'⟩, iv', ig'⟩, has'⟩ := y
  (repeat' (first | ((with_reducible refine body_intro ?_); (first | refine seq_intro (fun Kv hN hX hR => ?_) | (conv => whnf))) | with_reducible refine body_stop (fun Kv hN hX hR => ?_) | with_reducible refine Stop.mk ?_ | with_reducible refine DrawJ.each ?_ | with_reducible exact SubJ.self _ | with_reducible refine SubJ.of ?_ | with_reducible refine seq_intro (fun Kv hN hX hR => ?_) | (with_reducible refine hN _ ?_; clear hN hX hR; clear Kv) | (with_reducible refine hX _ _ ?_; clear hN hX hR; clear Kv) | (with_reducible refine hR _ ?_; clear hN hX hR; clear Kv) | ((conv => whnf); first | with_reducible rfl | with_reducible exact True.intro | with_reducible intro _ | with_reducible refine And.intro ?_ ?_ | (with_reducible refine hN _ ?_; clear hN hX hR; clear Kv) | (with_reducible refine hX _ _ ?_; clear hN hX hR; clear Kv) | (with_reducible refine hR _ ?_; clear hN hX hR; clear Kv) | with_reducible refine body_stop (fun Kv hN hX hR => ?_) | with_reducible refine Stop.mk ?_ | with_reducible refine DrawJ.each ?_ | with_reducible exact SubJ.self _ | with_reducible refine SubJ.of ?_))); all_goals (conv => whnf); all_goals (repeat (clear hN hX hR; clear Kv))
  all_goals (try simp_all)
  all_goals (cases has <;> cases has' <;> rfl)
theorem k_CopyMsg : Known Try.prog tau 15 (S1 dMsg fun m => .ok (.agg [.int .i64 m.kind, .int .i64 m.src, .int .i64 m.dst, .own 0, .int .i64 m.key, .int .i64 m.item.key, .int .i64 m.item.ver.count, .int .i64 m.item.ver.writer, .int .i64 m.item.value, .bool m.item.gone, .bool m.has]) [.ints m.ids]) := by
  refine known1 hmix tau_ok ctx_nil (fn := Try.f15) (by kernel_rfl) [] (by kernel_rfl) _ _ fun x hfit => ⟨rfl, [], ?_⟩
  (repeat' (first | ((with_reducible refine body_intro ?_); (first | refine seq_intro (fun Kv hN hX hR => ?_) | (conv => whnf))) | with_reducible refine body_stop (fun Kv hN hX hR => ?_) | with_reducible refine Stop.mk ?_ | with_reducible refine DrawJ.each ?_ | with_reducible exact SubJ.self _ | with_reducible refine SubJ.of ?_ | with_reducible refine seq_intro (fun Kv hN hX hR => ?_) | (with_reducible refine hN _ ?_; clear hN hX hR; clear Kv) | (with_reducible refine hX _ _ ?_; clear hN hX hR; clear Kv) | (with_reducible refine hR _ ?_; clear hN hX hR; clear Kv) | ((conv => whnf); first | with_reducible rfl | with_reducible exact True.intro | with_reducible intro _ | with_reducible refine And.intro ?_ ?_ | (with_reducible refine hN _ ?_; clear hN hX hR; clear Kv) | (with_reducible refine hX _ _ ?_; clear hN hX hR; clear Kv) | (with_reducible refine hR _ ?_; clear hN hX hR; clear Kv) | with_reducible refine body_stop (fun Kv hN hX hR => ?_) | with_reducible refine Stop.mk ?_ | with_reducible refine DrawJ.each ?_ | with_reducible exact SubJ.self _ | with_reducible refine SubJ.of ?_))); all_goals (conv => whnf); all_goals (repeat (clear hN hX hR; clear Kv))
  · have h : x.ids.length * 8 ≤ 140737488355328 := hfit.1.2.2.2.1
    exact Ob.mk (by simpa [Rw.len, Rw.bts, Rw.kd, kdBytes] using h)
  · rfl
end Go.Proofs.Ytmgccphapkmmeaa

/- Chapter 12: the laws' functions. -/
namespace Go.Proofs.Ytmgccphapkmmeaa
open Go.RowKit

theorem k_awake12 : Known Try.prog tau 20 (S0 (okB true)) := by
  refine known0 hmix tau_ok (ctx_cons k_MsgMay ctx_nil) (fn := Try.f20) (by kernel_rfl) [] (by kernel_rfl) _ fun hfit => ⟨rfl, [], ?_⟩
  (repeat' (first | ((with_reducible refine body_intro ?_); (first | refine seq_intro (fun Kv hN hX hR => ?_) | (conv => whnf))) | with_reducible refine body_stop (fun Kv hN hX hR => ?_) | with_reducible refine Stop.mk ?_ | with_reducible refine DrawJ.each ?_ | with_reducible exact SubJ.self _ | with_reducible refine SubJ.of ?_ | with_reducible refine seq_intro (fun Kv hN hX hR => ?_) | (with_reducible refine hN _ ?_; clear hN hX hR; clear Kv) | (with_reducible refine hX _ _ ?_; clear hN hX hR; clear Kv) | (with_reducible refine hR _ ?_; clear hN hX hR; clear Kv) | ((conv => whnf); first | with_reducible rfl | with_reducible exact True.intro | with_reducible intro _ | with_reducible refine And.intro ?_ ?_ | (with_reducible refine hN _ ?_; clear hN hX hR; clear Kv) | (with_reducible refine hX _ _ ?_; clear hN hX hR; clear Kv) | (with_reducible refine hR _ ?_; clear hN hX hR; clear Kv) | with_reducible refine body_stop (fun Kv hN hX hR => ?_) | with_reducible refine Stop.mk ?_ | with_reducible refine DrawJ.each ?_ | with_reducible exact SubJ.self _ | with_reducible refine SubJ.of ?_))); all_goals (conv => whnf); all_goals (repeat (clear hN hX hR; clear Kv))
  all_goals simp_all [mayB, bodyB, noneB, item0B, itemB, verB, placeB]
theorem k_Msgs : Known Try.prog tau 3 (S1 dMsg fun m => okB true) := by
  refine known1 hmix tau_ok (ctx_cons k_CopyMsg (ctx_cons k_MsgMay (ctx_cons k_refMsg (ctx_cons k_SameMsg (ctx_cons k_Num (ctx_cons k_awake12 ctx_nil)))))) (fn := Try.f3) (by kernel_rfl)
    [(2, [(0, 0), (1, 1), (2, 0), (3, 6), (4, 10), (5, 24), (6, 32), (7, 32), (8, 224), (9, 288), (10, 768), (11, 1024), (12, 3072), (13, 5120), (14, 10240), (15, 16384), (16, 49152), (17, 131071)])] (by kernel_rfl) _ _ fun m hfit => ⟨rfl, [], ?_⟩
  (repeat' (first | ((with_reducible refine body_intro ?_); (first | refine seq_intro (fun Kv hN hX hR => ?_) | (conv => whnf))) | with_reducible refine body_stop (fun Kv hN hX hR => ?_) | with_reducible refine Stop.mk ?_ | with_reducible refine DrawJ.each ?_ | with_reducible exact SubJ.self _ | with_reducible refine SubJ.of ?_ | with_reducible refine seq_intro (fun Kv hN hX hR => ?_) | (with_reducible refine hN _ ?_; clear hN hX hR; clear Kv) | (with_reducible refine hX _ _ ?_; clear hN hX hR; clear Kv) | (with_reducible refine hR _ ?_; clear hN hX hR; clear Kv) | ((conv => whnf); first | with_reducible rfl | with_reducible exact True.intro | with_reducible intro _ | with_reducible refine And.intro ?_ ?_ | (with_reducible refine hN _ ?_; clear hN hX hR; clear Kv) | (with_reducible refine hX _ _ ?_; clear hN hX hR; clear Kv) | (with_reducible refine hR _ ?_; clear hN hX hR; clear Kv) | with_reducible refine body_stop (fun Kv hN hX hR => ?_) | with_reducible refine Stop.mk ?_ | with_reducible refine DrawJ.each ?_ | with_reducible exact SubJ.self _ | with_reducible refine SubJ.of ?_))); all_goals (conv => whnf); all_goals (repeat (clear hN hX hR; clear Kv))
  all_goals simp_all
end Go.Proofs.Ytmgccphapkmmeaa

/- A symbolic executor for loaded Go code: calls that are entered in place. -/
namespace Go.Proofs.Ytmgccphapkmmeaa
open Go.RowKit

def enterI : List SV → Nat → List (Nat × SV)
  | [], _ => []
  | v :: l, n => (n, v) :: enterI l (n + 1)
/-- Back in the caller's frame. -/
def popK (v : SV) (dep : Nat) (K : SV → St → Prop) : St → Prop
  | ⟨_, fr :: stk, bx, rw, _⟩ => K v ⟨fr, stk, bx, rw, dep⟩
  | _ => False
/-- A call entered in place. -/
noncomputable def inlT (τ : Tys) (C : Ctx) (D : Draws) (L : List (Nat × Inv)) (fn : Func) : CallT := fun args s K => match s with
  | ⟨fr, stk, bx, rw, dep⟩ => Stop (wpC τ C D L (fbody fn) ⟨enterI args 0, fr :: stk, bx, rw, dep + 10000000⟩ fun e s' => match e with
    | .exit _ => False
    | _ => resVals τ s' fn.results.toList [] fun vs => match notTup2 vs with
      | true => (oneOf vs).force fun v => popK v dep K s'
      | false => False)
where notTup2 : List SV → Bool
  | [] => true
  | [_] => true
  | vs => notTup vs
theorem enterI_lkv : ∀ (l : List SV) (us : List Value) (n t : Nat) (p : SV → Value → Prop), (∀ u, p .junk u) → L0 p l us → p (lkv (enterI l n) t) (if n ≤ t then (us[t - n]?).getD undef else undef)
  | [], us, n, t, p, hj, _ => by simp only [enterI, lkv]; exact hj _
  | x :: l, us, n, t, p, hj, h => by
    obtain ⟨u, us', rfl, h1, h2⟩ := h.inv_cons
    simp only [enterI, lkv]
    split
    · rename_i hk
      obtain rfl := Nat.eq_of_beq_eq_true hk
      simpa using h1
    · rename_i hk
      have hne : n ≠ t := fun e => by subst e; simp at hk
      have := enterI_lkv l us' (n + 1) t p hj h2
      by_cases h3 : n + 1 ≤ t
      · rw [if_pos h3] at this
        rw [if_pos (by omega)]
        obtain ⟨j, rfl⟩ : ∃ j, t = n + 1 + j := ⟨t - (n + 1), by omega⟩
        rw [show n + 1 + j - (n + 1) = j by omega] at this
        rw [show n + 1 + j - n = j + 1 by omega]
        simpa using this
      · rw [if_neg h3] at this
        rw [if_neg (by omega)]
        exact this
theorem notTup_spec : ∀ {vs : List SV}, notTup vs = true → ∀ x ∈ vs, ∀ c, x ≠ .tup c
  | [], _, x, hx => by simp at hx
  | y :: l, h, x, hx => by
    rcases List.mem_cons.1 hx with rfl | hx
    · rintro c rfl; simp [notTup] at h
    · refine notTup_spec (vs := l) ?_ x hx
      cases y <;> first | exact h | (simp [notTup] at h; done)
theorem notTup2_spec {vs : List SV} (h : inlT.notTup2 vs = true) : vs.length = 1 ∨ ∀ x ∈ vs, ∀ c, x ≠ .tup c := by
  unfold inlT.notTup2 at h
  split at h
  · exact .inr fun x hx => by simp at hx
  · exact .inl rfl
  · exact .inr (notTup_spec h)
theorem Den.push {τ : Tys} {w0 : World} {E : Env} {fr : List (Nat × SV)} {stk : List (List (Nat × SV))} {bx : List (Nat × (TypeId × List SV))} {rw' : List (Nat × Ent)} {dep : Nat} {aS : List (Array Value)} {w : World} (hd : Den τ w0 E ⟨fr, stk, bx, rw', dep⟩ aS w)
    {args : List SV} {vals : List Value} (ha : L0 (vd3 E rw' w) args vals) (n dep' : Nat) : Den τ w0 E ⟨enterI args 0, fr :: stk, bx, rw', dep'⟩ ((vals.toArray ++ Array.replicate n undef) :: aS) w := by
  refine ⟨hd.below, hd.bM, hd.Mh, hd.owb, ?_, hd.box, hd.own, hd.bb, hd.br, hd.rr⟩
  intro i f hf
  cases i with
  | zero =>
    simp at hf
    subst hf
    refine ⟨_, rfl, fun t => ?_⟩
    have := enterI_lkv args vals 0 t (vd3 E rw' w) (fun u => trivial) ha
    simp only [Nat.zero_le, if_true, Nat.sub_zero] at this
    have he : (vals.toArray ++ Array.replicate n undef).getD t undef = (vals[t]?).getD undef := by
      rw [Array.getD_eq_getD_getElem?, Array.getElem?_append]
      split
      · simp
      · rename_i hlt
        have : vals[t]? = none := by simpa using hlt
        rw [this, Array.getElem?_replicate]
        split <;> rfl
    show vd3 E rw' w _ _
    rw [he]
    exact this
  | succ i => exact hd.fr i f (by simpa using hf)
theorem Den.pop {τ : Tys} {w0 : World} {E : Env} {f0 fr : List (Nat × SV)} {stk : List (List (Nat × SV))} {bx : List (Nat × (TypeId × List SV))} {rw' : List (Nat × Ent)} {dep dep' : Nat} {a0 : Array Value} {aS : List (Array Value)} {w : World} (hd : Den τ w0 E ⟨f0, fr :: stk, bx, rw', dep⟩ (a0 :: aS) w) :
    Den τ w0 E ⟨fr, stk, bx, rw', dep'⟩ aS w := by
  refine ⟨hd.below, hd.bM, hd.Mh, hd.owb, ?_, hd.box, hd.own, hd.bb, hd.br, hd.rr⟩
  intro i f hf
  obtain ⟨b, hb, hfr⟩ := hd.fr (i + 1) f (by simpa using hf)
  exact ⟨b, by simpa using hb, hfr⟩
theorem inl_ok {P : Program} {τ : Tys} (hm : P.follows .mixedOrders = true) (hτ : TysOk P τ) {C : Ctx} (hC : CtxOk P τ C) {f : FuncId} {fn : Func} (hf : P.funcs[f]? = some fn) (D : Draws) (hok : fnOk D fn = true) (L : List (Nat × Inv)) : TrKnown P τ f (inlT τ C D L fn) := by
  refine ⟨fnOk_enters hf hok, ?_⟩
  simp only [fnOk, Bool.and_eq_true] at hok
  have hb : fn.body = some (fbody fn) := by
    cases hb : fn.body with
    | none => have := hok.1.1; rw [hb] at this; simp [isSome'] at this
    | some c => simp [fbody, hb]
  intro w0 E s aS w args vals K hd hargs hT
  obtain ⟨fr, stk, bx, rw', dep⟩ := s
  simp only [inlT] at hT
  replace hT := hT.out
  refine calls_of_wp hf hb (wpC_sound (w0 := w0) (base := E.base) (M := E.M) (nn := fn.ntmps) (aS := aS) hτ hC hm (fbody fn) _ _ _ _ _ hok.2 hT
    (⟨E, hd.push hargs (fn.ntmps - vals.toArray.size) _, rfl, Nat.le_refl _, by simp; omega, rfl⟩ : At τ w0 E.base E.M fn.ntmps aS ⟨enterI args 0, fr :: stk, bx, rw', dep + 10000000⟩ { tmps := vals.toArray ++ Array.replicate (fn.ntmps - vals.toArray.size) undef, defers := [] } w) ?_)
  intro e s a w' hk hat
  obtain ⟨E', hd', h1, h2, h3, h4⟩ := hat
  have fin : (resVals τ s fn.results.toList [] fun vs => match inlT.notTup2 vs with
      | true => (oneOf vs).force fun v => popK v dep K s
      | false => False) → a.defers = [] ∧ ∃ z, (results fn a.tmps).run P w' = .ok z w' ∧ ∃ z' v s' E', Ending.returned z = .returned z' ∧ K v s' ∧ Den τ w0 E' s' aS w' ∧ E'.base = E.base ∧ E.M ≤ E'.M ∧ vd3 E' s'.rows w' v z' := by
    intro hr
    obtain ⟨xs, vs, hK, hl, hlen, hg⟩ := resVals_ok hτ hd' fn.results.toList [] [] hr L0.nil
    simp only [List.nil_append] at hl
    split at hK
    · rename_i hno
      rw [SV.force_eq] at hK
      have hz := one_vd hl (notTup2_spec hno)
      obtain ⟨f0, stk0, bx0, rw0, dep0⟩ := s
      cases stk0 with
      | nil => exact hK.elim
      | cons fr0 stk0 => exact ⟨h4, oneV vs, results_list rfl hlen hg, oneV vs, _, _, E', rfl, hK, hd'.pop, h1, h2, hz⟩
    · exact hK.elim
  cases e with
  | exit id => exact hk.elim
  | normal => exact fin hk
  | ret => exact fin hk
end Go.Proofs.Ytmgccphapkmmeaa

/- A symbolic executor for loaded Go code: whole numbers, masks, remainders. -/
namespace Go.Proofs.Ytmgccphapkmmeaa
open Go.RowKit

theorem i64_mask (n : Int) (j : Nat) (hj : j < 63) : bits .and .i64 n (((2 ^ j - 1 : Nat) : Int)) = n % ((2 ^ j : Nat) : Int) := by
  have hp : (2 : Nat) ^ j < 2 ^ 63 := Nat.pow_lt_pow_right (by omega) hj
  have hpos : 0 < (2 : Nat) ^ j := Nat.pow_pos (by omega)
  have h1 : (BitVec.ofInt 64 (((2 ^ j - 1 : Nat) : Int))).toNat = 2 ^ j - 1 := by
    rw [BitVec.toNat_ofInt]
    omega
  have key : (BitVec.ofInt 64 n &&& BitVec.ofInt 64 (((2 ^ j - 1 : Nat) : Int))).toNat = (n % ((2 ^ 64 : Nat) : Int)).toNat % 2 ^ j := by
    rw [BitVec.toNat_and, BitVec.toNat_ofInt, h1, Nat.and_two_pow_sub_one_eq_mod]
  show IntKind.i64.wrap ((BitVec.ofInt 64 n &&& BitVec.ofInt 64 (((2 ^ j - 1 : Nat) : Int))).toNat : Nat) = _
  rw [key, IntKind.wrap_i64]
  have hd : ((2 ^ j : Nat) : Int) ∣ ((2 ^ 64 : Nat) : Int) := by
    have : (2 : Nat) ^ 64 = 2 ^ j * 2 ^ (64 - j) := by rw [← Nat.pow_add, show j + (64 - j) = 64 by omega]
    exact ⟨((2 ^ (64 - j) : Nat) : Int), by rw [this]; push_cast; rfl⟩
  have e1 : (((n % ((2 ^ 64 : Nat) : Int)).toNat % 2 ^ j : Nat) : Int) = n % ((2 ^ j : Nat) : Int) := by
    rw [Int.natCast_emod, Int.toNat_of_nonneg (Int.emod_nonneg _ (by decide))]
    exact Int.emod_emod_of_dvd n hd
  rw [e1]
  have := Int.emod_nonneg n (show ((2 ^ j : Nat) : Int) ≠ 0 by omega)
  have := Int.emod_lt_of_pos n (show (0 : Int) < ((2 ^ j : Nat) : Int) by omega)
  omega
theorem and1 (n : Int) : bits .and .i64 n 1 = n % 2 := i64_mask n 1 (by decide)
theorem and3 (n : Int) : bits .and .i64 n 3 = n % 4 := i64_mask n 2 (by decide)
theorem and7 (n : Int) : bits .and .i64 n 7 = n % 8 := i64_mask n 3 (by decide)
theorem and15 (n : Int) : bits .and .i64 n 15 = n % 16 := i64_mask n 4 (by decide)
theorem and127 (n : Int) : bits .and .i64 n 127 = n % 128 := i64_mask n 7 (by decide)
theorem and255 (n : Int) : bits .and .i64 n 255 = n % 256 := i64_mask n 8 (by decide)
theorem and1023 (n : Int) : bits .and .i64 n 1023 = n % 1024 := i64_mask n 10 (by decide)
theorem and65535 (n : Int) : bits .and .i64 n 65535 = n % 65536 := i64_mask n 16 (by decide)
theorem wi64 (n : Int) : IntKind.i64.wrap n = (n + 9223372036854775808) % 18446744073709551616 - 9223372036854775808 := IntKind.wrap_i64 n
theorem wu64 (n : Int) : IntKind.u64.wrap n = n % 18446744073709551616 := IntKind.wrap_u64 n
theorem wu8 (n : Int) : IntKind.u8.wrap n = n % 256 := IntKind.wrap_u8 n
/-- A remainder of numbers that aren't negative. -/
theorem tmod_pos {a b : Int} (h : 0 ≤ a) : a.tmod b = a % b := Int.tmod_eq_emod_of_nonneg h
/-- int(uint(n) % m) is a place below m. -/
theorem umod (n m : Int) (h : 0 < m) (h' : m < 9223372036854775808) : 0 ≤ (IntKind.u64.wrap n).tmod m ∧ (IntKind.u64.wrap n).tmod m < m ∧ IntKind.i64.wrap ((IntKind.u64.wrap n).tmod m) = (IntKind.u64.wrap n).tmod m := by
  have h0 : 0 ≤ IntKind.u64.wrap n := by rw [wu64]; omega
  rw [tmod_pos h0]
  have h1 := Int.emod_nonneg (IntKind.u64.wrap n) (show m ≠ 0 by omega)
  have h2 := Int.emod_lt_of_pos (IntKind.u64.wrap n) h
  refine ⟨h1, h2, wrapI (by omega) (by omega)⟩
end Go.Proofs.Ytmgccphapkmmeaa

/- Chapter 12: the laws' functions, on. -/
namespace Go.Proofs.Ytmgccphapkmmeaa
open Go.RowKit

theorem mayB_eq (kind src dst : Int) (ids : List Int) (key : Int) (item : GItem) (has : Bool) : mayB ⟨kind, src, dst, ids, key, item, has⟩ = (placeB src && (placeB dst && (!decide (src = dst) && bodyB ⟨kind, 0, 0, ids, key, item, has⟩))) := rfl
theorem placeB_255 (x : Int) : placeB (bits .and .i64 x 255) = true := by
  rw [and255]
  simp [placeB]
  omega
theorem decide_swap (a b : Int) : decide (a = b) = decide (b = a) := by
  by_cases h : a = b
  · simp [h]
  · rw [decide_eq_false h, decide_eq_false (fun e => h e.symm)]
theorem mayB_turn (kind src dst : Int) (ids : List Int) (key : Int) (item : GItem) (has : Bool) : mayB ⟨kind, dst, src, ids, key, item, has⟩ = mayB ⟨kind, src, dst, ids, key, item, has⟩ := by
  rw [mayB_eq, mayB_eq, decide_swap dst src]
  cases placeB src <;> cases placeB dst <;> rfl
theorem mayB_ends (kind src dst a b : Int) (ids : List Int) (key : Int) (item : GItem) (has : Bool) (h : mayB ⟨kind, src, dst, ids, key, item, has⟩ = true) (ha : placeB a = true) (hb : placeB b = true) : mayB ⟨kind, a, b, ids, key, item, has⟩ = !decide (a = b) := by
  rw [mayB_eq] at h
  simp only [Bool.and_eq_true] at h
  rw [mayB_eq, ha, hb, h.2.2.2]
  simp
theorem k_MsgEnds : Known Try.prog tau 5 (S3 dMsg dInt dInt fun m a b => okB true) := by
  refine known3 hmix tau_ok (ctx_cons k_CopyMsg (ctx_cons k_MsgMay (ctx_cons k_Num (ctx_cons k_awake12 ctx_nil)))) (fn := Try.f5) (by kernel_rfl) [(3, [(0, 0), (1, 1), (2, 0), (3, 6), (4, 0), (5, 0), (6, 59), (7, 127)]), (9, [(0, 0), (1, 0), (2, 2), (3, 5), (4, 12), (5, 16), (6, 48), (7, 80), (8, 128), (9, 384), (10, 128), (11, 1152), (12, 128), (13, 4224), (14, 10368), (15, 17024), (16, 32912), (17, 65552), (18, 131584), (19, 262144), (20, 786432), (21, 1310720), (22, 4194303)])] (by kernel_rfl) _ _ _ _ fun m x y hfit => ⟨rfl, [], ?_⟩
  clear hfit
  obtain ⟨kind, src, dst, ids, key, ⟨ik, ⟨ic, iw⟩, iv, ig⟩, has⟩ := m
  have h1 := mayB_turn kind src dst ids key ⟨ik, ⟨ic, iw⟩, iv, ig⟩ has
  have h2 := fun h => mayB_ends kind src dst (bits .and .i64 x 255) (bits .and .i64 y 255) ids key ⟨ik, ⟨ic, iw⟩, iv, ig⟩ has h (placeB_255 x) (placeB_255 y)
  (repeat' (first | ((with_reducible refine body_intro ?_); (first | refine seq_intro (fun Kv hN hX hR => ?_) | (conv => whnf))) | with_reducible refine body_stop (fun Kv hN hX hR => ?_) | with_reducible refine Stop.mk ?_ | with_reducible refine DrawJ.each ?_ | with_reducible exact SubJ.self _ | with_reducible refine SubJ.of ?_ | with_reducible refine seq_intro (fun Kv hN hX hR => ?_) | (with_reducible refine hN _ ?_; clear hN hX hR; clear Kv) | (with_reducible refine hX _ _ ?_; clear hN hX hR; clear Kv) | (with_reducible refine hR _ ?_; clear hN hX hR; clear Kv) | ((conv => whnf); first | with_reducible rfl | with_reducible exact True.intro | with_reducible intro _ | with_reducible refine And.intro ?_ ?_ | (with_reducible refine hN _ ?_; clear hN hX hR; clear Kv) | (with_reducible refine hX _ _ ?_; clear hN hX hR; clear Kv) | (with_reducible refine hR _ ?_; clear hN hX hR; clear Kv) | with_reducible refine body_stop (fun Kv hN hX hR => ?_) | with_reducible refine Stop.mk ?_ | with_reducible refine DrawJ.each ?_ | with_reducible exact SubJ.self _ | with_reducible refine SubJ.of ?_))); all_goals (conv => whnf); all_goals (repeat (clear hN hX hR; clear Kv))
  all_goals (try dsimp only at *)
  all_goals simp_all
end Go.Proofs.Ytmgccphapkmmeaa

/- A symbolic executor for loaded Go code: strings and their bytes. -/
namespace Go.Proofs.Ytmgccphapkmmeaa
open Go.RowKit

/-- The string of some bytes. -/
def bs (l : List Int) : ByteArray := ⟨(bytesOf l).toArray⟩
def InB (l : List Int) : Prop := ∀ x ∈ l, 0 ≤ x ∧ x < 256
theorem bytesOf_len (l : List Int) : (bytesOf l).length = l.length := by induction l <;> simp [bytesOf, *]
theorem bytesOf_app (a b : List Int) : bytesOf (a ++ b) = bytesOf a ++ bytesOf b := by induction a <;> simp [bytesOf, *]
theorem bs_size (l : List Int) : (bs l).size = l.length := by simp [bs, ByteArray.size, bytesOf_len]
theorem ba_ext {a b : ByteArray} (h : a.data = b.data) : a = b := by cases a; cases b; simp at h; rw [h]
theorem bs_app (a b : List Int) : bs a ++ bs b = bs (a ++ b) := by
  apply ba_ext
  simp [bs, bytesOf_app, ByteArray.data_append]
theorem bs_nil : bs [] = ByteArray.empty := rfl
theorem bytesL_bs {l : List Int} (h : InB l) : bytesL (bs l) = l := by
  induction l with
  | nil => simp [bytesL, bs, bytesOf]
  | cons x l ih =>
    have hx := h x (by simp)
    have ih := ih fun y hy => h y (by simp [hy])
    simp only [bytesL, bs, ByteArray.toList_mk] at ih ⊢
    simp only [bytesOf, List.map_cons, ih]
    congr 1
    have : (UInt8.ofNat x.toNat).toNat = x.toNat := by
      rw [UInt8.toNat_ofNat']
      omega
    rw [this]
    omega
theorem inB_bytesL (s : ByteArray) : InB (bytesL s) := by
  intro x hx
  simp only [bytesL, List.mem_map] at hx
  obtain ⟨b, _, rfl⟩ := hx
  have := b.toNat_lt
  omega
theorem bs_bytesL (s : ByteArray) : bs (bytesL s) = s := by
  apply ba_ext
  have key : ∀ l : List UInt8, bytesOf (l.map fun b => (b.toNat : Int)) = l := by
    intro l
    induction l with
    | nil => rfl
    | cons b l ih => simp [bytesOf, ih]
  simp only [bs, bytesL, key, ByteArray.toList_eq]
theorem byteAt_bytesL (s : ByteArray) (i : Nat) : byteAt s i = (bytesL s).getD i 0 := by
  rw [byteAt_def]
  split
  · rename_i h; rw [bytesL_get s h]
  · rename_i h
    rw [List.getD_eq_getElem?_getD, List.getElem?_eq_none (by rw [bytesL_len]; omega)]
    rfl
theorem getD_drop {α : Type} (l : List α) (a i : Nat) (d : α) : (l.drop a).getD i d = l.getD (a + i) d := by
  simp [List.getD_eq_getElem?_getD, List.getElem?_drop]
theorem bytesL_extract (s : ByteArray) (a : Nat) : bytesL (s.extract a s.size) = (bytesL s).drop a := by
  simp only [bytesL, ByteArray.toList_eq, ByteArray.data_extract]
  rw [← List.map_drop]
  congr 1
  simp only [ByteArray.size, Array.toList_extract, List.extract_eq_take_drop]
  rw [List.take_of_length_le (by simp)]
theorem str_beq (a b : ByteArray) : (a.toList == b.toList) = decide (a = b) := by
  by_cases h : a = b
  · subst h; simp
  · rw [decide_eq_false h]
    apply beq_eq_false_iff_ne.2
    intro e
    apply h
    apply ba_ext
    rw [ByteArray.toList_eq, ByteArray.toList_eq] at e
    exact Array.toList_inj.1 e
theorem bs_eq_iff {l : List Int} (h : InB l) (s : ByteArray) : bs l = s ↔ l = bytesL s := by
  constructor
  · rintro rfl; exact (bytesL_bs h).symm
  · rintro rfl; exact bs_bytesL s
/-- A byte. -/
def by8 (n : Int) : Int := IntKind.u8.wrap n
theorem by8_in (n : Int) : 0 ≤ by8 n ∧ by8 n < 256 := by unfold by8; rw [wu8]; omega
theorem by8_id {n : Int} (h : 0 ≤ n) (h' : n < 256) : by8 n = n := by unfold by8; rw [wu8]; omega
theorem wrap_byte (s : ByteArray) (i : Nat) : IntKind.i64.wrap (byteAt s i) = (bytesL s).getD i 0 := by
  rw [byteAt_bytesL]
  have : 0 ≤ (bytesL s).getD i 0 ∧ (bytesL s).getD i 0 < 256 := by
    by_cases h : i < (bytesL s).length
    · exact inB_bytesL s _ (by
        rw [List.getD_eq_getElem?_getD, List.getElem?_eq_getElem h]
        exact List.getElem_mem h)
    · rw [List.getD_eq_getElem?_getD, List.getElem?_eq_none (by omega)]
      exact ⟨by decide, by decide⟩
  exact wrapI (by omega) (by omega)
theorem getD_inB {l : List Int} (h : InB l) (i : Nat) : 0 ≤ l.getD i 0 ∧ l.getD i 0 < 256 := by
  by_cases hi : i < l.length
  · exact h _ (by
      rw [List.getD_eq_getElem?_getD, List.getElem?_eq_getElem hi]
      exact List.getElem_mem hi)
  · rw [List.getD_eq_getElem?_getD, List.getElem?_eq_none (by omega)]
    exact ⟨by decide, by decide⟩
theorem or_shl {a b : Int} (h1 : 0 ≤ a) (h2 : a < 256) (h3 : 0 ≤ b) (h4 : b < 256) : bits .or .i64 a (b * 256) = a + 256 * b := by
  obtain ⟨a, rfl⟩ := Int.eq_ofNat_of_zero_le h1
  obtain ⟨b, rfl⟩ := Int.eq_ofNat_of_zero_le h3
  have ha : (BitVec.ofInt 64 (a : Int)).toNat = a := by rw [BitVec.toNat_ofInt]; omega
  have hb : (BitVec.ofInt 64 ((b : Int) * 256)).toNat = b * 256 := by rw [BitVec.toNat_ofInt]; omega
  show IntKind.i64.wrap ((BitVec.ofInt 64 (a : Int) ||| BitVec.ofInt 64 ((b : Int) * 256)).toNat : Nat) = _
  rw [BitVec.toNat_or, ha, hb]
  have : a ||| b * 256 = 256 * b + a := by
    rw [Nat.or_comm, Nat.mul_comm]
    exact (Nat.two_pow_add_eq_or_of_lt (i := 8) (by omega) b).symm
  rw [this, wi64]
  omega
/-- Their sum. -/
def sumL (l : List Int) : Int := l.foldl (· + ·) 0
theorem sumL_app (a b : List Int) : sumL (a ++ b) = b.foldl (· + ·) (sumL a) := by simp [sumL, List.foldl_append]
theorem sumL_take {l : List Int} {i : Nat} (h : i < l.length) : sumL (l.take (i + 1)) = sumL (l.take i) + l.getD i 0 := by
  rw [List.take_succ_eq_append_getElem h, sumL_app]
  simp [List.getD_eq_getElem?_getD, h]
theorem by8_add (a b : Int) : IntKind.u8.wrap (by8 a + b) = by8 (a + b) := by
  unfold by8
  rw [wu8, wu8, wu8]
  omega
end Go.Proofs.Ytmgccphapkmmeaa

/- A symbolic executor for loaded Go code: the library's Clone. -/
namespace Go.Proofs.Ytmgccphapkmmeaa
open Go.RowKit

section
variable {P : Program} {τ : Tys} {w0 : World} {E : Env} {w : World} {s : St} {bs : List (Array Value)}
theorem src_one {F : Nat → Prop} {r : Rw} {news : List Value} (hnl : news.length = r.len * r.sz) (hcd : ∀ i j x, i < r.len → (r.cell .any i)[j]? = some x → ∃ u, news[i * r.sz + j]? = some u ∧ cd1 w F x u) : ∀ u ∈ news, u.oneCell' = true := by
  intro u hu
  obtain ⟨m, hm, rfl⟩ := List.getElem_of_mem hu
  have hsp := sz_pos r
  have hm' : m < r.len * r.sz := by rw [← hnl]; exact hm
  have hi : m / r.sz < r.len := Nat.div_lt_of_lt_mul (by rw [Nat.mul_comm]; exact hm')
  have hj : m % r.sz < (r.cell .any (m / r.sz)).length := by rw [cell_len]; exact Nat.mod_lt _ hsp
  obtain ⟨u, hu, hd⟩ := hcd _ _ _ hi (List.getElem?_eq_getElem hj)
  rw [show m / r.sz * r.sz + m % r.sz = m by rw [Nat.mul_comm]; exact Nat.div_add_mod m r.sz, List.getElem?_eq_getElem hm] at hu
  injection hu with hu
  rw [hu]
  generalize (r.cell .any (m / r.sz))[m % r.sz] = q at hd
  cases q <;> first
    | exact hd.elim
    | (obtain rfl : u = _ := hd; rfl)
    | (obtain ⟨_, A, c, rfl, _⟩ := hd; rfl)
/-- What is known of slices.Clone at one type: its walk. -/
structure CloneW (P : Program) (f : FuncId) (e : TypeId) (sz bts : Nat) : Prop where
  ent : Enters P f
  nil : ∀ n c w, Calls P f #[.slice none n c] w fun x w' => x = .returned (.slice none 0 0) ∧ w' = w
  cells : ∀ (ad : Addr) (n c : Nat) (news : List Value) (w : World), news.length = n * sz → n ≤ maxLen → n * bts ≤ 140737488355328 → (∀ j u, news[j]? = some u → w.cell? (ad.add j) = some u) → (∀ u ∈ news, u.oneCell' = true) →
    Calls P f #[.slice (some ad) n c] w fun x w' => ∃ v', x = .returned v' ∧ w'.ownsRow w.heap.size e sz v' n news ∧ Below w.heap.size w w'
theorem bts_pos (r : Rw) : 1 ≤ r.bts := by cases r <;> simp [Rw.bts, Rw.kd, kdBytes]
theorem clone_core {f kd : Nat} (hW : CloneW P f (τ.et kd) (kdSz kd) (kdBytes kd)) (hd : Den τ w0 E s bs w) {x : SV} {v : Value} {t : Tag} {r : Rw} (hx : vd3 E s.rows w x v) (h : srcOf s.rows x = some (t, r)) (hk : r.kd = kd) :
    r.len * r.bts ≤ 140737488355328 ∧ Calls P f #[v] w fun x w' => ∃ v' us, x = .returned v' ∧ w'.ownsRow w.heap.size (τ.et kd) r.sz v' r.len us ∧ Below w.heap.size w w' ∧ ∀ i j x, i < r.len → (r.cell .any i)[j]? = some x → ∃ u, us[i * r.sz + j]? = some u ∧ cd1 w (E.F t) x u := by
  obtain ⟨A, c, news, rfl, hnc, hfit, hnl, hcell, hcd⟩ := src_ok hd hx h
  refine ⟨hfit, ?_⟩
  have e1 : r.sz = kdSz kd := by unfold Rw.sz; rw [hk]
  have e2 : r.bts = kdBytes kd := by unfold Rw.bts; rw [hk]
  cases A with
  | none =>
    have h0 : r.len = 0 := by
      rcases Nat.eq_zero_or_pos r.len with h0 | h0
      · exact h0
      · obtain ⟨ad, hA, _⟩ := hcell h0; simp at hA
    refine (hW.nil r.len c w).mono ?_
    rintro e w' ⟨rfl, rfl⟩
    refine ⟨_, [], rfl, ?_, Below.refl _ _, fun i j x hi => by omega⟩
    rw [h0]
    exact World.ownsRow_nil _ _ _ _
  | some ad =>
    have hc : ∀ j u, news[j]? = some u → w.cell? (ad.add j) = some u := by
      intro j u hu
      have hlt := (List.getElem?_eq_some_iff.1 hu).1
      have hp : 0 < r.len := by
        rcases Nat.eq_zero_or_pos r.len with h0 | h0
        · rw [hnl, h0] at hlt; simp at hlt
        · exact h0
      obtain ⟨ad', hA, hh⟩ := hcell hp
      injection hA with hA
      subst hA
      exact hh j u hu
    have hb := bts_pos r
    have h63 : r.len ≤ maxLen := by
      have : r.len * 1 ≤ r.len * r.bts := Nat.mul_le_mul_left _ hb
      unfold maxLen
      omega
    refine (hW.cells ad r.len c news w (by rw [hnl, e1]) h63 (by rw [← e2]; exact hfit) hc (src_one hnl hcd)).mono ?_
    rintro e w' ⟨v', rfl, ho, hB⟩
    exact ⟨v', news, rfl, by rw [e1]; exact ho, hB, hcd⟩
theorem start0 (w : World) : Den τ w E0 ⟨[], [], [], [], 0⟩ [#[]] w := by
  refine ⟨Below.refl _ _, Nat.le_refl _, Nat.zero_le _, fun g hg => hg.elim, ?_, ?_, ?_, ?_, ?_, ?_⟩
  · intro i f hf
    cases i with
    | zero => simp at hf; subst hf; exact ⟨_, rfl, fun t => trivial⟩
    | succ i => simp at hf
  · intro k T cs hk; simp [lk] at hk
  · intro k e lo r hk; simp [lk] at hk
  · intro k k' b b' hk; simp [lk] at hk
  · intro k k' b e m hk; simp [lk] at hk
  · intro k k' e e' m m' g hk; simp [lk] at hk
/-- Of a row that leads nowhere: a contract. -/
theorem clone_known {α : Type} (A : Dec α) (R : α → Rw) (hA : ∀ a, A.e a = .row .any (R a)) (hR : ∀ a, (R a).flat = true) {f kd : Nat} (hkd : ∀ a, (R a).kd = kd) (hW : CloneW P f (τ.et kd) (kdSz kd) (kdBytes kd)) :
    Known P τ f (S1 A fun a => .ok (.own 0) [R a]) := by
  refine ⟨hW.ent, ?_⟩
  intro args vals w hargs
  unfold S1
  split
  · rename_i x
    split
    · rename_i a ha
      obtain rfl := A.ok _ _ ha
      obtain ⟨v, vs, rfl, h1, h2⟩ := hargs.inv_cons
      obtain rfl := h2.inv_nil
      rw [hA] at h1
      obtain ⟨hfit, hcall⟩ := clone_core (s := ⟨[], [], [], [], 0⟩) hW (start0 w) h1 (rfl : srcOf [] (.row .any (R a)) = some (.any, R a)) (hkd a)
      refine hcall.mono ?_
      rintro e w' ⟨v', us, rfl, ho, hB, hcd⟩
      refine ⟨v', rfl, hB, ⟨w.heap.size, w.heap.size, fun _ => 0, fun _ => v', fun g => v'.ownBlock = some g⟩, rfl, rfl, fun g hg => ?_, ?_, ?_, ?_⟩
      · exact ho.lt g hg
      · intro i r hi
        have : i = 0 ∧ r = R a := by
          cases i with
          | zero => simp at hi; exact ⟨rfl, hi.symm⟩
          | succ i => simp at hi
        obtain ⟨rfl, rfl⟩ := this
        refine ⟨fun g hg => hg, hfit, us, ?_, fun i j x hi hx => ?_⟩
        · rw [hkd a]; exact ho
        · obtain ⟨u, hu, hd⟩ := hcd i j x hi hx
          exact ⟨u, hu, (flat_sc (hR a) hx _ _ _ _ u).1 hd⟩
      · intro i j ri rj g hi hj hne
        have h1 : i = 0 := by cases i with
          | zero => rfl
          | succ i => simp at hi
        have h2 : j = 0 := by cases j with
          | zero => rfl
          | succ j => simp at hj
        omega
      · rfl
    · trivial
  · trivial
/-- At whatever type: an own row under key dep + q; what its elements lead to is aS it was. -/
def cloneT (kd q : Nat) : CallT := fun args s K => match args, s with
  | [x], ⟨fr, stk, bx, rw, dep⟩ => match srcOf rw x with
    | some (t, r) => match Nat.beq r.kd kd, St.has (own0 (dep + q)) ⟨fr, stk, bx, rw, dep⟩ with
      | true, false => match tagOk t r with
        | true => K (.own (dep + q)) ⟨fr, stk, bx, upd rw (dep + q) (.own r), dep⟩
        | false => K (.own (dep + q)) ⟨fr, stk, bx, upd rw (dep + q) (.part 0 r), dep⟩
      | _, _ => False
    | none => False
  | _, _ => False
theorem clone_tr {f kd : Nat} (q : Nat) (hW : CloneW P f (τ.et kd) (kdSz kd) (kdBytes kd)) : TrKnown P τ f (cloneT kd q) := by
  refine ⟨hW.ent, ?_⟩
  intro w0 E s aS w args vals K hd hargs hT
  obtain ⟨fr, stk, bx, rw', dep⟩ := s
  unfold cloneT at hT
  split at hT
  rotate_left
  · exact hT.elim
  rename_i s' x fr' stk' bx' rw2 dep' hs
  injection hs with e1 e2 e3 e4 e5
  subst e1; subst e2; subst e3; subst e4; subst e5
  obtain ⟨v, vs, rfl, h1, h2⟩ := hargs.inv_cons
  obtain rfl := h2.inv_nil
  split at hT
  rotate_left
  · exact hT.elim
  rename_i t r hsrc
  split at hT
  rotate_left
  · exact hT.elim
  rename_i hk hno
  have hk := Nat.eq_of_beq_eq_true hk
  obtain ⟨hfit, hcall⟩ := clone_core hW hd h1 hsrc hk
  refine hcall.mono ?_
  rintro e w' ⟨v', us, rfl, ho, hB, hcd⟩
  have key : ∀ ent lo, ent.mine = some (lo, r) → (lo = 0 ∨ tagOk t r = true) → ∃ E', Den τ w0 E' ⟨fr, stk, bx, upd rw' (dep + q) ent, dep⟩ aS w' ∧ E'.base = E.base ∧ E.M ≤ E'.M ∧ vd3 E' (upd rw' (dep + q) ent) w' (.own (dep + q)) v' := by
    intro ent lo hm hlo
    have hg : w.grownBy w' none := ⟨hB.os, hB.tape, hB.output, hB.size, fun k hk _ => hB.block k hk⟩
    have hk2 : Keeps E (E.add (dep + q) v') w w' := grown_keeps hg (fun g hg => by simp at hg) rfl (by
      rintro g (hg | hg)
      · exact .inl hg
      · exact .inr (ho.lt g hg).1)
    refine ⟨E.add (dep + q) v', hd.newRow (dep + q) hno w' hg v' ent lo r hm us (fun g hg => ho.lt g hg) hfit ?_ ?_, rfl, Nat.le_refl _, ?_⟩
    · rw [hk]; exact ownsRow_less hd.Mh ho
    · intro i j x hi hx
      obtain ⟨u, hu, hcd'⟩ := hcd i j x hi hx
      refine ⟨u, hu, ?_⟩
      split
      · rename_i hlt
        rcases hlo with rfl | hlo
        · omega
        · exact cd1.mono (tag_up hx hcd' hlo) (hk2.F _)
      · exact cd1.mono (cd1.any hcd') (hk2.F _)
    · simp only [vd3, vd2, vd1, vd0, lk_upd, if_true]
      cases ent with
      | own r => simp [Env.add]
      | part lo r => simp [Env.add]
      | shared t r => simp [Ent.mine] at hm
  split at hT
  · rename_i htag
    obtain ⟨E', h3, h4, h5, h6⟩ := key (.own r) r.len rfl (.inr htag)
    exact ⟨v', _, _, E', rfl, hT, h3, h4, h5, h6⟩
  · obtain ⟨E', h3, h4, h5, h6⟩ := key (.part 0 r) 0 rfl (.inl rfl)
    exact ⟨v', _, _, E', rfl, hT, h3, h4, h5, h6⟩
end
end Go.Proofs.Ytmgccphapkmmeaa

/- slices.Clone at one type: its walk. -/
namespace Go.Proofs.Ytmgccphapkmmeaa
open Go.RowKit
set_option maxHeartbeats 1000000 in
theorem w_CloneInts : CloneW Try.prog 67 3 1 8 := by
  obtain ⟨hk10, het, ti, hti, hsz, hby, _⟩ := tau_ok.rk 3 0 (by kernel_rfl)
  obtain ⟨x0, z, g1, g2, g3, g4, g5, g6⟩ := (tau_ok.ti _ ti hti).info
  have g2 : x0.size = 1 := g2.trans hsz
  have g3 : x0.bytes = 8 := g3.trans hby
  have g5 : z.cells.size = 1 := g5.trans hsz
  clear hk10 het g6
  have t22 : Try.prog.underlying 22 = some (.slice 3) := Try.underlying22
  have q22 : ∀ (w : World) (a : Option Addr) (n c n' c' : Nat), (binOp .eql 22 (.slice a n c) (.slice none n' c')).run Try.prog w = .ok (.bool a.isNone) w := fun w a n c n' c' => Lib.run_eql_slice_nil w _ _ a n c n' c' t22
  refine ⟨fnOk_enters (fn := Try.f67) (D := []) (by kernel_rfl) (by kernel_rfl), fun n c w => ?_, fun ad n c news w hl hn hbig hc h1 => ?_⟩
  · go_enter Try.func67, Try.ntmps67
    go_wp2
    go_ret
    exact ⟨rfl, rfl⟩
  · have A : Aside (∀ j u, news[j]? = some u → w.cell? (ad.add j) = some u) := hc
    clear hc
    go_enter Try.func67, Try.ntmps67
    go_wp2_with (at_builtin; refine wpList_append_own _ rfl _ _ 22 rfl w.heap.size 3 x0 z 1 8 t22 g1 g4 g2 g3 g5 (by decide) _ _ _ rfl (World.ownsRow_made w #[] 0 (Nat.le_refl _) (Nat.zero_le _) (by simp)) ad n c news rfl ?qc1 ?qc2 ?qc3 ?qc4 ?qc5 ?qc6 ?_)
    case qc1 => exact hl
    case qc2 =>
      intro j u hj
      exact Lib.cell?_alloc_some _ (A.out j u hj)
    case qc3 => exact h1
    case qc4 => rw [Nat.zero_add]; exact hn
    case qc5 => rw [Nat.zero_add]; exact hbig
    case qc6 => simp
    intro v' w1 hown hgrow hnil
    go_wp2
    go_ret
    refine ⟨v', rfl, by simpa using hown, ?_⟩
    exact ((Below.refl _ w).alloc (Nat.le_refl _) _).grown hgrow (by simp) (by intro k hk; simp [Value.ownBlock] at hk; omega)
theorem k_CloneInts : Known Try.prog tau 67 (S1 dInts fun l => .ok (.own 0) [.ints l]) := clone_known dInts .ints (fun _ => rfl) (fun _ => rfl) (kd := 0) (fun _ => rfl) w_CloneInts
end Go.Proofs.Ytmgccphapkmmeaa

/- slices.Clone at one type: its walk. -/
namespace Go.Proofs.Ytmgccphapkmmeaa
open Go.RowKit
set_option maxHeartbeats 1000000 in
theorem w_CloneMsgs : CloneW Try.prog 66 28 11 104 := by
  obtain ⟨hk10, het, ti, hti, hsz, hby, _⟩ := tau_ok.rk 28 7 (by kernel_rfl)
  obtain ⟨x0, z, g1, g2, g3, g4, g5, g6⟩ := (tau_ok.ti _ ti hti).info
  have g2 : x0.size = 11 := g2.trans hsz
  have g3 : x0.bytes = 104 := g3.trans hby
  have g5 : z.cells.size = 11 := g5.trans hsz
  clear hk10 het g6
  have t22 : Try.prog.underlying 35 = some (.slice 28) := Try.underlying35
  have q22 : ∀ (w : World) (a : Option Addr) (n c n' c' : Nat), (binOp .eql 35 (.slice a n c) (.slice none n' c')).run Try.prog w = .ok (.bool a.isNone) w := fun w a n c n' c' => Lib.run_eql_slice_nil w _ _ a n c n' c' t22
  refine ⟨fnOk_enters (fn := Try.f66) (D := []) (by kernel_rfl) (by kernel_rfl), fun n c w => ?_, fun ad n c news w hl hn hbig hc h1 => ?_⟩
  · go_enter Try.func66, Try.ntmps66
    go_wp2
    go_ret
    exact ⟨rfl, rfl⟩
  · have A : Aside (∀ j u, news[j]? = some u → w.cell? (ad.add j) = some u) := hc
    clear hc
    go_enter Try.func66, Try.ntmps66
    go_wp2_with (at_builtin; refine wpList_append_own _ rfl _ _ 35 rfl w.heap.size 28 x0 z 11 104 t22 g1 g4 g2 g3 g5 (by decide) _ _ _ rfl (World.ownsRow_made w #[] 0 (Nat.le_refl _) (Nat.zero_le _) (by simp)) ad n c news rfl ?qc1 ?qc2 ?qc3 ?qc4 ?qc5 ?qc6 ?_)
    case qc1 => exact hl
    case qc2 =>
      intro j u hj
      exact Lib.cell?_alloc_some _ (A.out j u hj)
    case qc3 => exact h1
    case qc4 => rw [Nat.zero_add]; exact hn
    case qc5 => rw [Nat.zero_add]; exact hbig
    case qc6 => simp
    intro v' w1 hown hgrow hnil
    go_wp2
    go_ret
    refine ⟨v', rfl, by simpa using hown, ?_⟩
    exact ((Below.refl _ w).alloc (Nat.le_refl _) _).grown hgrow (by simp) (by intro k hk; simp [Value.ownBlock] at hk; omega)
theorem t_CloneMsgs (q : Nat) : TrKnown Try.prog tau 66 (cloneT 7 q) := clone_tr q w_CloneMsgs
end Go.Proofs.Ytmgccphapkmmeaa

/- A symbolic executor for loaded Go code: rows of one's own that the library turns: Delete, Insert. -/
namespace Go.Proofs.Ytmgccphapkmmeaa
open Go.RowKit Go.Sort

/-! ### 1. A block's cells, laid -/
section
variable {P : Program} {w : World}
theorem putRow_heap {g : Nat} {cur F : Array Value} {e : TypeId} (h : w.heap[g]? = some (.cells cur e (0, 0))) (hs : F.size = cur.size) : (putRow id w g 0 F).heap[g]? = some (.cells F e (0, 0)) := by
  unfold putRow mapBlock
  simp only [Array.getElem?_modify, if_true, h, Option.map_some, onCells]
  congr 2
  unfold putCells
  refine Array.ext (by simp [hs]) fun t h1 h2 => ?_
  simp only [Array.getElem_mapIdx, Nat.zero_le, true_and, Nat.zero_add, Nat.sub_zero, id]
  rw [if_pos (by omega)]
  simp [h2]
theorem putRow_grown (w : World) (g : Nat) (F : Array Value) : w.grownBy (putRow id w g 0 F) (some g) := by
  refine ⟨rfl, rfl, rfl, by simp [putRow, mapBlock], fun k hk hne => ?_⟩
  unfold putRow mapBlock
  simp only [Array.getElem?_modify]
  rw [if_neg (fun e => hne (by rw [e]))]
theorem holds_of_heap {g : Nat} {cur : Array Value} {e : TypeId} (h : w.heap[g]? = some (.cells cur e (0, 0))) : Holds id w g 0 cur := by
  intro j hj
  refine ⟨?_, ?_⟩
  · simp only [World.cell?, h, Nat.zero_add, id]
    rw [getElem!_pos cur j hj]
    simp [hj]
  · simp [World.frozen?, h]
theorem run_clear_k (w : World) (t e ty : TypeId) (z : Value) (ht : P.underlying t = some (.slice e)) (hv : ∀ w, (zeroValue e).run P w = .ok z w) (h1 : ∀ u ∈ z.cells, u.oneCell' = true) (b o n c : Nat) (hn : 0 < n)
    (hc : ∀ j, j < n * z.cells.size → (w.cell? ⟨b, o + j, none⟩).isSome = true) (hf : ∀ j, j < n * z.cells.size → w.frozen? ⟨b, o + j, none⟩ = false) :
    (Builtin.clear_ #[t] ty #[.slice (some ⟨b, o, none⟩) n c]).run P w = .ok (.tuple #[]) (w.setCells b o (Builtin.zeroCells z.cells n).toList) := by
  have hl : (Builtin.zeroCells z.cells n).toList.length = n * z.cells.size := by simp [Builtin.zeroCells]
  have hst := run_storeCells_cells (P := P) b o (Builtin.zeroCells z.cells n).toList 0 w (by rw [hl]; simpa using hc) (by rw [hl]; simpa using hf) (by
    intro v hv'
    simp only [Builtin.zeroCells, Array.toList_map, List.mem_map] at hv'
    obtain ⟨i, hi, rfl⟩ := hv'
    have hz : 0 < z.cells.size := by
      rcases Nat.eq_zero_or_pos z.cells.size with h0 | h0
      · simp [h0] at hi
      · exact h0
    rw [getElem!_pos z.cells _ (Nat.mod_lt _ hz)]
    exact h1 _ (Array.getElem_mem _))
  simp only [Nat.add_zero] at hst
  obtain ⟨m, rfl⟩ : ∃ m, n = m + 1 := ⟨n - 1, by omega⟩
  simp [Builtin.clear_, run_underlying ht, hv, hst]
theorem zeroCells_len (z : Array Value) (n : Nat) : (Builtin.zeroCells z n).toList.length = n * z.size := by simp [Builtin.zeroCells]
/-- Cells, from place s on, laid over by others. -/
def layC (F : Array Value) (s : Nat) (vs : List Value) : Array Value := (F.toList.take s ++ vs ++ F.toList.drop (s + vs.length)).toArray
theorem layC_size {F : Array Value} {s : Nat} {vs : List Value} (h : s + vs.length ≤ F.size) : (layC F s vs).size = F.size := by
  simp [layC]
  omega
theorem layC_cons (F : Array Value) (s : Nat) (v : Value) (vs : List Value) (h : s + (v :: vs).length ≤ F.size) : layC (F.setIfInBounds s v) (s + 1) vs = layC F s (v :: vs) := by
  have h : s < F.toList.length := by simp at h ⊢; omega
  unfold layC
  congr 1
  rw [Array.toList_setIfInBounds]
  rw [List.take_succ_eq_append_getElem (by simpa using h), List.take_set_of_le (Nat.le_refl _), List.drop_set_of_lt (by omega)]
  simp only [List.getElem_set_self, List.append_assoc, List.cons_append, List.nil_append, List.length_cons]
  rw [show s + 1 + vs.length = s + (vs.length + 1) by omega]
theorem setCells_layC (w : World) (g : Nat) : ∀ (vs : List Value) (s : Nat) (F : Array Value), s + vs.length ≤ F.size → (putRow id w g 0 F).setCells g s vs = putRow id w g 0 (layC F s vs)
  | [], s, F, _ => by simp [layC, World.setCells]
  | v :: vs, s, F, h => by
    have h1 := putRow_set id w g 0 F s v (by simp at h; omega)
    rw [Nat.zero_add] at h1
    rw [World.setCells]
    have h2 : (putRow id w g 0 F).setCell ⟨g, s, none⟩ v = putRow id w g 0 (F.setIfInBounds s v) := h1
    rw [h2, setCells_layC w g vs (s + 1) _ (by simp at h ⊢; omega), layC_cons F s v vs h]
end
section
variable {P : Program} {τ : Tys}
theorem fit_one {y x : SV} {w : World} {u : Value} (h : Fit y x) (hd : vd0 E0 [] w y u) : u.oneCell' = true := by
  cases x <;> cases y <;> first
    | (obtain rfl : u = _ := hd; rfl)
    | (obtain ⟨_, A, c, rfl, _⟩ := hd; rfl)
    | (obtain ⟨rfl, _⟩ := hd; rfl)
    | exact False.elim h
    | (simp [Fit] at h; done)
/-- The zero value of a row's elements. -/
theorem zero_of (W : World) (hτ : TysOk P τ) {e kd : Nat} (h : τ.rk e = some kd) : ∃ x z, P.info? e = some x ∧ x.size = kdSz kd ∧ x.bytes = kdBytes kd ∧ x.zero = some z ∧ z.cells.size = kdSz kd ∧ (∀ u ∈ z.cells, u.oneCell' = true) ∧ ∀ w, (zeroValue e).run P w = .ok z w := by
  obtain ⟨hk10, het, ti, hti, hsz, hby, hfit, _⟩ := hτ.rk e kd h
  obtain ⟨x, z, g1, g2, g3, g4, g5, g6⟩ := (hτ.ti e ti hti).info
  refine ⟨x, z, g1, g2.trans hsz, g3.trans hby, g4, g5.trans hsz, ?_, fun w => by simp [zeroValue, typeInfo, g1, g4]⟩
  intro u hu
  obtain ⟨j, hj, rfl⟩ := List.getElem_of_mem (Array.mem_def.1 hu)
  have hl := g6 E0 [] W
  obtain ⟨y, hy, hfy⟩ : ∃ y, ti.zero[j]? = some y ∧ y ∈ ti.zero := by
    have hlt : j < ti.zero.length := by rw [hl.1]; exact hj
    exact ⟨_, List.getElem?_eq_getElem hlt, List.getElem_mem hlt⟩
  obtain ⟨u, hu, hd⟩ := hl.2 j y hy
  rw [List.getElem?_eq_getElem hj] at hu
  injection hu with hu
  rw [hu]
  obtain ⟨x', hx'⟩ : ∃ x', ((Rw.zeros kd 1).cell .any 0)[j]? = some x' := by
    have hlt : j < ((Rw.zeros kd 1).cell .any 0).length := by
      rw [← hfit.1, hl.1]; exact hj
    exact ⟨_, List.getElem?_eq_getElem hlt⟩
  obtain ⟨y', hy', hf⟩ := hfit.2 j x' hx'
  rw [hy] at hy'
  injection hy' with hy'
  subst hy'
  exact fit_one hf hd
end
end Go.Proofs.Ytmgccphapkmmeaa

/- A symbolic executor for loaded Go code: slices.Delete. -/
namespace Go.Proofs.Ytmgccphapkmmeaa
open Go.RowKit Go.Sort

/-- Without the elements from i on, up to j. -/
def Rw.del (i j : Nat) : Rw → Rw
  | .ints l => .ints (l.take i ++ l.drop j)
  | .bytes l => .bytes (l.take i ++ l.drop j)
  | .strs l => .strs (l.take i ++ l.drop j)
  | .peers l => .peers (l.take i ++ l.drop j)
  | .items l => .items (l.take i ++ l.drop j)
  | .tolds l => .tolds (l.take i ++ l.drop j)
  | .cuts l => .cuts (l.take i ++ l.drop j)
  | .msgs l => .msgs (l.take i ++ l.drop j)
  | .nodes l => .nodes (l.take i ++ l.drop j)
  | .acts l => .acts (l.take i ++ l.drop j)
theorem getD_del {α : Type} (l : List α) (i j m : Nat) (d : α) (hij : i ≤ j) (hj : j ≤ l.length) : (l.take i ++ l.drop j).getD m d = l.getD (if m < i then m else m + (j - i)) d := by
  have h1 : (l.take i).length = i := by simp; omega
  simp only [List.getD_eq_getElem?_getD]
  split
  · rename_i h
    rw [List.getElem?_append_left (by omega), List.getElem?_take_of_lt h]
  · rename_i h
    rw [List.getElem?_append_right (by omega), h1, List.getElem?_drop, show j + (m - i) = m + (j - i) by omega]
theorem del_cell (i j : Nat) (r : Rw) (hij : i ≤ j) (hj : j ≤ r.len) : (r.del i j).kd = r.kd ∧ (r.del i j).len = r.len - (j - i) ∧ ∀ t m, (r.del i j).cell t m = r.cell t (if m < i then m else m + (j - i)) := by
  cases r <;> (simp only [Rw.len] at hj; refine ⟨rfl, by simp [Rw.del, Rw.len]; omega, fun t m => ?_⟩; simp only [Rw.del, Rw.cell, getD_del _ _ _ _ _ hij hj])
/-- What is known of slices.Delete at one type: its walk. -/
structure DelW (P : Program) (f : FuncId) (e : TypeId) (sz : Nat) : Prop where
  ent : Enters P f
  nil : ∀ w, Calls P f #[.slice none 0 0, .int .i64 0, .int .i64 0] w fun x w' => x = .returned (.slice none 0 0) ∧ w' = w
  cells : ∀ (g cap n i j : Nat) (cur : Array Value) (w : World), w.heap[g]? = some (.cells cur e (0, 0)) → cur.size = cap * sz → n ≤ cap → cap ≤ maxLen → i ≤ j → j ≤ n → (∀ u ∈ cur.toList.take (n * sz), u.oneCell' = true) →
    Calls P f #[.slice (some ⟨g, 0, none⟩) n cap, .int .i64 i, .int .i64 j] w fun x w' => x = .returned (.slice (some ⟨g, 0, none⟩) (n - (j - i)) cap) ∧ w.grownBy w' (some g) ∧
      ∃ cur', w'.heap[g]? = some (.cells cur' e (0, 0)) ∧ cur'.size = cur.size ∧ cur'.toList.take ((n - (j - i)) * sz) = (cur.toList.take (n * sz)).take (i * sz) ++ (cur.toList.take (n * sz)).drop (j * sz)
/-- An own row, some elements taken out. -/
def deleteT (kd : Nat) : CallT := fun args s K => match args, s with
  | [.own k, .int .i64 i, .int .i64 j], ⟨fr, stk, bx, rw, dep⟩ => match lk rw k with
    | some (.own r) => match Nat.beq r.kd kd with
      | true => r.lenK fun n => Ob (0 ≤ i ∧ i ≤ j ∧ j ≤ (n : Int)) ∧ (0 ≤ i ∧ i ≤ j ∧ j ≤ (n : Int) → forceF (killF k fr) fun fr' => forceS (killS k stk) fun stk' => forceB (killB k bx) fun bx' =>
        K (.own k) ⟨fr', stk', bx', upd rw k (.own (r.del i.toNat j.toNat)), dep⟩)
      | false => False
    | _ => False
  | _, _ => False
section
variable {P : Program} {τ : Tys}
theorem own_news {E : Env} {w : World} {k : Nat} {r : Rw} (h : OwnD τ E w k r.len r) {us : List Value} (hl : us.length = r.len * r.sz) (hc : ∀ i j x, i < r.len → (r.cell .any i)[j]? = some x → ∃ u, us[i * r.sz + j]? = some u ∧ cd1 w (E.F (if i < r.len then .new else .any)) x u) : ∀ u ∈ us, u.oneCell' = true :=
  src_one (F := E.F .new) hl fun i j x hi hx => by
    obtain ⟨u, hu, hd⟩ := hc i j x hi hx
    rw [if_pos hi] at hd
    exact ⟨u, hu, hd⟩
theorem delete_tr {f kd : Nat} (hW : DelW P f (τ.et kd) (kdSz kd)) : TrKnown P τ f (deleteT kd) := by
  refine ⟨hW.ent, ?_⟩
  intro w0 E s aS w args vals K hd hargs hT
  obtain ⟨fr, stk, bx, rw', dep⟩ := s
  unfold deleteT at hT
  split at hT
  rotate_left
  · exact hT.elim
  rename_i s' k i j fr' stk' bx' rw2 dep' hs
  injection hs with e1 e2 e3 e4 e5
  subst e1; subst e2; subst e3; subst e4; subst e5
  obtain ⟨v, vs, rfl, h1, h2⟩ := hargs.inv_cons
  obtain ⟨v2, vs, rfl, h3, h2⟩ := h2.inv_cons
  obtain ⟨v3, vs, rfl, h4, h2⟩ := h2.inv_cons
  obtain rfl := h2.inv_nil
  obtain rfl : v2 = .int .i64 i := h3
  obtain rfl : v3 = .int .i64 j := h4
  split at hT
  rotate_left
  · exact hT.elim
  rename_i r hk
  have h1 : vd0 E rw' w (.own k) v := h1
  simp only [vd0] at h1
  rw [hk] at h1
  have h1 : v = E.hs k := h1
  subst h1
  split at hT
  rotate_left
  · exact hT.elim
  rename_i hkd
  have hkd := Nat.eq_of_beq_eq_true hkd
  rw [Rw.lenK_eq] at hT
  obtain ⟨hob, hT⟩ := hT
  have hb := hob.out
  have hT := hT hb
  simp only [forceF_eq, forceS_eq, forceB_eq] at hT
  obtain ⟨i', rfl⟩ := Int.eq_ofNat_of_zero_le hb.1
  obtain ⟨j', rfl⟩ := Int.eq_ofNat_of_zero_le (show 0 ≤ j by omega)
  simp only [Int.toNat_natCast] at hT
  have hij : i' ≤ j' := by omega
  have hjn : j' ≤ r.len := by omega
  obtain ⟨c1, c2, c3⟩ := del_cell i' j' r hij hjn
  have hO := hd.own k _ _ _ hk rfl
  obtain ⟨us, hrow, hc⟩ := hO.row
  have hone := own_news hO hrow.1 hc
  have hsz : r.sz = kdSz kd := by unfold Rw.sz; rw [hkd]
  have hsz' : (r.del i' j').sz = r.sz := Rw.sz_of_kd c1
  have hfits : (r.del i' j').len * (r.del i' j').bts ≤ 140737488355328 := by
    have : (r.del i' j').bts = r.bts := by unfold Rw.bts; rw [c1]
    rw [this, c2]
    exact Nat.le_trans (Nat.mul_le_mul_right _ (by omega)) hO.fits
  have hcell : ∀ (w' : World) (v' : Value), Keeps E (E.add k v') w w' → ∀ m q x, m < (r.del i' j').len → ((r.del i' j').cell .any m)[q]? = some x → ∃ u, (us.take (i' * r.sz) ++ us.drop (j' * r.sz))[m * (r.del i' j').sz + q]? = some u ∧ cd1 w' ((E.add k v').F (if m < (r.del i' j').len then .new else .any)) x u := by
    intro w' v' hkp m q x hm hx
    rw [c3] at hx
    have hq : q < r.sz := by
      have := (List.getElem?_eq_some_iff.1 hx).1
      rwa [cell_len] at this
    rw [c2] at hm
    have hlt : (if m < i' then m else m + (j' - i')) < r.len := by split <;> omega
    obtain ⟨u, hu, hdd⟩ := hc _ q x hlt hx
    refine ⟨u, ?_, ?_⟩
    · rw [hsz', ← hu]
      have hul := hrow.1
      have h6 : i' * r.sz ≤ us.length := by rw [hul]; exact Nat.mul_le_mul_right _ (by omega)
      have h7 : (us.take (i' * r.sz)).length = i' * r.sz := by simp; omega
      split
      · rename_i h8
        have : (m + 1) * r.sz ≤ i' * r.sz := Nat.mul_le_mul_right _ h8
        rw [Nat.succ_mul] at this
        rw [List.getElem?_append_left (by omega), List.getElem?_take_of_lt (by omega)]
      · rename_i h8
        have : i' * r.sz ≤ m * r.sz := Nat.mul_le_mul_right _ (by omega)
        rw [List.getElem?_append_right (by omega), h7, List.getElem?_drop]
        congr 1
        have e : (m + (j' - i')) * r.sz = m * r.sz + (j' * r.sz - i' * r.sz) := by rw [Nat.add_mul, Nat.mul_sub_right_distrib]
        have : i' * r.sz ≤ j' * r.sz := Nat.mul_le_mul_right _ hij
        omega
    · rw [c2, if_pos (by omega)]
      rw [if_pos hlt] at hdd
      exact cd1.mono hdd (hkp.F _)
  rcases hrow.2 with ⟨hv, h0⟩ | ⟨g, cap, cur, hv, hg, hheap, hnc, hcm, hcs, htake⟩
  · have hi0 : i' = 0 := by omega
    have hj0 : j' = 0 := by omega
    subst hi0; subst hj0
    rw [hv]
    refine (hW.nil w).mono ?_
    rintro e w' ⟨rfl, rfl⟩
    have hg : w'.grownBy w' (E.hs k).ownBlock := ⟨rfl, rfl, rfl, Nat.le_refl _, fun _ _ _ => rfl⟩
    have hkp : Keeps E (E.add k (.slice none 0 0)) w' w' := ⟨rfl, Nat.le_refl _, fun _ _ _ => rfl, by
      rintro g (hg | hg)
      · exact .inl hg
      · simp [Value.ownBlock] at hg⟩
    refine ⟨_, _, _, E.add k (.slice none 0 0), rfl, hT, hd.growRow k w' hg hk rfl (.slice none 0 0) (.own (r.del 0 0)) (r.del 0 0).len (r.del 0 0) rfl [] (fun g hg => by simp [Value.ownBlock] at hg) hfits ?_ (fun m q x hm => by rw [c2] at hm; omega), rfl, Nat.le_refl _, ?_⟩
    · rw [c2, h0]
      exact World.ownsRow_nil _ _ _ _
    · simp [vd3, vd2, vd1, vd0, lk_upd, Env.add]
  · rw [hv]
    refine (hW.cells g cap r.len i' j' cur w (by rw [← hkd]; exact hheap) (by rw [← hsz]; exact hcs) hnc hcm hij hjn (by rw [← hsz, htake]; exact hone)).mono ?_
    rintro e w' ⟨rfl, hgr, cur', hheap', hsize', htake'⟩
    have hob' : (E.hs k).ownBlock = some g := by rw [hv]; rfl
    rw [← hsz, htake] at htake'
    have hkp : Keeps E (E.add k (.slice (some ⟨g, 0, none⟩) (r.len - (j' - i')) cap)) w w' := grown_keeps (row := some g) hgr (fun g' hg' => by injection hg' with hg'; subst hg'; exact hO.ow _ hob') rfl (by
      rintro g' (hg' | hg')
      · exact .inl hg'
      · simp [Value.ownBlock] at hg'; subst hg'; exact .inl (hO.ow _ hob'))
    refine ⟨_, _, _, E.add k (.slice (some ⟨g, 0, none⟩) (r.len - (j' - i')) cap), rfl, hT, hd.growRow k w' (by rw [hob']; exact hgr) hk rfl _ (.own (r.del i' j')) (r.del i' j').len (r.del i' j') rfl (us.take (i' * r.sz) ++ us.drop (j' * r.sz))
      (fun g' hg' => ?_) hfits ?_ (hcell w' _ hkp), rfl, Nat.le_refl _, ?_⟩
    · simp [Value.ownBlock] at hg'
      subst hg'
      exact ⟨.inr hob'.symm, (Array.getElem?_eq_some_iff.1 hheap').1⟩
    · rw [c1, hsz', c2]
      refine ⟨?_, .inr ⟨g, cap, cur', rfl, hg, by rw [hkd]; exact hheap', by omega, hcm, by rw [hsize']; exact hcs, htake'⟩⟩
      rw [← htake', List.length_take, Array.length_toList, hsize', hcs]
      exact Nat.min_eq_left (Nat.mul_le_mul_right _ (by omega))
    · simp [vd3, vd2, vd1, vd0, lk_upd, Env.add]
end
end Go.Proofs.Ytmgccphapkmmeaa

/- slices.Delete at one type: its walk. -/
namespace Go.Proofs.Ytmgccphapkmmeaa
open Go.RowKit Go.Sort
set_option maxHeartbeats 4000000 in
set_option maxRecDepth 1000000 in
theorem w_DeleteMsgs : DelW Try.prog 54 28 11 := by
  refine ⟨fnOk_enters (fn := Try.f54) (D := [(5, [(0, 0), (1, 0), (2, 3), (3, 0), (4, 0), (5, 24), (6, 36), (7, 127)])]) (by kernel_rfl) (by kernel_rfl), fun w => ?_, fun g cap n i j cur w hheap hcs hnc hcm hij hjn hone => ?_⟩
  · go_enter Try.func54, Try.ntmps54
    go_wp2
    go_ret
    exact ⟨rfl, rfl⟩
  · have hnb : n * 11 ≤ cur.size := by rw [hcs]; exact Nat.mul_le_mul_right _ hnc
    by_cases heq : i = j
    · subst heq
      have h0 : Calls Try.prog 54 #[.slice (some ⟨g, 0, none⟩) n cap, .int .i64 i, .int .i64 i] w fun x w' => x = .returned (.slice (some ⟨g, 0, none⟩) n cap) ∧ w' = w := by
        have hcm' : cap ≤ 9223372036854775807 := hcm
        clear hheap hone
        go_enter Try.func54, Try.ntmps54
        go_wp2
        all_goals (go_ret; exact ⟨rfl, rfl⟩)
      refine h0.mono ?_
      rintro e w' ⟨rfl, rfl⟩
      refine ⟨by rw [Nat.sub_self, Nat.sub_zero], ⟨rfl, rfl, rfl, Nat.le_refl _, fun _ _ _ => rfl⟩, cur, hheap, rfl, ?_⟩
      rw [Nat.sub_self, Nat.sub_zero, List.take_append_drop]
    · have hlt : i < j := by omega
      obtain ⟨x0, z, g1, g2, g3, g4, g5, g6, g7⟩ := zero_of w tau_ok (e := 28) (kd := 7) (by kernel_rfl)
      have g2 : x0.size = 11 := g2
      have g5 : z.cells.size = 11 := g5
      have t22 : Try.prog.underlying 35 = some (.slice 28) := Try.underlying35
      have hH := holds_of_heap hheap
      obtain ⟨news, hnews⟩ : ∃ news, news = (cur.toList.take (n * 11)).drop (j * 11) := ⟨_, rfl⟩
      have hlen : news.length = (n - j) * 11 := by rw [hnews]; simp; omega
      have hget : ∀ t, t < (n - j) * 11 → news[t]? = some (cur[j * 11 + t]!) := by
        intro t ht
        rw [hnews, List.getElem?_drop, List.getElem?_take_of_lt (by omega), Array.getElem?_toList, getElem!_pos cur (j * 11 + t) (by omega), Array.getElem?_eq_getElem (by omega)]
      obtain ⟨A, hA, hsrc⟩ : ∃ A : Addr, (if cap = j then some (⟨g, 0, none⟩ : Addr) else some ⟨g, j * 11, none⟩) = some A ∧ Hid (∀ t u, news[t]? = some u → w.drew.cell? (A.add t) = some u) := by
        by_cases h : cap = j
        · refine ⟨⟨g, 0, none⟩, by simp [h], fun t u hu => ?_⟩
          have h0 : news.length = 0 := by rw [hlen]; omega
          rw [List.length_eq_zero_iff.1 h0] at hu
          simp at hu
        · refine ⟨⟨g, j * 11, none⟩, by simp [h], fun t u hu => ?_⟩
          have ht : t < (n - j) * 11 := by
            have := (List.getElem?_eq_some_iff.1 hu).1
            rwa [hlen] at this
          rw [hget t ht] at hu
          rw [Addr.add_lit]
          have := (hH (j * 11 + t) (by omega)).1
          rw [Nat.zero_add] at this
          exact this.trans hu
      have s1 : Hid (news.length = (n - j) * 11) := hlen
      have s2 : Hid (∀ u ∈ news, u.oneCell' = true) := by
        intro u hu
        rw [hnews] at hu
        exact hone u (List.mem_of_mem_drop hu)
      have s3 : Hid (∀ t, t < news.length → (w.drew.cell? ⟨g, 0 + i * 11 + t, none⟩).isSome = true ∧ w.drew.frozen? ⟨g, 0 + i * 11 + t, none⟩ = false) := by
        intro t ht
        rw [hlen] at ht
        have h3 := hH (i * 11 + t) (by omega)
        rw [Nat.add_assoc]
        exact ⟨by show (w.cell? _).isSome = true; rw [h3.1]; rfl, h3.2⟩
      obtain ⟨W1, hW1⟩ : ∃ W1, W1 = w.drew.setCells g (0 + i * 11) news := ⟨_, rfl⟩
      have hdr : w.drew.heap[g]? = some (.cells cur 28 (0, 0)) := hheap
      have hin : i * 11 + news.length ≤ cur.size := by rw [hlen]; omega
      have hW1' : W1 = putRow id w.drew g 0 (layC cur (i * 11) news) := by
        rw [hW1, Nat.zero_add, ← setCells_layC w.drew g news (i * 11) cur hin, putRow_self id w.drew g 0 cur (holds_of_heap hdr)]
      obtain ⟨c1, hc1⟩ : ∃ c1, c1 = layC cur (i * 11) news := ⟨_, rfl⟩
      have hc1s : c1.size = cur.size := by rw [hc1]; exact layC_size hin
      rw [← hc1] at hW1'
      have hheap1 : W1.heap[g]? = some (.cells c1 28 (0, 0)) := by rw [hW1']; exact putRow_heap hdr hc1s
      have hH1 := holds_of_heap hheap1
      have hin2 : (i + (n - j)) * 11 + (n - (i + (n - j))) * 11 ≤ c1.size := by rw [hc1s]; omega
      have hcl : ∀ ty, (Builtin.clear_ #[35] ty #[.slice (some ⟨g, (i + (n - j)) * 11, none⟩) (n - (i + (n - j))) (cap - (i + (n - j)))]).run Try.prog W1 = .ok (.tuple #[]) (W1.setCells g ((i + (n - j)) * 11) (Builtin.zeroCells z.cells (n - (i + (n - j)))).toList) :=
        fun ty => run_clear_k W1 _ _ ty z t22 g7 g6 g _ _ _ (by omega) (fun t ht => by
          rw [g5] at ht
          have := (hH1 ((i + (n - j)) * 11 + t) (by omega)).1
          rw [Nat.zero_add] at this
          rw [this]; rfl) (fun t ht => by
          rw [g5] at ht
          have := (hH1 ((i + (n - j)) * 11 + t) (by omega)).2
          rwa [Nat.zero_add] at this)
      have hz := zeroCells_len z.cells (n - (i + (n - j)))
      rw [g5] at hz
      obtain ⟨zl, hzl⟩ : ∃ zl, zl = (Builtin.zeroCells z.cells (n - (i + (n - j)))).toList := ⟨_, rfl⟩
      rw [← hzl] at hz
      simp only [← hzl] at hcl
      have X : Hid (W1 = putRow id w.drew g 0 c1) := hW1'
      have HZ : Hid (zl.length = (n - (i + (n - j))) * 11) := hz
      have hW : Hid (W1 = w.drew.setCells g (0 + i * 11) news) := hW1
      have Y : Hid (c1 = layC cur (i * 11) news) := hc1
      have Z : Hid (news = (cur.toList.take (n * 11)).drop (j * 11)) := hnews
      have HD : Hid (w.drew.heap[g]? = some (.cells cur 28 (0, 0))) := hdr
      have hic : i ≤ cap := by omega
      have hjc : j ≤ cap := by omega
      have hcm' : cap ≤ 9223372036854775807 := hcm
      clear hW1 hW1' hH1 hH hget hnews hc1 hheap hheap1 hdr hone hz hzl g7 g6 g4
      have mixed := hmix
      go_enter Try.func54, Try.ntmps54
      go_wp2_with fail
      go_region_law_o (refine step_append_room rfl (.tmp 22) (.tmp 25) 35 rfl 28 x0 11 t22 g1 g2 g 0 i cap (by simp [Act.eval, Act.put]) A (n - j) (cap - j) news (by simp [Act.eval, Act.put]) s1.out hsrc.out s2.out (by omega) s3.out ?_; rw [← hW.out])
      go_wp2
      go_ret
      have hz := HZ.out
      refine ⟨by rw [show n - (j - i) = i + (n - j) by omega]; rfl, ?_, layC c1 ((i + (n - j)) * 11) zl, ?_, ?_, ?_⟩
      · rw [X.out, setCells_layC _ _ _ _ _ (by rw [hz]; exact hin2)]
        have hgr := putRow_grown w.drew g (layC c1 ((i + (n - j)) * 11) zl)
        exact ⟨hgr.os, hgr.tape, hgr.output, hgr.size, hgr.block⟩
      · rw [X.out, setCells_layC _ _ _ _ _ (by rw [hz]; exact hin2)]
        exact putRow_heap HD.out (by rw [layC_size (by rw [hz]; exact hin2), hc1s])
      · rw [layC_size (by rw [hz]; exact hin2), hc1s]
      · have e1 : (n - (j - i)) * 11 = (i + (n - j)) * 11 := by omega
        have e2 : (cur.toList.take (i * 11)).length = i * 11 := by simp; omega
        rw [e1]
        unfold layC
        rw [List.append_assoc, List.take_append_of_le_length (by simp [hc1s]; omega), List.take_take, Nat.min_self, Y.out]
        unfold layC
        rw [List.take_append_of_le_length (by rw [List.length_append, e2, s1.out]; omega), List.take_of_length_le (by rw [List.length_append, e2, s1.out]; omega), List.take_take, Nat.min_eq_left (by omega), Z.out]
theorem t_DeleteMsgs : TrKnown Try.prog tau 54 (deleteT 7) := delete_tr w_DeleteMsgs
end Go.Proofs.Ytmgccphapkmmeaa

/- Contracts: queues: may they be. -/
namespace Go.Proofs.Ytmgccphapkmmeaa
open Go.RowKit

/-- Where the first one is of which p holds; -1: nowhere. -/
def idxI {α : Type} (p : α → Bool) (l : List α) : Int := match l.findIdx? p with
  | some i => (i : Int)
  | none => -1
theorem idxI_at {α : Type} {p : α → Bool} {l : List α} {i : Nat} {d : α} (hi : i < l.length) (h : ∀ x ∈ l.take i, p x = false) (hp : p (l.getD i d) = true) : idxI p l = i := by
  have : l.findIdx? p = some i := by
    rw [List.findIdx?_eq_some_iff_getElem]
    refine ⟨hi, by simpa [List.getD_eq_getElem?_getD, hi] using hp, fun j hj => ?_⟩
    have := h l[j] (by
      rw [List.mem_take_iff_getElem]
      exact ⟨j, by omega, rfl⟩)
    simpa using this
  simp [idxI, this]
theorem idxI_none {α : Type} {p : α → Bool} {l : List α} (h : ∀ x ∈ l, p x = false) : idxI p l = -1 := by
  have : l.findIdx? p = none := by simpa [List.findIdx?_eq_none_iff] using h
  simp [idxI, this]
theorem idxI_ge {α : Type} (p : α → Bool) (l : List α) : decide (0 ≤ idxI p l) = l.any p := by
  cases h : l.any p with
  | true =>
    have : l.findIdx? p ≠ none := by
      intro e
      rw [List.findIdx?_eq_none_iff] at e
      simp only [List.any_eq_true] at h
      obtain ⟨x, hx, hp⟩ := h
      rw [e x hx] at hp
      simp at hp
    obtain ⟨i, hi⟩ := Option.ne_none_iff_exists'.1 this
    simp [idxI, hi]
  | false =>
    rw [idxI_none (fun x hx => by
      have := List.any_eq_false.1 h x hx
      simpa using this)]
    rfl
theorem etaMsg (m : GMsg) : (⟨m.kind, m.src, m.dst, m.ids, m.key, ⟨m.item.key, ⟨m.item.ver.count, m.item.ver.writer⟩, m.item.value, m.item.gone⟩, m.has⟩ : GMsg) = m := rfl
def queueB (l : List GMsg) : Bool := decide ((l.length : Int) ≤ 512) && l.all mayB
theorem queueB_no {l : List GMsg} (h : l.all mayB = false) : queueB l = false := by unfold queueB; rw [h, Bool.and_false]
theorem k_qMay1 : Known Try.prog tau 55 (S1 dMsg fun m => okB (!mayB m)) := by
  refine known1 hmix tau_ok (ctx_cons k_MsgMay ctx_nil) (fn := Try.f55) (by kernel_rfl) [] (by kernel_rfl) _ _ fun m hfit => ⟨rfl, [], ?_⟩
  (repeat' (first | ((with_reducible refine body_intro ?_); (first | refine seq_intro (fun Kv hN hX hR => ?_) | (conv => whnf))) | with_reducible refine body_stop (fun Kv hN hX hR => ?_) | with_reducible refine Stop.mk ?_ | with_reducible refine DrawJ.each ?_ | with_reducible exact SubJ.self _ | with_reducible refine SubJ.of ?_ | with_reducible refine seq_intro (fun Kv hN hX hR => ?_) | (with_reducible refine hN _ ?_; clear hN hX hR; clear Kv) | (with_reducible refine hX _ _ ?_; clear hN hX hR; clear Kv) | (with_reducible refine hR _ ?_; clear hN hX hR; clear Kv) | ((conv => whnf); first | with_reducible rfl | with_reducible exact True.intro | with_reducible intro _ | with_reducible refine And.intro ?_ ?_ | (with_reducible refine hN _ ?_; clear hN hX hR; clear Kv) | (with_reducible refine hX _ _ ?_; clear hN hX hR; clear Kv) | (with_reducible refine hR _ ?_; clear hN hX hR; clear Kv) | with_reducible refine body_stop (fun Kv hN hX hR => ?_) | with_reducible refine Stop.mk ?_ | with_reducible refine DrawJ.each ?_ | with_reducible exact SubJ.self _ | with_reducible refine SubJ.of ?_))); all_goals (conv => whnf); all_goals (repeat (clear hN hX hR; clear Kv))
theorem k_qIndex : Known Try.prog tau 68 (S2 dMsgs (dFn 55) fun l _ => .ok (.int .i64 (idxI (fun m => !mayB m) l)) []) := by
  refine known2 hmix tau_ok (ctx_cons k_qMay1 ctx_nil) (fn := Try.f68) (by kernel_rfl) [] (by kernel_rfl) _ _ _ fun xs _ hfit => ⟨rfl,
    [(2, invN [4, 5, 8, 9, 10, 11, 12, 13, 14, 15, 16, 17, 18] (fun i => i ≤ xs.length ∧ ∀ x ∈ xs.take i, (!mayB x) = false) (fun i => withS [(8, .int .i64 i)]) (fun i => xs.length - i))], ?_⟩
  have hlen : xs.length * 104 ≤ 140737488355328 := hfit.1.1
  clear hfit
  (repeat' (first | ((with_reducible refine body_intro ?_); (first | refine seq_intro (fun Kv hN hX hR => ?_) | (conv => whnf))) | with_reducible refine body_stop (fun Kv hN hX hR => ?_) | with_reducible refine Stop.mk ?_ | with_reducible refine DrawJ.each ?_ | with_reducible exact SubJ.self _ | with_reducible refine SubJ.of ?_ | with_reducible refine seq_intro (fun Kv hN hX hR => ?_) | (with_reducible refine hN _ ?_; clear hN hX hR; clear Kv) | (with_reducible refine hX _ _ ?_; clear hN hX hR; clear Kv) | (with_reducible refine hR _ ?_; clear hN hX hR; clear Kv) | ((conv => whnf); first | with_reducible rfl | with_reducible exact True.intro | with_reducible refine (fun (_ : (_ : Prop)) => ?_) | with_reducible refine And.intro ?_ ?_ | (with_reducible refine hN _ ?_; clear hN hX hR; clear Kv) | (with_reducible refine hX _ _ ?_; clear hN hX hR; clear Kv) | (with_reducible refine hR _ ?_; clear hN hX hR; clear Kv) | with_reducible refine body_stop (fun Kv hN hX hR => ?_) | with_reducible refine Stop.mk ?_ | with_reducible refine DrawJ.each ?_ | with_reducible exact SubJ.self _ | with_reducible refine SubJ.of ?_))); all_goals (conv => whnf); all_goals (repeat (clear hN hX hR; clear Kv))
  all_goals first
    | (refine ⟨0, ⟨by omega, by simp⟩, ?_⟩
       (repeat' (first | ((with_reducible refine body_intro ?_); (first | refine seq_intro (fun Kv hN hX hR => ?_) | (conv => whnf))) | with_reducible refine body_stop (fun Kv hN hX hR => ?_) | with_reducible refine Stop.mk ?_ | with_reducible refine DrawJ.each ?_ | with_reducible exact SubJ.self _ | with_reducible refine SubJ.of ?_ | with_reducible refine seq_intro (fun Kv hN hX hR => ?_) | (with_reducible refine hN _ ?_; clear hN hX hR; clear Kv) | (with_reducible refine hX _ _ ?_; clear hN hX hR; clear Kv) | (with_reducible refine hR _ ?_; clear hN hX hR; clear Kv) | ((conv => whnf); first | with_reducible rfl | with_reducible exact True.intro | with_reducible intro _ | with_reducible refine And.intro ?_ ?_ | (with_reducible refine hN _ ?_; clear hN hX hR; clear Kv) | (with_reducible refine hX _ _ ?_; clear hN hX hR; clear Kv) | (with_reducible refine hR _ ?_; clear hN hX hR; clear Kv) | with_reducible refine body_stop (fun Kv hN hX hR => ?_) | with_reducible refine Stop.mk ?_ | with_reducible refine DrawJ.each ?_ | with_reducible exact SubJ.self _ | with_reducible refine SubJ.of ?_))); all_goals (conv => whnf); all_goals (repeat (clear hN hX hR; clear Kv))
       all_goals rfl)
    | (with_reducible intro i hi
       (repeat' (first | ((with_reducible refine body_intro ?_); (first | refine seq_intro (fun Kv hN hX hR => ?_) | (conv => whnf))) | with_reducible refine body_stop (fun Kv hN hX hR => ?_) | with_reducible refine Stop.mk ?_ | with_reducible refine DrawJ.each ?_ | with_reducible exact SubJ.self _ | with_reducible refine SubJ.of ?_ | with_reducible refine seq_intro (fun Kv hN hX hR => ?_) | (with_reducible refine hN _ ?_; clear hN hX hR; clear Kv) | (with_reducible refine hX _ _ ?_; clear hN hX hR; clear Kv) | (with_reducible refine hR _ ?_; clear hN hX hR; clear Kv) | ((conv => whnf); first | with_reducible rfl | with_reducible exact True.intro | with_reducible intro _ | with_reducible refine And.intro ?_ ?_ | (with_reducible refine hN _ ?_; clear hN hX hR; clear Kv) | (with_reducible refine hX _ _ ?_; clear hN hX hR; clear Kv) | (with_reducible refine hR _ ?_; clear hN hX hR; clear Kv) | with_reducible refine body_stop (fun Kv hN hX hR => ?_) | with_reducible refine Stop.mk ?_ | with_reducible refine DrawJ.each ?_ | with_reducible exact SubJ.self _ | with_reducible refine SubJ.of ?_))); all_goals (conv => whnf); all_goals (repeat (clear hN hX hR; clear Kv))
       all_goals (try simp only [Int.toNat_natCast, etaMsg] at *)
       all_goals first
         | exact Ob.mk ⟨by omega, of_decide_eq_true (by with_reducible assumption)⟩
         | (have h := of_decide_eq_true (show decide ((i : Int) < (xs.length : Nat)) = true by with_reducible assumption)
            exact (idxI_at (d := default) (by omega) hi.2 (by with_reducible assumption)).symm)
         | (have h := of_decide_eq_true (show decide ((i : Int) < (xs.length : Nat)) = true by with_reducible assumption)
            refine ⟨i + 1, ⟨by omega, all_take_succ (d := default) (by omega) hi.2 (by with_reducible assumption)⟩, by show xs.length - (i + 1) < xs.length - i; omega, ?_⟩
            (repeat' (first | ((with_reducible refine body_intro ?_); (first | refine seq_intro (fun Kv hN hX hR => ?_) | (conv => whnf))) | with_reducible refine body_stop (fun Kv hN hX hR => ?_) | with_reducible refine Stop.mk ?_ | with_reducible refine DrawJ.each ?_ | with_reducible exact SubJ.self _ | with_reducible refine SubJ.of ?_ | with_reducible refine seq_intro (fun Kv hN hX hR => ?_) | (with_reducible refine hN _ ?_; clear hN hX hR; clear Kv) | (with_reducible refine hX _ _ ?_; clear hN hX hR; clear Kv) | (with_reducible refine hR _ ?_; clear hN hX hR; clear Kv) | ((conv => whnf); first | with_reducible rfl | with_reducible exact True.intro | with_reducible intro _ | with_reducible refine And.intro ?_ ?_ | (with_reducible refine hN _ ?_; clear hN hX hR; clear Kv) | (with_reducible refine hX _ _ ?_; clear hN hX hR; clear Kv) | (with_reducible refine hR _ ?_; clear hN hX hR; clear Kv) | with_reducible refine body_stop (fun Kv hN hX hR => ?_) | with_reducible refine Stop.mk ?_ | with_reducible refine DrawJ.each ?_ | with_reducible exact SubJ.self _ | with_reducible refine SubJ.of ?_))); all_goals (conv => whnf); all_goals (repeat (clear hN hX hR; clear Kv))
            all_goals first
              | exact wrapI (by omega) (by omega)
              | rfl)
         | (have h := of_decide_eq_false (show decide ((i : Int) < (xs.length : Nat)) = false by with_reducible assumption)
            have h2 := hi.2
            rw [List.take_of_length_le (by omega)] at h2
            exact (idxI_none h2).symm)
         | skip)
    | skip
theorem k_qContains : Known Try.prog tau 56 (S2 dMsgs (dFn 55) fun l _ => okB (l.any fun m => !mayB m)) := by
  refine known2 hmix tau_ok (ctx_cons k_qIndex ctx_nil) (fn := Try.f56) (by kernel_rfl) [] (by kernel_rfl) _ _ _ fun xs _ hfit => ⟨rfl, [], ?_⟩
  (repeat' (first | ((with_reducible refine body_intro ?_); (first | refine seq_intro (fun Kv hN hX hR => ?_) | (conv => whnf))) | with_reducible refine body_stop (fun Kv hN hX hR => ?_) | with_reducible refine Stop.mk ?_ | with_reducible refine DrawJ.each ?_ | with_reducible exact SubJ.self _ | with_reducible refine SubJ.of ?_ | with_reducible refine seq_intro (fun Kv hN hX hR => ?_) | (with_reducible refine hN _ ?_; clear hN hX hR; clear Kv) | (with_reducible refine hX _ _ ?_; clear hN hX hR; clear Kv) | (with_reducible refine hR _ ?_; clear hN hX hR; clear Kv) | ((conv => whnf); first | with_reducible rfl | with_reducible exact True.intro | with_reducible intro _ | with_reducible refine And.intro ?_ ?_ | (with_reducible refine hN _ ?_; clear hN hX hR; clear Kv) | (with_reducible refine hX _ _ ?_; clear hN hX hR; clear Kv) | (with_reducible refine hR _ ?_; clear hN hX hR; clear Kv) | with_reducible refine body_stop (fun Kv hN hX hR => ?_) | with_reducible refine Stop.mk ?_ | with_reducible refine DrawJ.each ?_ | with_reducible exact SubJ.self _ | with_reducible refine SubJ.of ?_))); all_goals (conv => whnf); all_goals (repeat (clear hN hX hR; clear Kv))
  exact idxI_ge _ _
theorem any_not {α : Type} (p : α → Bool) (l : List α) : (l.any fun m => !p m) = !l.all p := by
  induction l with
  | nil => rfl
  | cons x l ih => simp [ih]
theorem k_qMay : Known Try.prog tau 33 (S1 dMsgs fun l => okB (queueB l)) := by
  refine known1 hmix tau_ok (ctx_cons k_qContains ctx_nil) (fn := Try.f33) (by kernel_rfl) [] (by kernel_rfl) _ _ fun xs hfit => ⟨rfl, [], ?_⟩
  clear hfit
  (repeat' (first | ((with_reducible refine body_intro ?_); (first | refine seq_intro (fun Kv hN hX hR => ?_) | (conv => whnf))) | with_reducible refine body_stop (fun Kv hN hX hR => ?_) | with_reducible refine Stop.mk ?_ | with_reducible refine DrawJ.each ?_ | with_reducible exact SubJ.self _ | with_reducible refine SubJ.of ?_ | with_reducible refine seq_intro (fun Kv hN hX hR => ?_) | (with_reducible refine hN _ ?_; clear hN hX hR; clear Kv) | (with_reducible refine hX _ _ ?_; clear hN hX hR; clear Kv) | (with_reducible refine hR _ ?_; clear hN hX hR; clear Kv) | ((conv => whnf); first | with_reducible rfl | with_reducible exact True.intro | with_reducible intro _ | with_reducible refine And.intro ?_ ?_ | (with_reducible refine hN _ ?_; clear hN hX hR; clear Kv) | (with_reducible refine hX _ _ ?_; clear hN hX hR; clear Kv) | (with_reducible refine hR _ ?_; clear hN hX hR; clear Kv) | with_reducible refine body_stop (fun Kv hN hX hR => ?_) | with_reducible refine Stop.mk ?_ | with_reducible refine DrawJ.each ?_ | with_reducible exact SubJ.self _ | with_reducible refine SubJ.of ?_))); all_goals (conv => whnf); all_goals (repeat (clear hN hX hR; clear Kv))
  all_goals (cases hA : xs.all mayB <;> simp_all [queueB, any_not] <;> omega)
theorem k_refQueueMay : Known Try.prog tau 34 (S1 dMsgs fun l => okB (queueB l)) := by
  refine known1 hmix tau_ok (ctx_cons k_refMsg ctx_nil) (fn := Try.f34) (by kernel_rfl) [] (by kernel_rfl) _ _ fun xs hfit => ⟨rfl,
    [(2, invN [2, 3, 4, 5, 6, 7, 8, 9, 10, 11, 12, 13, 14, 15] (fun i => i ≤ xs.length ∧ ∀ x ∈ xs.take i, mayB x = true) (fun i => withS [(3, .int .i64 i)]) (fun i => xs.length - i))], ?_⟩
  have hlen : xs.length * 104 ≤ 140737488355328 := hfit.1.1
  clear hfit
  (repeat' (first | ((with_reducible refine body_intro ?_); (first | refine seq_intro (fun Kv hN hX hR => ?_) | (conv => whnf))) | with_reducible refine body_stop (fun Kv hN hX hR => ?_) | with_reducible refine Stop.mk ?_ | with_reducible refine DrawJ.each ?_ | with_reducible exact SubJ.self _ | with_reducible refine SubJ.of ?_ | with_reducible refine seq_intro (fun Kv hN hX hR => ?_) | (with_reducible refine hN _ ?_; clear hN hX hR; clear Kv) | (with_reducible refine hX _ _ ?_; clear hN hX hR; clear Kv) | (with_reducible refine hR _ ?_; clear hN hX hR; clear Kv) | ((conv => whnf); first | with_reducible rfl | with_reducible exact True.intro | with_reducible refine (fun (_ : (_ : Prop)) => ?_) | with_reducible refine And.intro ?_ ?_ | (with_reducible refine hN _ ?_; clear hN hX hR; clear Kv) | (with_reducible refine hX _ _ ?_; clear hN hX hR; clear Kv) | (with_reducible refine hR _ ?_; clear hN hX hR; clear Kv) | with_reducible refine body_stop (fun Kv hN hX hR => ?_) | with_reducible refine Stop.mk ?_ | with_reducible refine DrawJ.each ?_ | with_reducible exact SubJ.self _ | with_reducible refine SubJ.of ?_))); all_goals (conv => whnf); all_goals (repeat (clear hN hX hR; clear Kv))
  all_goals first
    | (refine ⟨0, ⟨by omega, by simp⟩, ?_⟩
       (repeat' (first | ((with_reducible refine body_intro ?_); (first | refine seq_intro (fun Kv hN hX hR => ?_) | (conv => whnf))) | with_reducible refine body_stop (fun Kv hN hX hR => ?_) | with_reducible refine Stop.mk ?_ | with_reducible refine DrawJ.each ?_ | with_reducible exact SubJ.self _ | with_reducible refine SubJ.of ?_ | with_reducible refine seq_intro (fun Kv hN hX hR => ?_) | (with_reducible refine hN _ ?_; clear hN hX hR; clear Kv) | (with_reducible refine hX _ _ ?_; clear hN hX hR; clear Kv) | (with_reducible refine hR _ ?_; clear hN hX hR; clear Kv) | ((conv => whnf); first | with_reducible rfl | with_reducible exact True.intro | with_reducible intro _ | with_reducible refine And.intro ?_ ?_ | (with_reducible refine hN _ ?_; clear hN hX hR; clear Kv) | (with_reducible refine hX _ _ ?_; clear hN hX hR; clear Kv) | (with_reducible refine hR _ ?_; clear hN hX hR; clear Kv) | with_reducible refine body_stop (fun Kv hN hX hR => ?_) | with_reducible refine Stop.mk ?_ | with_reducible refine DrawJ.each ?_ | with_reducible exact SubJ.self _ | with_reducible refine SubJ.of ?_))); all_goals (conv => whnf); all_goals (repeat (clear hN hX hR; clear Kv))
       all_goals rfl)
    | (with_reducible intro i hi
       (repeat' (first | ((with_reducible refine body_intro ?_); (first | refine seq_intro (fun Kv hN hX hR => ?_) | (conv => whnf))) | with_reducible refine body_stop (fun Kv hN hX hR => ?_) | with_reducible refine Stop.mk ?_ | with_reducible refine DrawJ.each ?_ | with_reducible exact SubJ.self _ | with_reducible refine SubJ.of ?_ | with_reducible refine seq_intro (fun Kv hN hX hR => ?_) | (with_reducible refine hN _ ?_; clear hN hX hR; clear Kv) | (with_reducible refine hX _ _ ?_; clear hN hX hR; clear Kv) | (with_reducible refine hR _ ?_; clear hN hX hR; clear Kv) | ((conv => whnf); first | with_reducible rfl | with_reducible exact True.intro | with_reducible intro _ | with_reducible refine And.intro ?_ ?_ | (with_reducible refine hN _ ?_; clear hN hX hR; clear Kv) | (with_reducible refine hX _ _ ?_; clear hN hX hR; clear Kv) | (with_reducible refine hR _ ?_; clear hN hX hR; clear Kv) | with_reducible refine body_stop (fun Kv hN hX hR => ?_) | with_reducible refine Stop.mk ?_ | with_reducible refine DrawJ.each ?_ | with_reducible exact SubJ.self _ | with_reducible refine SubJ.of ?_))); all_goals (conv => whnf); all_goals (repeat (clear hN hX hR; clear Kv))
       all_goals (try simp only [Int.toNat_natCast, etaMsg] at *)
       all_goals first
         | exact Ob.mk ⟨by omega, of_decide_eq_true (by with_reducible assumption)⟩
         | (have h := of_decide_eq_true (show decide ((i : Int) < (xs.length : Nat)) = true by with_reducible assumption)
            have hm : (!mayB (xs.getD i default)) = true := by with_reducible assumption
            have : xs.all mayB = false := List.all_eq_false.2 ⟨xs.getD i default, getD_mem (d := default) (by omega), by rw [(show mayB (xs.getD i default) = false by simpa using hm)]; simp⟩
            exact (queueB_no this).symm)
         | (have h := of_decide_eq_true (show decide ((i : Int) < (xs.length : Nat)) = true by with_reducible assumption)
            have hm : (!mayB (xs.getD i default)) = false := by with_reducible assumption
            refine ⟨i + 1, ⟨by omega, all_take_succ (d := default) (by omega) hi.2 (by simpa using hm)⟩, by show xs.length - (i + 1) < xs.length - i; omega, ?_⟩
            (repeat' (first | ((with_reducible refine body_intro ?_); (first | refine seq_intro (fun Kv hN hX hR => ?_) | (conv => whnf))) | with_reducible refine body_stop (fun Kv hN hX hR => ?_) | with_reducible refine Stop.mk ?_ | with_reducible refine DrawJ.each ?_ | with_reducible exact SubJ.self _ | with_reducible refine SubJ.of ?_ | with_reducible refine seq_intro (fun Kv hN hX hR => ?_) | (with_reducible refine hN _ ?_; clear hN hX hR; clear Kv) | (with_reducible refine hX _ _ ?_; clear hN hX hR; clear Kv) | (with_reducible refine hR _ ?_; clear hN hX hR; clear Kv) | ((conv => whnf); first | with_reducible rfl | with_reducible exact True.intro | with_reducible intro _ | with_reducible refine And.intro ?_ ?_ | (with_reducible refine hN _ ?_; clear hN hX hR; clear Kv) | (with_reducible refine hX _ _ ?_; clear hN hX hR; clear Kv) | (with_reducible refine hR _ ?_; clear hN hX hR; clear Kv) | with_reducible refine body_stop (fun Kv hN hX hR => ?_) | with_reducible refine Stop.mk ?_ | with_reducible refine DrawJ.each ?_ | with_reducible exact SubJ.self _ | with_reducible refine SubJ.of ?_))); all_goals (conv => whnf); all_goals (repeat (clear hN hX hR; clear Kv))
            all_goals first
              | exact wrapI (by omega) (by omega)
              | rfl)
         | (have h := of_decide_eq_false (show decide ((i : Int) < (xs.length : Nat)) = false by with_reducible assumption)
            have h2 := hi.2
            rw [List.take_of_length_le (by omega)] at h2
            have : xs.all mayB = true := List.all_eq_true.2 h2
            simp [queueB, this])
         | skip)
    | skip
end Go.Proofs.Ytmgccphapkmmeaa

/- Contracts: queues: copies. -/
namespace Go.Proofs.Ytmgccphapkmmeaa
open Go.RowKit

theorem set_self {l : List GMsg} {i : Nat} (hi : i < l.length) : l.set i (l.getD i default) = l := by
  apply List.ext_getElem (by simp)
  intro j h1 h2
  rw [List.getElem_set]
  split
  · rename_i h; subst h; simp [List.getD_eq_getElem?_getD, hi]
  · rfl
theorem loStep_self (i : Nat) : loStep i (i : Int) = i + 1 := by simp [loStep]
theorem k_qCopy : Known Try.prog tau 52 (S1 dMsgs fun l => .ok (.own 0) [.msgs l]) := by
  refine knownX1 hmix tau_ok (fn := Try.f52) (by kernel_rfl) [] (by kernel_rfl) _ _ fun xs hfit => ⟨rfl, _, ctx_tr (t_CloneMsgs 9000000) (ctx_cons k_CloneInts ctx_nil),
    [(3, invX Nat [4, 9, 10, 11, 12, 13, 14, 15, 16, 17, 18, 19, 20, 21, 22] [9000000] (fun i => i ≤ xs.length) (fun i st => withS [(9, .int .i64 i)] (withR [(9000000, .part i (.msgs xs))] st)) (fun i => xs.length - i))], ?_⟩
  have hlen : xs.length * 104 ≤ 140737488355328 := hfit.1.1
  clear hfit
  (repeat' (first | ((with_reducible refine body_intro ?_); (first | refine seq_intro (fun Kv hN hX hR => ?_) | (conv => whnf))) | with_reducible refine body_stop (fun Kv hN hX hR => ?_) | with_reducible refine Stop.mk ?_ | with_reducible refine DrawJ.each ?_ | with_reducible exact SubJ.self _ | with_reducible refine SubJ.of ?_ | with_reducible refine seq_intro (fun Kv hN hX hR => ?_) | (with_reducible refine hN _ ?_; clear hN hX hR; clear Kv) | (with_reducible refine hX _ _ ?_; clear hN hX hR; clear Kv) | (with_reducible refine hR _ ?_; clear hN hX hR; clear Kv) | ((conv => whnf); first | with_reducible rfl | with_reducible exact True.intro | with_reducible refine (fun (_ : (_ : Prop)) => ?_) | with_reducible refine And.intro ?_ ?_ | (with_reducible refine hN _ ?_; clear hN hX hR; clear Kv) | (with_reducible refine hX _ _ ?_; clear hN hX hR; clear Kv) | (with_reducible refine hR _ ?_; clear hN hX hR; clear Kv) | with_reducible refine body_stop (fun Kv hN hX hR => ?_) | with_reducible refine Stop.mk ?_ | with_reducible refine DrawJ.each ?_ | with_reducible exact SubJ.self _ | with_reducible refine SubJ.of ?_))); all_goals (conv => whnf); all_goals (repeat (clear hN hX hR; clear Kv))
  all_goals first
    | (refine ⟨0, Nat.zero_le _, ?_⟩
       (repeat' (first | ((with_reducible refine body_intro ?_); (first | refine seq_intro (fun Kv hN hX hR => ?_) | (conv => whnf))) | with_reducible refine body_stop (fun Kv hN hX hR => ?_) | with_reducible refine Stop.mk ?_ | with_reducible refine DrawJ.each ?_ | with_reducible exact SubJ.self _ | with_reducible refine SubJ.of ?_ | with_reducible refine seq_intro (fun Kv hN hX hR => ?_) | (with_reducible refine hN _ ?_; clear hN hX hR; clear Kv) | (with_reducible refine hX _ _ ?_; clear hN hX hR; clear Kv) | (with_reducible refine hR _ ?_; clear hN hX hR; clear Kv) | ((conv => whnf); first | with_reducible rfl | with_reducible exact True.intro | with_reducible intro _ | with_reducible refine And.intro ?_ ?_ | (with_reducible refine hN _ ?_; clear hN hX hR; clear Kv) | (with_reducible refine hX _ _ ?_; clear hN hX hR; clear Kv) | (with_reducible refine hR _ ?_; clear hN hX hR; clear Kv) | with_reducible refine body_stop (fun Kv hN hX hR => ?_) | with_reducible refine Stop.mk ?_ | with_reducible refine DrawJ.each ?_ | with_reducible exact SubJ.self _ | with_reducible refine SubJ.of ?_))); all_goals (conv => whnf); all_goals (repeat (clear hN hX hR; clear Kv))
       all_goals rfl)
    | (with_reducible intro i hi
       (repeat' (first | ((with_reducible refine body_intro ?_); (first | refine seq_intro (fun Kv hN hX hR => ?_) | (conv => whnf))) | with_reducible refine body_stop (fun Kv hN hX hR => ?_) | with_reducible refine Stop.mk ?_ | with_reducible refine DrawJ.each ?_ | with_reducible exact SubJ.self _ | with_reducible refine SubJ.of ?_ | with_reducible refine seq_intro (fun Kv hN hX hR => ?_) | (with_reducible refine hN _ ?_; clear hN hX hR; clear Kv) | (with_reducible refine hX _ _ ?_; clear hN hX hR; clear Kv) | (with_reducible refine hR _ ?_; clear hN hX hR; clear Kv) | ((conv => whnf); first | with_reducible rfl | with_reducible exact True.intro | with_reducible intro _ | with_reducible refine And.intro ?_ ?_ | (with_reducible refine hN _ ?_; clear hN hX hR; clear Kv) | (with_reducible refine hX _ _ ?_; clear hN hX hR; clear Kv) | (with_reducible refine hR _ ?_; clear hN hX hR; clear Kv) | with_reducible refine body_stop (fun Kv hN hX hR => ?_) | with_reducible refine Stop.mk ?_ | with_reducible refine DrawJ.each ?_ | with_reducible exact SubJ.self _ | with_reducible refine SubJ.of ?_))); all_goals (conv => whnf); all_goals (repeat (clear hN hX hR; clear Kv))
       all_goals (try simp only [Int.toNat_natCast, etaMsg] at *)
       all_goals first
         | exact Ob.mk ⟨by omega, of_decide_eq_true (by with_reducible assumption)⟩
         | (have h := of_decide_eq_true (show decide ((i : Int) < (xs.length : Nat)) = true by with_reducible assumption)
            have h2 : i < xs.length := by omega
            refine ⟨i + 1, h2, by show xs.length - (i + 1) < xs.length - i; omega, ?_⟩
            have e1 := set_self h2
            have e2 := loStep_self i
            (repeat' (first | ((with_reducible refine body_intro ?_); (first | refine seq_intro (fun Kv hN hX hR => ?_) | (conv => whnf))) | with_reducible refine body_stop (fun Kv hN hX hR => ?_) | with_reducible refine Stop.mk ?_ | with_reducible refine DrawJ.each ?_ | with_reducible exact SubJ.self _ | with_reducible refine SubJ.of ?_ | with_reducible refine seq_intro (fun Kv hN hX hR => ?_) | (with_reducible refine hN _ ?_; clear hN hX hR; clear Kv) | (with_reducible refine hX _ _ ?_; clear hN hX hR; clear Kv) | (with_reducible refine hR _ ?_; clear hN hX hR; clear Kv) | ((conv => whnf); first | with_reducible rfl | with_reducible exact True.intro | with_reducible intro _ | with_reducible refine And.intro ?_ ?_ | (with_reducible refine hN _ ?_; clear hN hX hR; clear Kv) | (with_reducible refine hX _ _ ?_; clear hN hX hR; clear Kv) | (with_reducible refine hR _ ?_; clear hN hX hR; clear Kv) | with_reducible refine body_stop (fun Kv hN hX hR => ?_) | with_reducible refine Stop.mk ?_ | with_reducible refine DrawJ.each ?_ | with_reducible exact SubJ.self _ | with_reducible refine SubJ.of ?_))); all_goals (conv => whnf); all_goals (repeat (clear hN hX hR; clear Kv))
            all_goals first
              | exact wrapI (by omega) (by omega)
              | (rw [e2, e1])
              | rfl)
         | (have h := of_decide_eq_false (show decide ((i : Int) < (xs.length : Nat)) = false by with_reducible assumption)
            show xs.length ≤ i
            omega)
         | rfl
         | skip)
    | skip
theorem take_one_more {α : Type} {d : α} {l : List α} {i : Nat} (h : i < l.length) : l.take (i + 1) = l.take i ++ [l.getD i d] := by
  rw [List.take_succ_eq_append_getElem h]
  simp [List.getD_eq_getElem?_getD, h]
theorem k_CopyMsgs : Known Try.prog tau 27 (S1 dMsgs fun l => .ok (.own 0) [.msgs l]) := by
  refine known1 hmix tau_ok (ctx_cons k_CopyMsg ctx_nil) (fn := Try.f27) (by kernel_rfl) [] (by kernel_rfl) _ _ fun xs hfit => ⟨rfl,
    [(3, invN [3, 4, 5, 6, 7, 8, 9, 10, 11, 12, 13, 14, 15, 16, 17, 18] (fun i => i ≤ xs.length) (fun i => match i with
      | 0 => withS [(4, .int .i64 0), (3, .nilS (.msgs []))]
      | i + 1 => fun st => withS [(4, .int .i64 ((i + 1 : Nat) : Int)), (3, .own 18)] (withR [(18, .own (.msgs (xs.take (i + 1))))] st)) (fun i => xs.length - i))], ?_⟩
  have hlen : xs.length * 104 ≤ 140737488355328 := hfit.1.1
  have hids := hfit.1.2
  clear hfit
  (repeat' (first | ((with_reducible refine body_intro ?_); (first | refine seq_intro (fun Kv hN hX hR => ?_) | (conv => whnf))) | with_reducible refine body_stop (fun Kv hN hX hR => ?_) | with_reducible refine Stop.mk ?_ | with_reducible refine DrawJ.each ?_ | with_reducible exact SubJ.self _ | with_reducible refine SubJ.of ?_ | with_reducible refine seq_intro (fun Kv hN hX hR => ?_) | (with_reducible refine hN _ ?_; clear hN hX hR; clear Kv) | (with_reducible refine hX _ _ ?_; clear hN hX hR; clear Kv) | (with_reducible refine hR _ ?_; clear hN hX hR; clear Kv) | ((conv => whnf); first | with_reducible rfl | with_reducible exact True.intro | with_reducible refine (fun (_ : (_ : Prop)) => ?_) | with_reducible refine And.intro ?_ ?_ | (with_reducible refine hN _ ?_; clear hN hX hR; clear Kv) | (with_reducible refine hX _ _ ?_; clear hN hX hR; clear Kv) | (with_reducible refine hR _ ?_; clear hN hX hR; clear Kv) | with_reducible refine body_stop (fun Kv hN hX hR => ?_) | with_reducible refine Stop.mk ?_ | with_reducible refine DrawJ.each ?_ | with_reducible exact SubJ.self _ | with_reducible refine SubJ.of ?_))); all_goals (conv => whnf); all_goals (repeat (clear hN hX hR; clear Kv))
  all_goals first
    | (refine ⟨0, Nat.zero_le _, ?_⟩
       (repeat' (first | ((with_reducible refine body_intro ?_); (first | refine seq_intro (fun Kv hN hX hR => ?_) | (conv => whnf))) | with_reducible refine body_stop (fun Kv hN hX hR => ?_) | with_reducible refine Stop.mk ?_ | with_reducible refine DrawJ.each ?_ | with_reducible exact SubJ.self _ | with_reducible refine SubJ.of ?_ | with_reducible refine seq_intro (fun Kv hN hX hR => ?_) | (with_reducible refine hN _ ?_; clear hN hX hR; clear Kv) | (with_reducible refine hX _ _ ?_; clear hN hX hR; clear Kv) | (with_reducible refine hR _ ?_; clear hN hX hR; clear Kv) | ((conv => whnf); first | with_reducible rfl | with_reducible exact True.intro | with_reducible intro _ | with_reducible refine And.intro ?_ ?_ | (with_reducible refine hN _ ?_; clear hN hX hR; clear Kv) | (with_reducible refine hX _ _ ?_; clear hN hX hR; clear Kv) | (with_reducible refine hR _ ?_; clear hN hX hR; clear Kv) | with_reducible refine body_stop (fun Kv hN hX hR => ?_) | with_reducible refine Stop.mk ?_ | with_reducible refine DrawJ.each ?_ | with_reducible exact SubJ.self _ | with_reducible refine SubJ.of ?_))); all_goals (conv => whnf); all_goals (repeat (clear hN hX hR; clear Kv))
       all_goals rfl)
    | (with_reducible intro i hi
       rcases i with _ | i
       all_goals
         (repeat' (first | ((with_reducible refine body_intro ?_); (first | refine seq_intro (fun Kv hN hX hR => ?_) | (conv => whnf))) | with_reducible refine body_stop (fun Kv hN hX hR => ?_) | with_reducible refine Stop.mk ?_ | with_reducible refine DrawJ.each ?_ | with_reducible exact SubJ.self _ | with_reducible refine SubJ.of ?_ | with_reducible refine seq_intro (fun Kv hN hX hR => ?_) | (with_reducible refine hN _ ?_; clear hN hX hR; clear Kv) | (with_reducible refine hX _ _ ?_; clear hN hX hR; clear Kv) | (with_reducible refine hR _ ?_; clear hN hX hR; clear Kv) | ((conv => whnf); first | with_reducible rfl | with_reducible exact True.intro | with_reducible intro _ | with_reducible refine And.intro ?_ ?_ | (with_reducible refine hN _ ?_; clear hN hX hR; clear Kv) | (with_reducible refine hX _ _ ?_; clear hN hX hR; clear Kv) | (with_reducible refine hR _ ?_; clear hN hX hR; clear Kv) | with_reducible refine body_stop (fun Kv hN hX hR => ?_) | with_reducible refine Stop.mk ?_ | with_reducible refine DrawJ.each ?_ | with_reducible exact SubJ.self _ | with_reducible refine SubJ.of ?_))); all_goals (conv => whnf); all_goals (repeat (clear hN hX hR; clear Kv))
       all_goals (try simp only [Int.toNat_natCast, Int.toNat_zero, List.nil_append, etaMsg] at *)
       all_goals first
         | exact Ob.mk ⟨by omega, of_decide_eq_true (by with_reducible assumption)⟩
         | (have h := of_decide_eq_true (show decide ((0 : Int) < (xs.length : Nat)) = true by with_reducible assumption)
            have hid := hids (xs.getD 0 default) (getD_mem (by omega))
            (try simp only [Rw.len, Rw.bts, Rw.kd, kdBytes] at hid)
            refine Ob.mk ?_
            simp only [Rw.len, Rw.bts, Rw.kd, kdBytes, List.length_cons, List.length_nil, List.length_take]
            omega)
         | (have h := of_decide_eq_true (show decide (((i + 1 : Nat) : Int) < (xs.length : Nat)) = true by with_reducible assumption)
            have hid := hids (xs.getD (i + 1) default) (getD_mem (by omega))
            (try simp only [Rw.len, Rw.bts, Rw.kd, kdBytes] at hid)
            refine Ob.mk ?_
            simp only [Rw.len, Rw.bts, Rw.kd, kdBytes, List.length_cons, List.length_nil, List.length_take]
            omega)
         | (have h := of_decide_eq_true (show decide ((0 : Int) < (xs.length : Nat)) = true by with_reducible assumption)
            refine ⟨1, by omega, by show xs.length - 1 < xs.length - 0; omega, ?_⟩
            have e1 := take_one_more (d := default) (show 0 < xs.length by omega)
            (repeat' (first | ((with_reducible refine body_intro ?_); (first | refine seq_intro (fun Kv hN hX hR => ?_) | (conv => whnf))) | with_reducible refine body_stop (fun Kv hN hX hR => ?_) | with_reducible refine Stop.mk ?_ | with_reducible refine DrawJ.each ?_ | with_reducible exact SubJ.self _ | with_reducible refine SubJ.of ?_ | with_reducible refine seq_intro (fun Kv hN hX hR => ?_) | (with_reducible refine hN _ ?_; clear hN hX hR; clear Kv) | (with_reducible refine hX _ _ ?_; clear hN hX hR; clear Kv) | (with_reducible refine hR _ ?_; clear hN hX hR; clear Kv) | ((conv => whnf); first | with_reducible rfl | with_reducible exact True.intro | with_reducible intro _ | with_reducible refine And.intro ?_ ?_ | (with_reducible refine hN _ ?_; clear hN hX hR; clear Kv) | (with_reducible refine hX _ _ ?_; clear hN hX hR; clear Kv) | (with_reducible refine hR _ ?_; clear hN hX hR; clear Kv) | with_reducible refine body_stop (fun Kv hN hX hR => ?_) | with_reducible refine Stop.mk ?_ | with_reducible refine DrawJ.each ?_ | with_reducible exact SubJ.self _ | with_reducible refine SubJ.of ?_))); all_goals (conv => whnf); all_goals (repeat (clear hN hX hR; clear Kv))
            all_goals first
              | exact wrapI (by omega) (by omega)
              | exact congrArg Rw.msgs e1.symm
              | rfl)
         | (have h := of_decide_eq_true (show decide (((i + 1 : Nat) : Int) < (xs.length : Nat)) = true by with_reducible assumption)
            refine ⟨i + 1 + 1, by omega, by show xs.length - (i + 1 + 1) < xs.length - (i + 1); omega, ?_⟩
            have e1 := take_one_more (d := default) (show i + 1 < xs.length by omega)
            (repeat' (first | ((with_reducible refine body_intro ?_); (first | refine seq_intro (fun Kv hN hX hR => ?_) | (conv => whnf))) | with_reducible refine body_stop (fun Kv hN hX hR => ?_) | with_reducible refine Stop.mk ?_ | with_reducible refine DrawJ.each ?_ | with_reducible exact SubJ.self _ | with_reducible refine SubJ.of ?_ | with_reducible refine seq_intro (fun Kv hN hX hR => ?_) | (with_reducible refine hN _ ?_; clear hN hX hR; clear Kv) | (with_reducible refine hX _ _ ?_; clear hN hX hR; clear Kv) | (with_reducible refine hR _ ?_; clear hN hX hR; clear Kv) | ((conv => whnf); first | with_reducible rfl | with_reducible exact True.intro | with_reducible intro _ | with_reducible refine And.intro ?_ ?_ | (with_reducible refine hN _ ?_; clear hN hX hR; clear Kv) | (with_reducible refine hX _ _ ?_; clear hN hX hR; clear Kv) | (with_reducible refine hR _ ?_; clear hN hX hR; clear Kv) | with_reducible refine body_stop (fun Kv hN hX hR => ?_) | with_reducible refine Stop.mk ?_ | with_reducible refine DrawJ.each ?_ | with_reducible exact SubJ.self _ | with_reducible refine SubJ.of ?_))); all_goals (conv => whnf); all_goals (repeat (clear hN hX hR; clear Kv))
            all_goals first
              | exact wrapI (by omega) (by omega)
              | exact congrArg Rw.msgs e1.symm
              | rfl)
         | (have h := of_decide_eq_false (show decide ((0 : Int) < (xs.length : Nat)) = false by with_reducible assumption)
            obtain rfl : xs = [] := List.eq_nil_of_length_eq_zero (by omega)
            rfl)
         | (have h := of_decide_eq_false (show decide (((i + 1 : Nat) : Int) < (xs.length : Nat)) = false by with_reducible assumption)
            rw [List.take_of_length_le (by omega)])
         | skip)
    | skip
theorem k_refCopyMsgs : Known Try.prog tau 53 (S1 dMsgs fun l => .ok (.own 0) [.msgs l]) := by
  refine known1 hmix tau_ok ctx_nil (fn := Try.f53) (by kernel_rfl) [] (by kernel_rfl) _ _ fun xs hfit => ⟨rfl,
    [(3, invN [3, 4, 5, 6, 7, 8, 9, 10, 11, 12, 13, 14, 15, 16, 17, 18, 19, 20, 21, 22, 23, 24] (fun i => i ≤ xs.length) (fun i => match i with
      | 0 => withS [(4, .int .i64 0), (3, .nilS (.msgs []))]
      | i + 1 => fun st => withS [(4, .int .i64 ((i + 1 : Nat) : Int)), (3, .own 24)] (withR [(24, .own (.msgs (xs.take (i + 1))))] st)) (fun i => xs.length - i))], ?_⟩
  have hlen : xs.length * 104 ≤ 140737488355328 := hfit.1.1
  have hids := hfit.1.2
  clear hfit
  (repeat' (first | ((with_reducible refine body_intro ?_); (first | refine seq_intro (fun Kv hN hX hR => ?_) | (conv => whnf))) | with_reducible refine body_stop (fun Kv hN hX hR => ?_) | with_reducible refine Stop.mk ?_ | with_reducible refine DrawJ.each ?_ | with_reducible exact SubJ.self _ | with_reducible refine SubJ.of ?_ | with_reducible refine seq_intro (fun Kv hN hX hR => ?_) | (with_reducible refine hN _ ?_; clear hN hX hR; clear Kv) | (with_reducible refine hX _ _ ?_; clear hN hX hR; clear Kv) | (with_reducible refine hR _ ?_; clear hN hX hR; clear Kv) | ((conv => whnf); first | with_reducible rfl | with_reducible exact True.intro | with_reducible refine (fun (_ : (_ : Prop)) => ?_) | with_reducible refine And.intro ?_ ?_ | (with_reducible refine hN _ ?_; clear hN hX hR; clear Kv) | (with_reducible refine hX _ _ ?_; clear hN hX hR; clear Kv) | (with_reducible refine hR _ ?_; clear hN hX hR; clear Kv) | with_reducible refine body_stop (fun Kv hN hX hR => ?_) | with_reducible refine Stop.mk ?_ | with_reducible refine DrawJ.each ?_ | with_reducible exact SubJ.self _ | with_reducible refine SubJ.of ?_))); all_goals (conv => whnf); all_goals (repeat (clear hN hX hR; clear Kv))
  all_goals first
    | (refine ⟨0, Nat.zero_le _, ?_⟩
       (repeat' (first | ((with_reducible refine body_intro ?_); (first | refine seq_intro (fun Kv hN hX hR => ?_) | (conv => whnf))) | with_reducible refine body_stop (fun Kv hN hX hR => ?_) | with_reducible refine Stop.mk ?_ | with_reducible refine DrawJ.each ?_ | with_reducible exact SubJ.self _ | with_reducible refine SubJ.of ?_ | with_reducible refine seq_intro (fun Kv hN hX hR => ?_) | (with_reducible refine hN _ ?_; clear hN hX hR; clear Kv) | (with_reducible refine hX _ _ ?_; clear hN hX hR; clear Kv) | (with_reducible refine hR _ ?_; clear hN hX hR; clear Kv) | ((conv => whnf); first | with_reducible rfl | with_reducible exact True.intro | with_reducible intro _ | with_reducible refine And.intro ?_ ?_ | (with_reducible refine hN _ ?_; clear hN hX hR; clear Kv) | (with_reducible refine hX _ _ ?_; clear hN hX hR; clear Kv) | (with_reducible refine hR _ ?_; clear hN hX hR; clear Kv) | with_reducible refine body_stop (fun Kv hN hX hR => ?_) | with_reducible refine Stop.mk ?_ | with_reducible refine DrawJ.each ?_ | with_reducible exact SubJ.self _ | with_reducible refine SubJ.of ?_))); all_goals (conv => whnf); all_goals (repeat (clear hN hX hR; clear Kv))
       all_goals rfl)
    | (with_reducible intro i hi
       rcases i with _ | i
       all_goals
         (repeat' (first | ((with_reducible refine body_intro ?_); (first | refine seq_intro (fun Kv hN hX hR => ?_) | (conv => whnf))) | with_reducible refine body_stop (fun Kv hN hX hR => ?_) | with_reducible refine Stop.mk ?_ | with_reducible refine DrawJ.each ?_ | with_reducible exact SubJ.self _ | with_reducible refine SubJ.of ?_ | with_reducible refine seq_intro (fun Kv hN hX hR => ?_) | (with_reducible refine hN _ ?_; clear hN hX hR; clear Kv) | (with_reducible refine hX _ _ ?_; clear hN hX hR; clear Kv) | (with_reducible refine hR _ ?_; clear hN hX hR; clear Kv) | ((conv => whnf); first | with_reducible rfl | with_reducible exact True.intro | with_reducible intro _ | with_reducible refine And.intro ?_ ?_ | (with_reducible refine hN _ ?_; clear hN hX hR; clear Kv) | (with_reducible refine hX _ _ ?_; clear hN hX hR; clear Kv) | (with_reducible refine hR _ ?_; clear hN hX hR; clear Kv) | with_reducible refine body_stop (fun Kv hN hX hR => ?_) | with_reducible refine Stop.mk ?_ | with_reducible refine DrawJ.each ?_ | with_reducible exact SubJ.self _ | with_reducible refine SubJ.of ?_))); all_goals (conv => whnf); all_goals (repeat (clear hN hX hR; clear Kv))
       all_goals (try simp only [Int.toNat_natCast, Int.toNat_zero, List.nil_append, etaMsg] at *)
       all_goals first
         | exact Ob.mk ⟨by omega, of_decide_eq_true (by with_reducible assumption)⟩
         | (have h := of_decide_eq_true (show decide ((0 : Int) < (xs.length : Nat)) = true by with_reducible assumption)
            have hid := hids (xs.getD 0 default) (getD_mem (by omega))
            (try simp only [Rw.len, Rw.bts, Rw.kd, kdBytes] at hid)
            refine Ob.mk ?_
            simp only [Rw.len, Rw.bts, Rw.kd, kdBytes, List.length_cons, List.length_nil, List.length_take]
            omega)
         | (have h := of_decide_eq_true (show decide (((i + 1 : Nat) : Int) < (xs.length : Nat)) = true by with_reducible assumption)
            have hid := hids (xs.getD (i + 1) default) (getD_mem (by omega))
            (try simp only [Rw.len, Rw.bts, Rw.kd, kdBytes] at hid)
            refine Ob.mk ?_
            simp only [Rw.len, Rw.bts, Rw.kd, kdBytes, List.length_cons, List.length_nil, List.length_take]
            omega)
         | (have h := of_decide_eq_true (show decide ((0 : Int) < (xs.length : Nat)) = true by with_reducible assumption)
            refine ⟨1, by omega, by show xs.length - 1 < xs.length - 0; omega, ?_⟩
            have e1 := take_one_more (d := default) (show 0 < xs.length by omega)
            (repeat' (first | ((with_reducible refine body_intro ?_); (first | refine seq_intro (fun Kv hN hX hR => ?_) | (conv => whnf))) | with_reducible refine body_stop (fun Kv hN hX hR => ?_) | with_reducible refine Stop.mk ?_ | with_reducible refine DrawJ.each ?_ | with_reducible exact SubJ.self _ | with_reducible refine SubJ.of ?_ | with_reducible refine seq_intro (fun Kv hN hX hR => ?_) | (with_reducible refine hN _ ?_; clear hN hX hR; clear Kv) | (with_reducible refine hX _ _ ?_; clear hN hX hR; clear Kv) | (with_reducible refine hR _ ?_; clear hN hX hR; clear Kv) | ((conv => whnf); first | with_reducible rfl | with_reducible exact True.intro | with_reducible intro _ | with_reducible refine And.intro ?_ ?_ | (with_reducible refine hN _ ?_; clear hN hX hR; clear Kv) | (with_reducible refine hX _ _ ?_; clear hN hX hR; clear Kv) | (with_reducible refine hR _ ?_; clear hN hX hR; clear Kv) | with_reducible refine body_stop (fun Kv hN hX hR => ?_) | with_reducible refine Stop.mk ?_ | with_reducible refine DrawJ.each ?_ | with_reducible exact SubJ.self _ | with_reducible refine SubJ.of ?_))); all_goals (conv => whnf); all_goals (repeat (clear hN hX hR; clear Kv))
            all_goals first
              | exact wrapI (by omega) (by omega)
              | exact congrArg Rw.msgs e1.symm
              | rfl)
         | (have h := of_decide_eq_true (show decide (((i + 1 : Nat) : Int) < (xs.length : Nat)) = true by with_reducible assumption)
            refine ⟨i + 1 + 1, by omega, by show xs.length - (i + 1 + 1) < xs.length - (i + 1); omega, ?_⟩
            have e1 := take_one_more (d := default) (show i + 1 < xs.length by omega)
            (repeat' (first | ((with_reducible refine body_intro ?_); (first | refine seq_intro (fun Kv hN hX hR => ?_) | (conv => whnf))) | with_reducible refine body_stop (fun Kv hN hX hR => ?_) | with_reducible refine Stop.mk ?_ | with_reducible refine DrawJ.each ?_ | with_reducible exact SubJ.self _ | with_reducible refine SubJ.of ?_ | with_reducible refine seq_intro (fun Kv hN hX hR => ?_) | (with_reducible refine hN _ ?_; clear hN hX hR; clear Kv) | (with_reducible refine hX _ _ ?_; clear hN hX hR; clear Kv) | (with_reducible refine hR _ ?_; clear hN hX hR; clear Kv) | ((conv => whnf); first | with_reducible rfl | with_reducible exact True.intro | with_reducible intro _ | with_reducible refine And.intro ?_ ?_ | (with_reducible refine hN _ ?_; clear hN hX hR; clear Kv) | (with_reducible refine hX _ _ ?_; clear hN hX hR; clear Kv) | (with_reducible refine hR _ ?_; clear hN hX hR; clear Kv) | with_reducible refine body_stop (fun Kv hN hX hR => ?_) | with_reducible refine Stop.mk ?_ | with_reducible refine DrawJ.each ?_ | with_reducible exact SubJ.self _ | with_reducible refine SubJ.of ?_))); all_goals (conv => whnf); all_goals (repeat (clear hN hX hR; clear Kv))
            all_goals first
              | exact wrapI (by omega) (by omega)
              | exact congrArg Rw.msgs e1.symm
              | rfl)
         | (have h := of_decide_eq_false (show decide ((0 : Int) < (xs.length : Nat)) = false by with_reducible assumption)
            obtain rfl : xs = [] := List.eq_nil_of_length_eq_zero (by omega)
            rfl)
         | (have h := of_decide_eq_false (show decide (((i + 1 : Nat) : Int) < (xs.length : Nat)) = false by with_reducible assumption)
            rw [List.take_of_length_le (by omega)])
         | skip)
    | skip
end Go.Proofs.Ytmgccphapkmmeaa

/- Contracts: queues: add, take. -/
namespace Go.Proofs.Ytmgccphapkmmeaa
open Go.RowKit

def msgZ : GMsg := ⟨0, 0, 0, [], 0, ⟨0, ⟨0, 0⟩, 0, false⟩, false⟩
noncomputable def addQ (ms : List GMsg) (m : GMsg) : List GMsg × Int := Classical.choose (seal_ex (if queueB ms = true ∧ mayB m = true then (if ms.length = 512 then ([], (1401 : Int)) else (ms ++ [m], 0)) else ([], 1400)))
theorem addQ_def (ms : List GMsg) (m : GMsg) : addQ ms m = if queueB ms = true ∧ mayB m = true then (if ms.length = 512 then ([], 1401) else (ms ++ [m], 0)) else ([], 1400) := Classical.choose_spec (seal_ex _)
noncomputable def takeQ (ms : List GMsg) (p : Int) : GMsg × List GMsg × Int := Classical.choose (seal_ex (if queueB ms = true ∧ 0 ≤ p ∧ p < ms.length then (ms.getD p.toNat default, ms.take p.toNat ++ ms.drop (p.toNat + 1), (0 : Int)) else (msgZ, [], 1400)))
theorem takeQ_def (ms : List GMsg) (p : Int) : takeQ ms p = if queueB ms = true ∧ 0 ≤ p ∧ p < ms.length then (ms.getD p.toNat default, ms.take p.toNat ++ ms.drop (p.toNat + 1), 0) else (msgZ, [], 1400) := Classical.choose_spec (seal_ex _)
/-- A message that is new. -/
def mNew (m : GMsg) : List SV := [.int .i64 m.kind, .int .i64 m.src, .int .i64 m.dst, .row .new (.ints m.ids), .int .i64 m.key, .int .i64 m.item.key, .int .i64 m.item.ver.count, .int .i64 m.item.ver.writer, .int .i64 m.item.value, .bool m.item.gone, .bool m.has]
noncomputable def oAdd (ms : List GMsg) (m : GMsg) : Out := .ok (.tup [.own 0, .int .i64 (addQ ms m).2]) [.msgs (addQ ms m).1]
noncomputable def oTake (ms : List GMsg) (p : Int) : Out := .ok (.tup [.agg (mNew (takeQ ms p).1), .own 0, .int .i64 (takeQ ms p).2.2]) [.msgs (takeQ ms p).2.1]
theorem addQ_no {ms : List GMsg} {m : GMsg} (h : queueB ms = false ∨ mayB m = false) : addQ ms m = ([], 1400) := by
  rw [addQ_def, if_neg]
  rintro ⟨h1, h2⟩
  rcases h with h | h <;> simp_all
theorem addQ_full {ms : List GMsg} {m : GMsg} (h1 : queueB ms = true) (h2 : mayB m = true) (h : decide ((ms.length : Int) = 512) = true) : addQ ms m = ([], 1401) := by
  rw [addQ_def, if_pos ⟨h1, h2⟩, if_pos (by have := of_decide_eq_true h; omega)]
theorem addQ_yes {ms : List GMsg} {m : GMsg} (h1 : queueB ms = true) (h2 : mayB m = true) (h : decide ((ms.length : Int) = 512) = false) : addQ ms m = (ms ++ [m], 0) := by
  rw [addQ_def, if_pos ⟨h1, h2⟩, if_neg (by have := of_decide_eq_false h; omega)]
theorem queueB_len {ms : List GMsg} (h : queueB ms = true) : ms.length ≤ 512 := by
  simp only [queueB, Bool.and_eq_true, decide_eq_true_eq] at h
  omega
theorem takeQ_no {ms : List GMsg} {p : Int} (h : queueB ms = false ∨ decide (p < 0) = true ∨ decide ((ms.length : Int) ≤ p) = true) : takeQ ms p = (msgZ, [], 1400) := by
  rw [takeQ_def, if_neg]
  rintro ⟨h1, h2, h3⟩
  simp only [decide_eq_true_eq] at h
  rcases h with h | h | h
  · rw [h1] at h; simp at h
  · omega
  · omega
theorem takeQ_yes {ms : List GMsg} {p : Int} (h1 : queueB ms = true) (h2 : decide (p < 0) = false) (h3 : decide ((ms.length : Int) ≤ p) = false) : takeQ ms p = (ms.getD p.toNat default, ms.take p.toNat ++ ms.drop (p.toNat + 1), 0) := by
  simp only [decide_eq_false_iff_not] at h2 h3
  rw [takeQ_def, if_pos ⟨h1, by omega, by omega⟩]
theorem nf {b : Bool} (h : (!b) = true) : b = false := by simpa using h
theorem nt {b : Bool} (h : (!b) = false) : b = true := by simpa using h
theorem k_Add : Known Try.prog tau 28 (S2 dMsgs dMsg oAdd) := by
  refine known2 hmix tau_ok (ctx_cons k_qMay (ctx_cons k_MsgMay (ctx_cons k_qCopy ctx_nil))) (fn := Try.f28) (by kernel_rfl) [(5, [(0, 0), (1, 1), (2, 0), (3, 4), (4, 10), (5, 18), (6, 63), (7, 127)])] (by kernel_rfl) _ _ _ fun xs m hfit => ⟨rfl, [], ?_⟩
  clear hfit
  (repeat' (first | ((with_reducible refine body_intro ?_); (first | refine seq_intro (fun Kv hN hX hR => ?_) | (conv => whnf))) | with_reducible refine body_stop (fun Kv hN hX hR => ?_) | with_reducible refine Stop.mk ?_ | with_reducible refine DrawJ.each ?_ | with_reducible exact SubJ.self _ | with_reducible refine SubJ.of ?_ | with_reducible refine seq_intro (fun Kv hN hX hR => ?_) | (with_reducible refine hN _ ?_; clear hN hX hR; clear Kv) | (with_reducible refine hX _ _ ?_; clear hN hX hR; clear Kv) | (with_reducible refine hR _ ?_; clear hN hX hR; clear Kv) | ((conv => whnf); first | with_reducible rfl | with_reducible exact True.intro | with_reducible intro _ | with_reducible refine And.intro ?_ ?_ | (with_reducible refine hN _ ?_; clear hN hX hR; clear Kv) | (with_reducible refine hX _ _ ?_; clear hN hX hR; clear Kv) | (with_reducible refine hR _ ?_; clear hN hX hR; clear Kv) | with_reducible refine body_stop (fun Kv hN hX hR => ?_) | with_reducible refine Stop.mk ?_ | with_reducible refine DrawJ.each ?_ | with_reducible exact SubJ.self _ | with_reducible refine SubJ.of ?_))); all_goals (conv => whnf); all_goals (repeat (clear hN hX hR; clear Kv))
  all_goals (try simp only [etaMsg] at *)
  all_goals first
    | (rw [addQ_no (.inl (nf (by with_reducible assumption)))] <;> rfl)
    | (rw [addQ_no (.inr (nf (by with_reducible assumption)))] <;> rfl)
    | (rw [addQ_full (nt (by with_reducible assumption)) (nt (by with_reducible assumption)) (by with_reducible assumption)] <;> rfl)
    | (rw [addQ_yes (nt (by with_reducible assumption)) (nt (by with_reducible assumption)) (by with_reducible assumption)] <;> rfl)
    | (refine Ob.mk ?_
       have := queueB_len (nt (show (!queueB xs) = false by with_reducible assumption))
       simp only [Rw.len, Rw.bts, Rw.kd, kdBytes, List.length_cons, List.length_nil]
       omega)
    | exact Ob.mk (by simp)
theorem k_Take : Known Try.prog tau 30 (S2 dMsgs dInt oTake) := by
  refine knownX2 hmix tau_ok (fn := Try.f30) (by kernel_rfl) [(5, [(0, 0), (1, 0), (2, 0), (3, 0), (4, 8), (5, 22), (6, 33), (7, 127), (8, 255)])] (by kernel_rfl) _ _ _ fun xs p hfit => ⟨rfl, _, ctx_tr t_DeleteMsgs (ctx_cons k_qMay (ctx_cons k_qCopy ctx_nil)), [], ?_⟩
  clear hfit
  (repeat' (first | ((with_reducible refine body_intro ?_); (first | refine seq_intro (fun Kv hN hX hR => ?_) | (conv => whnf))) | with_reducible refine body_stop (fun Kv hN hX hR => ?_) | with_reducible refine Stop.mk ?_ | with_reducible refine DrawJ.each ?_ | with_reducible exact SubJ.self _ | with_reducible refine SubJ.of ?_ | with_reducible refine seq_intro (fun Kv hN hX hR => ?_) | (with_reducible refine hN _ ?_; clear hN hX hR; clear Kv) | (with_reducible refine hX _ _ ?_; clear hN hX hR; clear Kv) | (with_reducible refine hR _ ?_; clear hN hX hR; clear Kv) | ((conv => whnf); first | with_reducible rfl | with_reducible exact True.intro | with_reducible intro _ | with_reducible refine And.intro ?_ ?_ | (with_reducible refine hN _ ?_; clear hN hX hR; clear Kv) | (with_reducible refine hX _ _ ?_; clear hN hX hR; clear Kv) | (with_reducible refine hR _ ?_; clear hN hX hR; clear Kv) | with_reducible refine body_stop (fun Kv hN hX hR => ?_) | with_reducible refine Stop.mk ?_ | with_reducible refine DrawJ.each ?_ | with_reducible exact SubJ.self _ | with_reducible refine SubJ.of ?_))); all_goals (conv => whnf); all_goals (repeat (clear hN hX hR; clear Kv))
  all_goals first
    | (rw [takeQ_no (.inl (nf (by with_reducible assumption)))] <;> rfl)
    | (rw [takeQ_no (.inr (.inl (by with_reducible assumption)))] <;> rfl)
    | (rw [takeQ_no (.inr (.inr (by with_reducible assumption)))] <;> rfl)
    | (have h1 : (!queueB xs) = false := by with_reducible assumption
       have h2 : decide (p < 0) = false := by with_reducible assumption
       have h3 : decide ((xs.length : Int) ≤ p) = false := by with_reducible assumption
       have g1 := nt h1
       have g2 := of_decide_eq_false h2
       have g3 := of_decide_eq_false h3
       have g4 := queueB_len g1
       have e1 : IntKind.i64.wrap (p + 1) = p + 1 := wrapI (by omega) (by omega)
       have e2 : (p + 1).toNat = p.toNat + 1 := by omega
       first
         | exact Ob.mk ⟨by omega, by omega⟩
         | exact Ob.mk ⟨by omega, by rw [e1]; omega, by rw [e1]; omega⟩
         | (refine Ob.mk ?_
            simp only [Rw.sub, Rw.len, Rw.bts, Rw.kd, kdBytes, List.length_cons, List.length_nil, List.length_append, List.length_take, List.length_drop, e1, e2, Int.toNat_natCast, Int.toNat_zero]
            omega)
         | (rw [takeQ_yes g1 h2 h3, e1, e2] <;> rfl)
         | (rw [takeQ_yes g1 h2 h3] <;> rfl)
         | (rw [takeQ_yes g1 h2 h3, e1, e2]
            simp
            done))
    | skip
theorem k_refAdd : Known Try.prog tau 29 (S2 dMsgs dMsg oAdd) := by
  refine known2 hmix tau_ok (ctx_cons k_refQueueMay (ctx_cons k_refMsg (ctx_cons k_refCopyMsgs ctx_nil))) (fn := Try.f29) (by kernel_rfl) [] (by kernel_rfl) _ _ _ fun xs m hfit => ⟨rfl, [], ?_⟩
  clear hfit
  (repeat' (first | ((with_reducible refine body_intro ?_); (first | refine seq_intro (fun Kv hN hX hR => ?_) | (conv => whnf))) | with_reducible refine body_stop (fun Kv hN hX hR => ?_) | with_reducible refine Stop.mk ?_ | with_reducible refine DrawJ.each ?_ | with_reducible exact SubJ.self _ | with_reducible refine SubJ.of ?_ | with_reducible refine seq_intro (fun Kv hN hX hR => ?_) | (with_reducible refine hN _ ?_; clear hN hX hR; clear Kv) | (with_reducible refine hX _ _ ?_; clear hN hX hR; clear Kv) | (with_reducible refine hR _ ?_; clear hN hX hR; clear Kv) | ((conv => whnf); first | with_reducible rfl | with_reducible exact True.intro | with_reducible intro _ | with_reducible refine And.intro ?_ ?_ | (with_reducible refine hN _ ?_; clear hN hX hR; clear Kv) | (with_reducible refine hX _ _ ?_; clear hN hX hR; clear Kv) | (with_reducible refine hR _ ?_; clear hN hX hR; clear Kv) | with_reducible refine body_stop (fun Kv hN hX hR => ?_) | with_reducible refine Stop.mk ?_ | with_reducible refine DrawJ.each ?_ | with_reducible exact SubJ.self _ | with_reducible refine SubJ.of ?_))); all_goals (conv => whnf); all_goals (repeat (clear hN hX hR; clear Kv))
  all_goals (try simp only [etaMsg] at *)
  all_goals first
    | (rw [addQ_no (.inl (nf (by with_reducible assumption)))] <;> rfl)
    | (rw [addQ_no (.inr (nf (by with_reducible assumption)))] <;> rfl)
    | (rw [addQ_full (nt (by with_reducible assumption)) (nt (by with_reducible assumption)) (by with_reducible assumption)] <;> rfl)
    | (rw [addQ_yes (nt (by with_reducible assumption)) (nt (by with_reducible assumption)) (by with_reducible assumption)] <;> rfl)
    | (refine Ob.mk ?_
       have := queueB_len (nt (show (!queueB xs) = false by with_reducible assumption))
       simp only [Rw.len, Rw.bts, Rw.kd, kdBytes, List.length_cons, List.length_nil]
       omega)
    | exact Ob.mk (by simp)
theorem k_refTake : Known Try.prog tau 31 (S2 dMsgs dInt oTake) := by
  refine knownX2 hmix tau_ok (fn := Try.f31) (by kernel_rfl) [] (by kernel_rfl) _ _ _ fun xs p hfit => ⟨rfl, _, (ctx_cons k_refQueueMay (ctx_cons k_refCopyMsgs ctx_nil)), [], ?_⟩
  clear hfit
  (repeat' (first | ((with_reducible refine body_intro ?_); (first | refine seq_intro (fun Kv hN hX hR => ?_) | (conv => whnf))) | with_reducible refine body_stop (fun Kv hN hX hR => ?_) | with_reducible refine Stop.mk ?_ | with_reducible refine DrawJ.each ?_ | with_reducible exact SubJ.self _ | with_reducible refine SubJ.of ?_ | with_reducible refine seq_intro (fun Kv hN hX hR => ?_) | (with_reducible refine hN _ ?_; clear hN hX hR; clear Kv) | (with_reducible refine hX _ _ ?_; clear hN hX hR; clear Kv) | (with_reducible refine hR _ ?_; clear hN hX hR; clear Kv) | ((conv => whnf); first | with_reducible rfl | with_reducible exact True.intro | with_reducible intro _ | with_reducible refine And.intro ?_ ?_ | (with_reducible refine hN _ ?_; clear hN hX hR; clear Kv) | (with_reducible refine hX _ _ ?_; clear hN hX hR; clear Kv) | (with_reducible refine hR _ ?_; clear hN hX hR; clear Kv) | with_reducible refine body_stop (fun Kv hN hX hR => ?_) | with_reducible refine Stop.mk ?_ | with_reducible refine DrawJ.each ?_ | with_reducible exact SubJ.self _ | with_reducible refine SubJ.of ?_))); all_goals (conv => whnf); all_goals (repeat (clear hN hX hR; clear Kv))
  all_goals first
    | (rw [takeQ_no (.inl (nf (by with_reducible assumption)))] <;> rfl)
    | (rw [takeQ_no (.inr (.inl (by with_reducible assumption)))] <;> rfl)
    | (rw [takeQ_no (.inr (.inr (by with_reducible assumption)))] <;> rfl)
    | (have h1 : (!queueB xs) = false := by with_reducible assumption
       have h2 : decide (p < 0) = false := by with_reducible assumption
       have h3 : decide ((xs.length : Int) ≤ p) = false := by with_reducible assumption
       have g1 := nt h1
       have g2 := of_decide_eq_false h2
       have g3 := of_decide_eq_false h3
       have g4 := queueB_len g1
       have e1 : IntKind.i64.wrap (p + 1) = p + 1 := wrapI (by omega) (by omega)
       have e2 : (p + 1).toNat = p.toNat + 1 := by omega
       first
         | exact Ob.mk ⟨by omega, by omega⟩
         | exact Ob.mk ⟨by omega, by rw [e1]; omega, by rw [e1]; omega⟩
         | (refine Ob.mk ?_
            simp only [Rw.sub, Rw.len, Rw.bts, Rw.kd, kdBytes, List.length_cons, List.length_nil, List.length_append, List.length_take, List.length_drop, e1, e2, Int.toNat_natCast, Int.toNat_zero]
            omega)
         | (rw [takeQ_yes g1 h2 h3, e1, e2] <;> rfl)
         | (rw [takeQ_yes g1 h2 h3] <;> rfl)
         | (rw [takeQ_yes g1 h2 h3, e1, e2]
            simp
            done))
    | skip
theorem k_SameMsgs : Known Try.prog tau 32 (S2 dMsgs dMsgs fun a b => okB (decide (a = b))) := by
  refine known2 hmix tau_ok (ctx_cons k_SameMsg ctx_nil) (fn := Try.f32) (by kernel_rfl) [(6, [(0, 0), (1, 0), (2, 3), (3, 4), (4, 0), (5, 0), (6, 48), (7, 64), (8, 136), (9, 256)])] (by kernel_rfl) _ _ _ fun xs ys hfit => ⟨rfl,
    [(4, invN [4, 5, 11, 12, 13, 14, 15, 16, 17, 18, 19, 20, 21, 22, 23, 24, 25, 26] (fun i => i ≤ xs.length ∧ ∀ j, j < i → xs.getD j default = ys.getD j default) (fun i => withS [(5, .int .i64 i)]) (fun i => xs.length - i))], ?_⟩
  have hlen : xs.length * 104 ≤ 140737488355328 := hfit.1.1
  clear hfit
  (repeat' (first | ((with_reducible refine body_intro ?_); (first | refine seq_intro (fun Kv hN hX hR => ?_) | (conv => whnf))) | with_reducible refine body_stop (fun Kv hN hX hR => ?_) | with_reducible refine Stop.mk ?_ | with_reducible refine DrawJ.each ?_ | with_reducible exact SubJ.self _ | with_reducible refine SubJ.of ?_ | with_reducible refine seq_intro (fun Kv hN hX hR => ?_) | (with_reducible refine hN _ ?_; clear hN hX hR; clear Kv) | (with_reducible refine hX _ _ ?_; clear hN hX hR; clear Kv) | (with_reducible refine hR _ ?_; clear hN hX hR; clear Kv) | ((conv => whnf); first | with_reducible rfl | with_reducible exact True.intro | with_reducible refine (fun (_ : (_ : Prop)) => ?_) | with_reducible refine And.intro ?_ ?_ | (with_reducible refine hN _ ?_; clear hN hX hR; clear Kv) | (with_reducible refine hX _ _ ?_; clear hN hX hR; clear Kv) | (with_reducible refine hR _ ?_; clear hN hX hR; clear Kv) | with_reducible refine body_stop (fun Kv hN hX hR => ?_) | with_reducible refine Stop.mk ?_ | with_reducible refine DrawJ.each ?_ | with_reducible exact SubJ.self _ | with_reducible refine SubJ.of ?_))); all_goals (conv => whnf); all_goals (repeat (clear hN hX hR; clear Kv))
  all_goals first
    | (have h := of_decide_eq_false (nf (by with_reducible assumption))
       exact (decide_eq_false (fun e => h (by rw [e]))).symm)
    | (refine ⟨0, ⟨by omega, by intros; omega⟩, ?_⟩
       (repeat' (first | ((with_reducible refine body_intro ?_); (first | refine seq_intro (fun Kv hN hX hR => ?_) | (conv => whnf))) | with_reducible refine body_stop (fun Kv hN hX hR => ?_) | with_reducible refine Stop.mk ?_ | with_reducible refine DrawJ.each ?_ | with_reducible exact SubJ.self _ | with_reducible refine SubJ.of ?_ | with_reducible refine seq_intro (fun Kv hN hX hR => ?_) | (with_reducible refine hN _ ?_; clear hN hX hR; clear Kv) | (with_reducible refine hX _ _ ?_; clear hN hX hR; clear Kv) | (with_reducible refine hR _ ?_; clear hN hX hR; clear Kv) | ((conv => whnf); first | with_reducible rfl | with_reducible exact True.intro | with_reducible intro _ | with_reducible refine And.intro ?_ ?_ | (with_reducible refine hN _ ?_; clear hN hX hR; clear Kv) | (with_reducible refine hX _ _ ?_; clear hN hX hR; clear Kv) | (with_reducible refine hR _ ?_; clear hN hX hR; clear Kv) | with_reducible refine body_stop (fun Kv hN hX hR => ?_) | with_reducible refine Stop.mk ?_ | with_reducible refine DrawJ.each ?_ | with_reducible exact SubJ.self _ | with_reducible refine SubJ.of ?_))); all_goals (conv => whnf); all_goals (repeat (clear hN hX hR; clear Kv))
       all_goals rfl)
    | (with_reducible intro i hi
       have hl : (xs.length : Int) = ys.length := of_decide_eq_true (nt (by with_reducible assumption))
       (repeat' (first | ((with_reducible refine body_intro ?_); (first | refine seq_intro (fun Kv hN hX hR => ?_) | (conv => whnf))) | with_reducible refine body_stop (fun Kv hN hX hR => ?_) | with_reducible refine Stop.mk ?_ | with_reducible refine DrawJ.each ?_ | with_reducible exact SubJ.self _ | with_reducible refine SubJ.of ?_ | with_reducible refine seq_intro (fun Kv hN hX hR => ?_) | (with_reducible refine hN _ ?_; clear hN hX hR; clear Kv) | (with_reducible refine hX _ _ ?_; clear hN hX hR; clear Kv) | (with_reducible refine hR _ ?_; clear hN hX hR; clear Kv) | ((conv => whnf); first | with_reducible rfl | with_reducible exact True.intro | with_reducible intro _ | with_reducible refine And.intro ?_ ?_ | (with_reducible refine hN _ ?_; clear hN hX hR; clear Kv) | (with_reducible refine hX _ _ ?_; clear hN hX hR; clear Kv) | (with_reducible refine hR _ ?_; clear hN hX hR; clear Kv) | with_reducible refine body_stop (fun Kv hN hX hR => ?_) | with_reducible refine Stop.mk ?_ | with_reducible refine DrawJ.each ?_ | with_reducible exact SubJ.self _ | with_reducible refine SubJ.of ?_))); all_goals (conv => whnf); all_goals (repeat (clear hN hX hR; clear Kv))
       all_goals (try simp only [Int.toNat_natCast, etaMsg] at *)
       all_goals first
         | (have h := of_decide_eq_true (show decide ((i : Int) < (xs.length : Nat)) = true by with_reducible assumption)
            exact Ob.mk ⟨by omega, by omega⟩)
         | (have h3 := of_decide_eq_false (nf (by with_reducible assumption))
            exact (decide_eq_false (fun e => h3 (by rw [e]))).symm)
         | (have h := of_decide_eq_true (show decide ((i : Int) < (xs.length : Nat)) = true by with_reducible assumption)
            have h3 : xs.getD i default = ys.getD i default := of_decide_eq_true (nt (by with_reducible assumption))
            refine ⟨i + 1, ⟨by omega, fun j hj => ?_⟩, by show xs.length - (i + 1) < xs.length - i; omega, ?_⟩
            · rcases Nat.lt_succ_iff_lt_or_eq.1 hj with h4 | h4
              · exact hi.2 j h4
              · subst h4; exact h3
            · (repeat' (first | ((with_reducible refine body_intro ?_); (first | refine seq_intro (fun Kv hN hX hR => ?_) | (conv => whnf))) | with_reducible refine body_stop (fun Kv hN hX hR => ?_) | with_reducible refine Stop.mk ?_ | with_reducible refine DrawJ.each ?_ | with_reducible exact SubJ.self _ | with_reducible refine SubJ.of ?_ | with_reducible refine seq_intro (fun Kv hN hX hR => ?_) | (with_reducible refine hN _ ?_; clear hN hX hR; clear Kv) | (with_reducible refine hX _ _ ?_; clear hN hX hR; clear Kv) | (with_reducible refine hR _ ?_; clear hN hX hR; clear Kv) | ((conv => whnf); first | with_reducible rfl | with_reducible exact True.intro | with_reducible intro _ | with_reducible refine And.intro ?_ ?_ | (with_reducible refine hN _ ?_; clear hN hX hR; clear Kv) | (with_reducible refine hX _ _ ?_; clear hN hX hR; clear Kv) | (with_reducible refine hR _ ?_; clear hN hX hR; clear Kv) | with_reducible refine body_stop (fun Kv hN hX hR => ?_) | with_reducible refine Stop.mk ?_ | with_reducible refine DrawJ.each ?_ | with_reducible exact SubJ.self _ | with_reducible refine SubJ.of ?_))); all_goals (conv => whnf); all_goals (repeat (clear hN hX hR; clear Kv))
              all_goals first
                | exact wrapI (by omega) (by omega)
                | rfl)
         | (have h := of_decide_eq_false (show decide ((i : Int) < (xs.length : Nat)) = false by with_reducible assumption)
            exact (decide_eq_true (eq_of_take (d := default) (by omega) fun j hj => hi.2 j (by omega))).symm)
         | skip)
    | skip
end Go.Proofs.Ytmgccphapkmmeaa

/- Chapter 14: the laws' functions. -/
namespace Go.Proofs.Ytmgccphapkmmeaa
open Go.RowKit

def qa : GMsg := ⟨0, 1, 2, [7], 0, ⟨0, ⟨0, 0⟩, 0, false⟩, false⟩
def qb : GMsg := ⟨2, 2, 1, [], 9, ⟨0, ⟨0, 0⟩, 0, false⟩, false⟩
theorem aw14_add : addQ [⟨0, 1, 2, [7], 0, ⟨0, ⟨0, 0⟩, 0, false⟩, false⟩] ⟨2, 2, 1, [], 9, ⟨0, ⟨0, 0⟩, 0, false⟩, false⟩ = ([⟨0, 1, 2, [7], 0, ⟨0, ⟨0, 0⟩, 0, false⟩, false⟩, ⟨2, 2, 1, [], 9, ⟨0, ⟨0, 0⟩, 0, false⟩, false⟩], 0) := by rw [addQ_def]; decide
theorem aw14_take : takeQ [⟨0, 1, 2, [7], 0, ⟨0, ⟨0, 0⟩, 0, false⟩, false⟩, ⟨2, 2, 1, [], 9, ⟨0, ⟨0, 0⟩, 0, false⟩, false⟩] 0 = (⟨0, 1, 2, [7], 0, ⟨0, ⟨0, 0⟩, 0, false⟩, false⟩, [⟨2, 2, 1, [], 9, ⟨0, ⟨0, 0⟩, 0, false⟩, false⟩], 0) := by rw [takeQ_def]; decide
theorem aw14_bad : addQ [⟨0, 1, 2, [7], 0, ⟨0, ⟨0, 0⟩, 0, false⟩, false⟩, ⟨2, 2, 1, [], 9, ⟨0, ⟨0, 0⟩, 0, false⟩, false⟩] ⟨0, 0, 0, [], 0, ⟨0, ⟨0, 0⟩, 0, false⟩, false⟩ = ([], 1400) := by rw [addQ_def]; decide
theorem aw14_past : takeQ [⟨0, 1, 2, [7], 0, ⟨0, ⟨0, 0⟩, 0, false⟩, false⟩, ⟨2, 2, 1, [], 9, ⟨0, ⟨0, 0⟩, 0, false⟩, false⟩] 2 = (msgZ, [], 1400) := by rw [takeQ_def]; decide
theorem aw14_may : queueB [⟨0, 1, 2, [7], 0, ⟨0, ⟨0, 0⟩, 0, false⟩, false⟩, ⟨2, 2, 1, [], 9, ⟨0, ⟨0, 0⟩, 0, false⟩, false⟩] = true := by decide
set_option maxHeartbeats 1000000 in
theorem k_awake14 : Known Try.prog tau 36 (S0 (okB true)) := by
  refine known0 hmix tau_ok (ctx_cons k_Add (ctx_cons k_Take (ctx_cons k_qMay (ctx_cons k_SameMsg (ctx_cons k_SameMsgs (ctx_cons k_Num ctx_nil)))))) (fn := Try.f36) (by kernel_rfl) [] (by kernel_rfl) _ fun hfit => ⟨rfl, [], ?_⟩
  clear hfit
  (repeat' (first | ((with_reducible refine body_intro ?_); (first | refine seq_intro (fun Kv hN hX hR => ?_) | (conv => whnf))) | with_reducible refine body_stop (fun Kv hN hX hR => ?_) | with_reducible refine Stop.mk ?_ | with_reducible refine DrawJ.each ?_ | with_reducible exact SubJ.self _ | with_reducible refine SubJ.of ?_ | with_reducible refine seq_intro (fun Kv hN hX hR => ?_) | (with_reducible refine hN _ ?_; clear hN hX hR; clear Kv) | (with_reducible refine hX _ _ ?_; clear hN hX hR; clear Kv) | (with_reducible refine hR _ ?_; clear hN hX hR; clear Kv) | ((conv => whnf); first | with_reducible rfl | with_reducible exact True.intro | with_reducible intro _ | with_reducible refine And.intro ?_ ?_ | (with_reducible refine hN _ ?_; clear hN hX hR; clear Kv) | (with_reducible refine hX _ _ ?_; clear hN hX hR; clear Kv) | (with_reducible refine hR _ ?_; clear hN hX hR; clear Kv) | with_reducible refine body_stop (fun Kv hN hX hR => ?_) | with_reducible refine Stop.mk ?_ | with_reducible refine DrawJ.each ?_ | with_reducible exact SubJ.self _ | with_reducible refine SubJ.of ?_))); all_goals (conv => whnf); all_goals (repeat (clear hN hX hR; clear Kv))
  all_goals (try simp only [aw14_add, aw14_take, aw14_bad, aw14_past, aw14_may] at *)
  all_goals first
    | (refine Ob.mk ?_; decide)
    | (simp_all; done)
    | rfl
    | skip
def gQ : GMsg := ⟨0, 1, 2, [], 0, ⟨0, ⟨0, 0⟩, 0, false⟩, false⟩
/-- A queue, so much of it full. -/
noncomputable def fullQ (k : Nat) : List GMsg := Classical.choose (seal_ex (List.replicate k gQ ++ List.replicate (512 - k) default))
theorem fullQ_def (k : Nat) : fullQ k = List.replicate k gQ ++ List.replicate (512 - k) default := Classical.choose_spec (seal_ex _)
theorem fullQ_len {k : Nat} (h : k ≤ 512) : (fullQ k).length = 512 := by rw [fullQ_def, List.length_append, List.length_replicate, List.length_replicate]; omega
theorem fullQ_set {k : Nat} (h : k < 512) : (fullQ k).set k gQ = fullQ (k + 1) := by
  rw [fullQ_def, fullQ_def, List.set_append_right _ _ (by simp), List.length_replicate, Nat.sub_self, show 512 - k = (512 - (k + 1)) + 1 by omega, List.replicate_succ, List.set_cons_zero, List.replicate_succ', List.append_assoc]
  rfl
theorem fullQ_zero : Rw.zeros 7 (Int.toNat 512) = .msgs (fullQ 0) := by
  rw [fullQ_def, List.replicate_zero, List.nil_append, Nat.sub_zero]
  rfl
theorem fullQ_may : queueB (fullQ 512) = true := by
  have : mayB gQ = true := by decide
  unfold queueB
  rw [fullQ_len (Nat.le_refl _), fullQ_def, Nat.sub_self, List.replicate_zero, List.append_nil, List.all_eq_true.2 (fun x hx => by rw [(List.mem_replicate.1 hx).2]; exact this)]
  rfl
theorem qf_full : addQ (fullQ 512) gQ = ([], 1401) := by
  rw [addQ_def, if_pos ⟨fullQ_may, by decide⟩, if_pos (fullQ_len (by omega))]
theorem qf_take {p : Int} (h : p < 0 ∨ 1 ≤ p) : takeQ [gQ] p = (msgZ, [], 1400) := by
  rw [takeQ_def, if_neg]
  rintro ⟨_, h1, h2⟩
  simp at h2
  omega
theorem qf_b : queueB [gQ, ⟨0, 1, 1, [], 0, ⟨0, ⟨0, 0⟩, 0, false⟩, false⟩] = false := by decide
theorem qf_pick (a b : Int) : let d := IntKind.i64.wrap (1 + bits .and .i64 b 1023); takeQ [gQ] ([IntKind.i64.wrap (0 - d), d].getD (bits .and .i64 a 1).toNat 0) = (msgZ, [], 1400) := by
  intro d
  have hd : d = 1 + b % 1024 := by
    show IntKind.i64.wrap (1 + bits .and .i64 b 1023) = _
    rw [and1023, wrapI (by omega) (by omega)]
  have hd2 : 1 ≤ d ∧ d ≤ 1024 := by omega
  have e : IntKind.i64.wrap (0 - d) = 0 - d := wrapI (by omega) (by omega)
  rw [and1, e]
  rcases (show a % 2 = 0 ∨ a % 2 = 1 by omega) with h | h
  · rw [h]
    exact qf_take (.inl (by show 0 - d < 0; omega))
  · rw [h]
    exact qf_take (.inr (by show 1 ≤ d; omega))
theorem qf_idx (a : Int) : 0 ≤ bits .and .i64 a 1 ∧ bits .and .i64 a 1 < 2 := by rw [and1]; omega
set_option maxHeartbeats 4000000 in
theorem k_QueueForms : Known Try.prog tau 12 (S2 dInt dInt fun a b => okB true) := by
  refine known2 hmix tau_ok (ctx_cons k_Add (ctx_cons k_Take (ctx_cons k_qMay (ctx_cons k_Num (ctx_cons k_awake14 ctx_nil))))) (fn := Try.f12) (by kernel_rfl) [(9, [(0, 0), (1, 1), (2, 0), (3, 4), (4, 0), (5, 24), (6, 0), (7, 64), (8, 160), (9, 256), (10, 514), (11, 1024), (12, 2048), (13, 2048), (14, 2048), (15, 0), (16, 40959), (17, 114687), (18, 262143)])] (by kernel_rfl) _ _ _ fun a b hfit => ⟨rfl,
    [(12, invX Nat [19, 66, 67, 68, 69, 70, 71, 72, 73] [65] (fun i => i ≤ 512) (fun i st => withS [(19, .int .i64 i)] (withR [(65, .own (.msgs (fullQ i)))] st)) (fun i => 512 - i))], ?_⟩
  clear hfit
  have h1 := qf_idx a
  have h2 : takeQ [gQ] ([IntKind.i64.wrap (0 - IntKind.i64.wrap (1 + bits .and .i64 b 1023)), IntKind.i64.wrap (1 + bits .and .i64 b 1023)].getD (bits .and .i64 a 1).toNat 0) = (msgZ, [], 1400) := qf_pick a b
  have h3 : addQ [gQ, ⟨0, 1, 1, [], 0, ⟨0, ⟨0, 0⟩, 0, false⟩, false⟩] gQ = ([], 1400) := addQ_no (.inl qf_b)
  have h4 : takeQ [gQ, ⟨0, 1, 1, [], 0, ⟨0, ⟨0, 0⟩, 0, false⟩, false⟩] 0 = (msgZ, [], 1400) := takeQ_no (.inl qf_b)
  have h5 : addQ [] ⟨0, 1, 1, [], 0, ⟨0, ⟨0, 0⟩, 0, false⟩, false⟩ = ([], 1400) := addQ_no (.inr (by decide))
  have h5' : addQ [] ([gQ, ⟨0, 1, 1, [], 0, ⟨0, ⟨0, 0⟩, 0, false⟩, false⟩].getD (Int.toNat 1) default) = ([], 1400) := h5
  have h6 := qf_full
  have h7 := fullQ_may
  have h8 := qf_b
  simp only [gQ] at h2 h3 h4 h5' h6 h8
  (repeat' (first | ((with_reducible refine body_intro ?_); (first | refine seq_intro (fun Kv hN hX hR => ?_) | (conv => whnf))) | with_reducible refine body_stop (fun Kv hN hX hR => ?_) | with_reducible refine Stop.mk ?_ | with_reducible apply DrawJ.join | with_reducible exact SubJ.self _ | ((with_reducible refine SubJ.of ?_); (repeat' (first | with_reducible rfl | ((conv => whnf) <;> (first | with_reducible exact True.intro | with_reducible refine And.intro ?_ ?_ | with_reducible rfl | ((conv => rhs; whnf) <;> with_reducible rfl))))); done) | with_reducible refine seq_intro (fun Kv hN hX hR => ?_) | (with_reducible refine hN _ ?_; clear hN hX hR; clear Kv) | (with_reducible refine hX _ _ ?_; clear hN hX hR; clear Kv) | (with_reducible refine hR _ ?_; clear hN hX hR; clear Kv) | ((conv => whnf); first | with_reducible rfl | with_reducible exact True.intro | with_reducible refine (fun (_ : (_ : Prop)) => ?_) | with_reducible refine And.intro ?_ ?_ | (with_reducible refine hN _ ?_; clear hN hX hR; clear Kv) | (with_reducible refine hX _ _ ?_; clear hN hX hR; clear Kv) | (with_reducible refine hR _ ?_; clear hN hX hR; clear Kv) | with_reducible refine body_stop (fun Kv hN hX hR => ?_) | with_reducible refine Stop.mk ?_ | with_reducible apply DrawJ.join | with_reducible exact SubJ.self _ | ((with_reducible refine SubJ.of ?_); (repeat' (first | with_reducible rfl | ((conv => whnf) <;> (first | with_reducible exact True.intro | with_reducible refine And.intro ?_ ?_ | with_reducible rfl | ((conv => rhs; whnf) <;> with_reducible rfl))))); done)))); all_goals (conv => whnf); all_goals (repeat (clear hN hX hR; clear Kv))
  all_goals first
    | (refine Ob.mk ?_; decide)
    | exact absurd (show (!true) = true by with_reducible assumption) (by decide)
    | exact Ob.mk h1
    | (refine ⟨0, by omega, ?_⟩
       (repeat' (first | ((with_reducible refine body_intro ?_); (first | refine seq_intro (fun Kv hN hX hR => ?_) | (conv => whnf))) | with_reducible refine body_stop (fun Kv hN hX hR => ?_) | with_reducible refine Stop.mk ?_ | with_reducible refine DrawJ.each ?_ | with_reducible exact SubJ.self _ | with_reducible refine SubJ.of ?_ | with_reducible refine seq_intro (fun Kv hN hX hR => ?_) | (with_reducible refine hN _ ?_; clear hN hX hR; clear Kv) | (with_reducible refine hX _ _ ?_; clear hN hX hR; clear Kv) | (with_reducible refine hR _ ?_; clear hN hX hR; clear Kv) | ((conv => whnf); first | with_reducible rfl | with_reducible exact True.intro | with_reducible intro _ | with_reducible refine And.intro ?_ ?_ | (with_reducible refine hN _ ?_; clear hN hX hR; clear Kv) | (with_reducible refine hX _ _ ?_; clear hN hX hR; clear Kv) | (with_reducible refine hR _ ?_; clear hN hX hR; clear Kv) | with_reducible refine body_stop (fun Kv hN hX hR => ?_) | with_reducible refine Stop.mk ?_ | with_reducible refine DrawJ.each ?_ | with_reducible exact SubJ.self _ | with_reducible refine SubJ.of ?_))); all_goals (conv => whnf); all_goals (repeat (clear hN hX hR; clear Kv))
       all_goals first
         | exact fullQ_zero.symm
         | exact fullQ_zero
         | rfl
         | skip
       all_goals trace_state)
    | (with_reducible intro i hi
       (repeat' (first | ((with_reducible refine body_intro ?_); (first | refine seq_intro (fun Kv hN hX hR => ?_) | (conv => whnf))) | with_reducible refine body_stop (fun Kv hN hX hR => ?_) | with_reducible refine Stop.mk ?_ | with_reducible refine DrawJ.each ?_ | with_reducible exact SubJ.self _ | with_reducible refine SubJ.of ?_ | with_reducible refine seq_intro (fun Kv hN hX hR => ?_) | (with_reducible refine hN _ ?_; clear hN hX hR; clear Kv) | (with_reducible refine hX _ _ ?_; clear hN hX hR; clear Kv) | (with_reducible refine hR _ ?_; clear hN hX hR; clear Kv) | ((conv => whnf); first | with_reducible rfl | with_reducible exact True.intro | with_reducible intro _ | with_reducible refine And.intro ?_ ?_ | (with_reducible refine hN _ ?_; clear hN hX hR; clear Kv) | (with_reducible refine hX _ _ ?_; clear hN hX hR; clear Kv) | (with_reducible refine hR _ ?_; clear hN hX hR; clear Kv) | with_reducible refine body_stop (fun Kv hN hX hR => ?_) | with_reducible refine Stop.mk ?_ | with_reducible refine DrawJ.each ?_ | with_reducible exact SubJ.self _ | with_reducible refine SubJ.of ?_))); all_goals (conv => whnf); all_goals (repeat (clear hN hX hR; clear Kv))
       all_goals first
         | (have h := of_decide_eq_true (show decide ((i : Int) < 512) = true by with_reducible assumption)
            have hl := fullQ_len (k := i) (by omega)
            exact Ob.mk ⟨by omega, by rw [hl]; exact h⟩)
         | (have h := of_decide_eq_true (show decide ((i : Int) < 512) = true by with_reducible assumption)
            refine ⟨i + 1, by omega, by show 512 - (i + 1) < 512 - i; omega, ?_⟩
            have e1 := fullQ_set (k := i) (by omega)
            (repeat' (first | ((with_reducible refine body_intro ?_); (first | refine seq_intro (fun Kv hN hX hR => ?_) | (conv => whnf))) | with_reducible refine body_stop (fun Kv hN hX hR => ?_) | with_reducible refine Stop.mk ?_ | with_reducible refine DrawJ.each ?_ | with_reducible exact SubJ.self _ | with_reducible refine SubJ.of ?_ | with_reducible refine seq_intro (fun Kv hN hX hR => ?_) | (with_reducible refine hN _ ?_; clear hN hX hR; clear Kv) | (with_reducible refine hX _ _ ?_; clear hN hX hR; clear Kv) | (with_reducible refine hR _ ?_; clear hN hX hR; clear Kv) | ((conv => whnf); first | with_reducible rfl | with_reducible exact True.intro | with_reducible intro _ | with_reducible refine And.intro ?_ ?_ | (with_reducible refine hN _ ?_; clear hN hX hR; clear Kv) | (with_reducible refine hX _ _ ?_; clear hN hX hR; clear Kv) | (with_reducible refine hR _ ?_; clear hN hX hR; clear Kv) | with_reducible refine body_stop (fun Kv hN hX hR => ?_) | with_reducible refine Stop.mk ?_ | with_reducible refine DrawJ.each ?_ | with_reducible exact SubJ.self _ | with_reducible refine SubJ.of ?_))); all_goals (conv => whnf); all_goals (repeat (clear hN hX hR; clear Kv))
            all_goals first
              | exact wrapI (by omega) (by omega)
              | exact congrArg Rw.msgs e1
              | rfl)
         | (have h := of_decide_eq_false (show decide ((i : Int) < 512) = false by with_reducible assumption)
            obtain rfl : i = 512 := by omega
            simp only [etaMsg, h2, h3, h4, h5', h6, h7, h8, decide_true, Bool.not_true, Bool.not_false, Bool.false_eq_true, Bool.true_eq_false, reduceCtorEq] at *
            done)
         | skip)
    | skip
end Go.Proofs.Ytmgccphapkmmeaa
