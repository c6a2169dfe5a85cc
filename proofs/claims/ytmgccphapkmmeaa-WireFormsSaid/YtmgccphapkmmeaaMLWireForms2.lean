/- A part of the proof of WireForms: VTau, F1, F2, F1m, F2m, VIn, VAr, VSt, F13a, P13, F13b, F13c, F13d, F13e, F13f, G13a, G12, G12b, G13b, G13d. -/
import Derived.Test.YtmgccphapkmmeaaMLWireForms1
import Derived.Test.YtmgccphapkmmeaaProg
import Derived.Tactics
import Derived.Tactics2
import Derived.StillTactics
import Derived.Laws.Pointers
import Derived.Laws.Small
import Derived.Laws.StructEq
import Derived.Laws.Tables
import Derived.Laws.Cover2
import Derived.KernelRfl
import Derived.Laws.Bits128
import Derived.Laws.Bits64
import Derived.Laws.Strings
/- The type table of the program, for the executor: written by wip/gen.py. -/
namespace Go.Proofs.Ytmgccphapkmmeaa
open Go.RowKit

def tauI : Tr TI := .node 25 (.node 12 (.node 4 (.node 3 (.leaf 2 (⟨.int .i64, 1, 8, [.int .i64 0]⟩)) (.leaf 3 (⟨.int .i64, 1, 8, [.int .i64 0]⟩))) (.node 5 (.leaf 4 (⟨.bool, 1, 1, [.bool false]⟩)) (.node 9 (.leaf 5 (⟨.int .u8, 1, 1, [.int .u8 0]⟩)) (.leaf 9 (⟨.str, 1, 16, [.str ByteArray.empty]⟩))))) (.node 22 (.node 21 (.leaf 12 (⟨.int .u64, 1, 8, [.int .u64 0]⟩)) (.leaf 21 (⟨.int .i32, 1, 4, [.int .i32 0]⟩))) (.node 23 (.leaf 22 (⟨.slice 3, 1, 24, [.nilS (mkEmpty 0)]⟩)) (.node 24 (.leaf 23 (⟨.struct [(0, 3), (1, 3)], 2, 16, [.int .i64 0, .int .i64 0]⟩)) (.leaf 24 (⟨.struct [(0, 3), (1, 3)], 2, 16, [.int .i64 0, .int .i64 0]⟩)))))) (.node 35 (.node 27 (.node 26 (.leaf 25 (⟨.struct [(0, 3), (1, 24), (3, 3), (4, 4)], 5, 40, [.int .i64 0, .int .i64 0, .int .i64 0, .int .i64 0, .bool false]⟩)) (.leaf 26 (⟨.struct [(0, 3), (1, 24), (3, 3), (4, 4)], 5, 40, [.int .i64 0, .int .i64 0, .int .i64 0, .int .i64 0, .bool false]⟩))) (.node 28 (.leaf 27 (⟨.struct [(0, 3), (1, 3), (2, 3), (3, 22), (4, 3), (5, 26), (10, 4)], 11, 104, [.int .i64 0, .int .i64 0, .int .i64 0, .nilS (mkEmpty 0), .int .i64 0, .int .i64 0, .int .i64 0, .int .i64 0, .int .i64 0, .bool false, .bool false]⟩)) (.node 33 (.leaf 28 (⟨.struct [(0, 3), (1, 3), (2, 3), (3, 22), (4, 3), (5, 26), (10, 4)], 11, 104, [.int .i64 0, .int .i64 0, .int .i64 0, .nilS (mkEmpty 0), .int .i64 0, .int .i64 0, .int .i64 0, .int .i64 0, .int .i64 0, .bool false, .bool false]⟩)) (.leaf 33 (⟨.int .i64, 1, 8, [.int .i64 0]⟩))))) (.node 50 (.node 36 (.leaf 35 (⟨.slice 28, 1, 24, [.nilS (mkEmpty 7)]⟩)) (.node 49 (.leaf 36 (⟨.int .u64, 1, 8, [.int .u64 0]⟩)) (.leaf 49 (⟨.slice 9, 1, 24, [.nilS (mkEmpty 2)]⟩)))) (.node 66 (.leaf 50 (⟨.slice 5, 1, 24, [.nilS (mkEmpty 1)]⟩)) (.node 93 (.leaf 66 (⟨.arr 12 4, 12, 12, flatZeros [.bool false] 12⟩)) (.leaf 93 (⟨.int .u32, 1, 4, [.int .u32 0]⟩))))))
def tauK : Tr Nat := .node 9 (.node 5 (.leaf 3 (0)) (.leaf 5 (1))) (.node 26 (.leaf 9 (2)) (.node 28 (.leaf 26 (4)) (.leaf 28 (7))))
def tauE : Tr Nat := .node 2 (.node 1 (.leaf 0 (3)) (.leaf 1 (5))) (.node 4 (.leaf 2 (9)) (.node 7 (.leaf 4 (26)) (.leaf 7 (28))))
def tauS : Tr (List Nat) := .node 26 (.leaf 24 ([0, 0])) (.leaf 26 ([0, 0, 0, 0, 1]))
def tau : Tys := mkTys tauI tauK tauE tauS
theorem eqv24 (n : Nat) (x0 y0 : Int) (x1 y1 : Int) (w : World) : (Op.equalIn (n + 2) 24 (.agg #[.int .i64 x0, .int .i64 x1]) (.agg #[.int .i64 y0, .int .i64 y1])).run Try.prog w = .ok (decide (x0 = y0) && (decide (x1 = y1))) w := by
  have u3 := Try.underlying3; have a3 := Try.isAgg3; have z3 := Try.sizeOf3
  have hS : Try.prog.underlying 24 = some (.struct (Try.prog.fieldsOf 24)) := by kernel_rfl
  have hp : Try.prog.stoodInHeld 24 = false := by kernel_rfl
  rw [run_equalIn_agg w (n + 1) 24 _ _ hS hp]
  simp only [Program.fieldsOf, Try.underlying24]
  go_simp
  by_cases h0 : x0 = y0 <;> by_cases h1 : x1 = y1 <;> simp [h0, h1]
theorem eqk24 : EqOk Try.prog 24 [0, 0] := by
  intro E R w a b us vs e g0 ha0 hb0
  obtain ⟨x0, y0, a0, b0, e0, rfl, rfl, g1, rfl⟩ := eqCells_int g0
  obtain ⟨_, us0, rfl, rfl, ha1⟩ := ha0.inv_cons
  obtain ⟨_, vs0, rfl, rfl, hb1⟩ := hb0.inv_cons
  obtain ⟨x1, y1, a1, b1, e1, rfl, rfl, g2, rfl⟩ := eqCells_int g1
  obtain ⟨_, us1, rfl, rfl, ha2⟩ := ha1.inv_cons
  obtain ⟨_, vs1, rfl, rfl, hb2⟩ := hb1.inv_cons
  obtain ⟨rfl, rfl, rfl⟩ := eqCells_nil g2
  obtain rfl := ha2.inv_nil
  obtain rfl := hb2.inv_nil
  refine ⟨fun op x y => run_eqGuard_agg w op 24 x y _ _ (by kernel_rfl), ?_⟩
  have := eqv24 9998 x0 y0 x1 y1 w
  simpa [Op.equal, Op.maxDepth] using this
theorem eqv26 (n : Nat) (x0 y0 : Int) (x1 y1 : Int) (x2 y2 : Int) (x3 y3 : Int) (x4 y4 : Bool) (w : World) : (Op.equalIn (n + 3) 26 (.agg #[.int .i64 x0, .int .i64 x1, .int .i64 x2, .int .i64 x3, .bool x4]) (.agg #[.int .i64 y0, .int .i64 y1, .int .i64 y2, .int .i64 y3, .bool y4])).run Try.prog w = .ok (decide (x0 = y0) && (decide (x1 = y1) && (decide (x2 = y2) && (decide (x3 = y3) && ((x4 == y4)))))) w := by
  have u3 := Try.underlying3; have a3 := Try.isAgg3; have z3 := Try.sizeOf3
  have u4 := Try.underlying4; have a4 := Try.isAgg4; have z4 := Try.sizeOf4
  have u24 := Try.underlying24; have a24 := Try.isAgg24; have z24 := Try.sizeOf24
  have q24 : ∀ (x0 y0 : Int) (x1 y1 : Int) (w : World), (Op.equalIn (n + 2) 24 (.agg #[.int .i64 x0, .int .i64 x1]) (.agg #[.int .i64 y0, .int .i64 y1])).run Try.prog w = .ok (decide (x0 = y0) && (decide (x1 = y1))) w := eqv24 n
  have hS : Try.prog.underlying 26 = some (.struct (Try.prog.fieldsOf 26)) := by kernel_rfl
  have hp : Try.prog.stoodInHeld 26 = false := by kernel_rfl
  rw [run_equalIn_agg w (n + 2) 26 _ _ hS hp]
  simp only [Program.fieldsOf, Try.underlying26]
  go_simp
  by_cases h0 : x0 = y0 <;> by_cases h1 : x1 = y1 <;> by_cases h2 : x2 = y2 <;> by_cases h3 : x3 = y3 <;> by_cases h4 : x4 = y4 <;> simp [h0, h1, h2, h3, h4]
theorem eqk26 : EqOk Try.prog 26 [0, 0, 0, 0, 1] := by
  intro E R w a b us vs e g0 ha0 hb0
  obtain ⟨x0, y0, a0, b0, e0, rfl, rfl, g1, rfl⟩ := eqCells_int g0
  obtain ⟨_, us0, rfl, rfl, ha1⟩ := ha0.inv_cons
  obtain ⟨_, vs0, rfl, rfl, hb1⟩ := hb0.inv_cons
  obtain ⟨x1, y1, a1, b1, e1, rfl, rfl, g2, rfl⟩ := eqCells_int g1
  obtain ⟨_, us1, rfl, rfl, ha2⟩ := ha1.inv_cons
  obtain ⟨_, vs1, rfl, rfl, hb2⟩ := hb1.inv_cons
  obtain ⟨x2, y2, a2, b2, e2, rfl, rfl, g3, rfl⟩ := eqCells_int g2
  obtain ⟨_, us2, rfl, rfl, ha3⟩ := ha2.inv_cons
  obtain ⟨_, vs2, rfl, rfl, hb3⟩ := hb2.inv_cons
  obtain ⟨x3, y3, a3, b3, e3, rfl, rfl, g4, rfl⟩ := eqCells_int g3
  obtain ⟨_, us3, rfl, rfl, ha4⟩ := ha3.inv_cons
  obtain ⟨_, vs3, rfl, rfl, hb4⟩ := hb3.inv_cons
  obtain ⟨sx4, sy4, x4, y4, a4, b4, e4, rfl, rfl, hx4, hy4, g5, rfl⟩ := eqCells_bool g4
  obtain ⟨_, us4, rfl, hu4, ha5⟩ := ha4.inv_cons
  obtain ⟨_, vs4, rfl, hv4, hb5⟩ := hb4.inv_cons
  obtain rfl := asBool_vd hx4 (vd_of_vd1 hu4)
  obtain rfl := asBool_vd hy4 (vd_of_vd1 hv4)
  obtain ⟨rfl, rfl, rfl⟩ := eqCells_nil g5
  obtain rfl := ha5.inv_nil
  obtain rfl := hb5.inv_nil
  refine ⟨fun op x y => run_eqGuard_agg w op 26 x y _ _ (by kernel_rfl), ?_⟩
  have := eqv26 9997 x0 y0 x1 y1 x2 y2 x3 y3 x4 y4 w
  simpa [Op.equal, Op.maxDepth] using this
theorem tauS_ok : ∀ T sh, tauS.get T = some sh → EqOk Try.prog T sh := by
  intro T sh h
  have hk : tauS.all (fun T sh => (Nat.beq T 24 && sh == [0, 0]) || (Nat.beq T 26 && sh == [0, 0, 0, 0, 1])) = true := by decide
  have := Tr.get_all hk T sh h
  simp only [Bool.or_eq_true, Bool.and_eq_true, beq_iff_eq] at this
  rcases this with h | h
  · obtain ⟨g, rfl⟩ := h; obtain rfl := Nat.eq_of_beq_eq_true g; exact eqk24
  · obtain ⟨g, rfl⟩ := h; obtain rfl := Nat.eq_of_beq_eq_true g; exact eqk26
theorem tau_ok : TysOk Try.prog tau := tys_ok (by kernel_rfl) (by kernel_rfl) tauS_ok
end Go.Proofs.Ytmgccphapkmmeaa

/- Contracts: ring, version, item, msg. -/
namespace Go.Proofs.Ytmgccphapkmmeaa
open Go.RowKit

theorem hmix : Try.prog.follows .mixedOrders = true := by kernel_rfl
def placeB (x : Int) : Bool := decide (0 ≤ x) && decide (x < 256)
def okB (b : Bool) : Out := .ok (.bool b) []
theorem all_take_succ {α : Type} {p : α → Prop} {l : List α} {i : Nat} {d : α} (hi : i < l.length) (h : ∀ x ∈ l.take i, p x) (hx : p (l.getD i d)) : ∀ x ∈ l.take (i + 1), p x := by
  intro x hm
  rw [List.take_succ_eq_append_getElem hi] at hm
  rcases List.mem_append.1 hm with hm | hm
  · exact h x hm
  · simp at hm
    subst hm
    simpa [List.getD_eq_getElem?_getD, hi] using hx
theorem getD_mem {α : Type} {l : List α} {i : Nat} {d : α} (hi : i < l.length) : l.getD i d ∈ l := by
  simp [List.getD_eq_getElem?_getD, hi]
theorem k_Place : Known Try.prog tau 37 (S1 dInt fun x => okB (placeB x)) := by
  refine known1 hmix tau_ok ctx_nil (fn := Try.f37) (by kernel_rfl) [] (by kernel_rfl) _ _ fun x hfit => ⟨rfl, [], ?_⟩
  (repeat' (first | ((with_reducible refine body_intro ?_); (first | refine seq_intro (fun Kv hN hX hR => ?_) | (conv => whnf))) | with_reducible refine body_stop (fun Kv hN hX hR => ?_) | with_reducible refine Stop.mk ?_ | with_reducible refine DrawJ.each ?_ | with_reducible exact SubJ.self _ | with_reducible refine SubJ.of ?_ | with_reducible refine seq_intro (fun Kv hN hX hR => ?_) | (with_reducible refine hN _ ?_; clear hN hX hR; clear Kv) | (with_reducible refine hX _ _ ?_; clear hN hX hR; clear Kv) | (with_reducible refine hR _ ?_; clear hN hX hR; clear Kv) | ((conv => whnf); first | with_reducible rfl | with_reducible exact True.intro | with_reducible intro _ | with_reducible refine And.intro ?_ ?_ | (with_reducible refine hN _ ?_; clear hN hX hR; clear Kv) | (with_reducible refine hX _ _ ?_; clear hN hX hR; clear Kv) | (with_reducible refine hR _ ?_; clear hN hX hR; clear Kv) | with_reducible refine body_stop (fun Kv hN hX hR => ?_) | with_reducible refine Stop.mk ?_ | with_reducible refine DrawJ.each ?_ | with_reducible exact SubJ.self _ | with_reducible refine SubJ.of ?_))); all_goals (conv => whnf); all_goals (repeat (clear hN hX hR; clear Kv))
  all_goals simp_all [placeB]
  all_goals omega
theorem k_Places : Known Try.prog tau 39 (S1 dInts fun l => okB (l.all placeB)) := by
  refine known1 hmix tau_ok (ctx_cons k_Place ctx_nil) (fn := Try.f39) (by kernel_rfl) [] (by kernel_rfl) _ _ fun xs hfit => ⟨rfl,
    [(2, invN [4, 7, 8, 9, 10, 11, 12, 13, 14] (fun i => i ≤ xs.length ∧ ∀ x ∈ xs.take i, placeB x = true) (fun i => withS [(7, .int .i64 i)]) (fun i => xs.length - i))], ?_⟩
  have hlen : xs.length * 8 ≤ 140737488355328 := hfit.1
  clear hfit
  (repeat' (first | ((with_reducible refine body_intro ?_); (first | refine seq_intro (fun Kv hN hX hR => ?_) | (conv => whnf))) | with_reducible refine body_stop (fun Kv hN hX hR => ?_) | with_reducible refine Stop.mk ?_ | with_reducible refine DrawJ.each ?_ | with_reducible exact SubJ.self _ | with_reducible refine SubJ.of ?_ | with_reducible refine seq_intro (fun Kv hN hX hR => ?_) | (with_reducible refine hN _ ?_; clear hN hX hR; clear Kv) | (with_reducible refine hX _ _ ?_; clear hN hX hR; clear Kv) | (with_reducible refine hR _ ?_; clear hN hX hR; clear Kv) | ((conv => whnf); first | with_reducible rfl | with_reducible exact True.intro | with_reducible intro _ | with_reducible refine And.intro ?_ ?_ | (with_reducible refine hN _ ?_; clear hN hX hR; clear Kv) | (with_reducible refine hX _ _ ?_; clear hN hX hR; clear Kv) | (with_reducible refine hR _ ?_; clear hN hX hR; clear Kv) | with_reducible refine body_stop (fun Kv hN hX hR => ?_) | with_reducible refine Stop.mk ?_ | with_reducible refine DrawJ.each ?_ | with_reducible exact SubJ.self _ | with_reducible refine SubJ.of ?_))); all_goals (conv => whnf); all_goals (repeat (clear hN hX hR; clear Kv))
  · refine ⟨0, ⟨by omega, by simp⟩, ?_⟩
    (repeat' (first | ((with_reducible refine body_intro ?_); (first | refine seq_intro (fun Kv hN hX hR => ?_) | (conv => whnf))) | with_reducible refine body_stop (fun Kv hN hX hR => ?_) | with_reducible refine Stop.mk ?_ | with_reducible refine DrawJ.each ?_ | with_reducible exact SubJ.self _ | with_reducible refine SubJ.of ?_ | with_reducible refine seq_intro (fun Kv hN hX hR => ?_) | (with_reducible refine hN _ ?_; clear hN hX hR; clear Kv) | (with_reducible refine hX _ _ ?_; clear hN hX hR; clear Kv) | (with_reducible refine hR _ ?_; clear hN hX hR; clear Kv) | ((conv => whnf); first | with_reducible rfl | with_reducible exact True.intro | with_reducible intro _ | with_reducible refine And.intro ?_ ?_ | (with_reducible refine hN _ ?_; clear hN hX hR; clear Kv) | (with_reducible refine hX _ _ ?_; clear hN hX hR; clear Kv) | (with_reducible refine hR _ ?_; clear hN hX hR; clear Kv) | with_reducible refine body_stop (fun Kv hN hX hR => ?_) | with_reducible refine Stop.mk ?_ | with_reducible refine DrawJ.each ?_ | with_reducible exact SubJ.self _ | with_reducible refine SubJ.of ?_))); all_goals (conv => whnf); all_goals (repeat (clear hN hX hR; clear Kv))
    all_goals rfl
  · rename_i i hi h
    simp at h
    exact Ob.mk ⟨by omega, by simpa using h⟩
  · rename_i i hi h1 h2 h3
    simp at h2
    simp at h3
    refine Eq.symm (List.all_eq_false.2 ⟨_, getD_mem (d := 0) h2, by simpa using h3⟩)
  · rename_i i hi h1 h2 h3
    simp at h2
    simp at h3
    refine ⟨i + 1, ⟨h2, all_take_succ h2 hi.2 h3⟩, by show xs.length - (i + 1) < xs.length - i; omega, ?_⟩
    (repeat' (first | ((with_reducible refine body_intro ?_); (first | refine seq_intro (fun Kv hN hX hR => ?_) | (conv => whnf))) | with_reducible refine body_stop (fun Kv hN hX hR => ?_) | with_reducible refine Stop.mk ?_ | with_reducible refine DrawJ.each ?_ | with_reducible exact SubJ.self _ | with_reducible refine SubJ.of ?_ | with_reducible refine seq_intro (fun Kv hN hX hR => ?_) | (with_reducible refine hN _ ?_; clear hN hX hR; clear Kv) | (with_reducible refine hX _ _ ?_; clear hN hX hR; clear Kv) | (with_reducible refine hR _ ?_; clear hN hX hR; clear Kv) | ((conv => whnf); first | with_reducible rfl | with_reducible exact True.intro | with_reducible intro _ | with_reducible refine And.intro ?_ ?_ | (with_reducible refine hN _ ?_; clear hN hX hR; clear Kv) | (with_reducible refine hX _ _ ?_; clear hN hX hR; clear Kv) | (with_reducible refine hR _ ?_; clear hN hX hR; clear Kv) | with_reducible refine body_stop (fun Kv hN hX hR => ?_) | with_reducible refine Stop.mk ?_ | with_reducible refine DrawJ.each ?_ | with_reducible exact SubJ.self _ | with_reducible refine SubJ.of ?_))); all_goals (conv => whnf); all_goals (repeat (clear hN hX hR; clear Kv))
    exact wrapI (by omega) (by omega)
  · rename_i i hi h1
    simp at h1
    obtain ⟨h2, h3⟩ := hi
    rw [List.take_of_length_le h1] at h3
    exact Eq.symm (List.all_eq_true.2 h3)
def verB (v : GVer) : Bool := decide (1 ≤ v.count) && (decide (v.count ≤ 65535) && placeB v.writer)
def itemB (i : GItem) : Bool := placeB i.key && (placeB i.value && (verB i.ver && (!i.gone || decide (i.value = 0))))
theorem k_Byte : Known Try.prog tau 57 (S1 dInt fun x => okB (placeB x)) := by
  refine known1 hmix tau_ok ctx_nil (fn := Try.f57) (by kernel_rfl) [] (by kernel_rfl) _ _ fun x hfit => ⟨rfl, [], ?_⟩
  (repeat' (first | ((with_reducible refine body_intro ?_); (first | refine seq_intro (fun Kv hN hX hR => ?_) | (conv => whnf))) | with_reducible refine body_stop (fun Kv hN hX hR => ?_) | with_reducible refine Stop.mk ?_ | with_reducible refine DrawJ.each ?_ | with_reducible exact SubJ.self _ | with_reducible refine SubJ.of ?_ | with_reducible refine seq_intro (fun Kv hN hX hR => ?_) | (with_reducible refine hN _ ?_; clear hN hX hR; clear Kv) | (with_reducible refine hX _ _ ?_; clear hN hX hR; clear Kv) | (with_reducible refine hR _ ?_; clear hN hX hR; clear Kv) | ((conv => whnf); first | with_reducible rfl | with_reducible exact True.intro | with_reducible intro _ | with_reducible refine And.intro ?_ ?_ | (with_reducible refine hN _ ?_; clear hN hX hR; clear Kv) | (with_reducible refine hX _ _ ?_; clear hN hX hR; clear Kv) | (with_reducible refine hR _ ?_; clear hN hX hR; clear Kv) | with_reducible refine body_stop (fun Kv hN hX hR => ?_) | with_reducible refine Stop.mk ?_ | with_reducible refine DrawJ.each ?_ | with_reducible exact SubJ.self _ | with_reducible refine SubJ.of ?_))); all_goals (conv => whnf); all_goals (repeat (clear hN hX hR; clear Kv))
  all_goals simp_all [placeB]
  all_goals omega
theorem k_VerMay : Known Try.prog tau 58 (S1 dVer fun x => okB (verB x)) := by
  refine known1 hmix tau_ok (ctx_cons k_Place ctx_nil) (fn := Try.f58) (by kernel_rfl) [] (by kernel_rfl) _ _ fun x hfit => ⟨rfl, [], ?_⟩
  (repeat' (first | ((with_reducible refine body_intro ?_); (first | refine seq_intro (fun Kv hN hX hR => ?_) | (conv => whnf))) | with_reducible refine body_stop (fun Kv hN hX hR => ?_) | with_reducible refine Stop.mk ?_ | with_reducible refine DrawJ.each ?_ | with_reducible exact SubJ.self _ | with_reducible refine SubJ.of ?_ | with_reducible refine seq_intro (fun Kv hN hX hR => ?_) | (with_reducible refine hN _ ?_; clear hN hX hR; clear Kv) | (with_reducible refine hX _ _ ?_; clear hN hX hR; clear Kv) | (with_reducible refine hR _ ?_; clear hN hX hR; clear Kv) | ((conv => whnf); first | with_reducible rfl | with_reducible exact True.intro | with_reducible intro _ | with_reducible refine And.intro ?_ ?_ | (with_reducible refine hN _ ?_; clear hN hX hR; clear Kv) | (with_reducible refine hX _ _ ?_; clear hN hX hR; clear Kv) | (with_reducible refine hR _ ?_; clear hN hX hR; clear Kv) | with_reducible refine body_stop (fun Kv hN hX hR => ?_) | with_reducible refine Stop.mk ?_ | with_reducible refine DrawJ.each ?_ | with_reducible exact SubJ.self _ | with_reducible refine SubJ.of ?_))); all_goals (conv => whnf); all_goals (repeat (clear hN hX hR; clear Kv))
  all_goals simp_all [verB]
  all_goals omega
theorem k_ItemMay : Known Try.prog tau 40 (S1 dItem fun x => okB (itemB x)) := by
  refine known1 hmix tau_ok (ctx_cons k_Byte (ctx_cons k_VerMay ctx_nil)) (fn := Try.f40) (by kernel_rfl) [] (by kernel_rfl) _ _ fun x hfit => ⟨rfl, [], ?_⟩
  (repeat' (first | ((with_reducible refine body_intro ?_); (first | refine seq_intro (fun Kv hN hX hR => ?_) | (conv => whnf))) | with_reducible refine body_stop (fun Kv hN hX hR => ?_) | with_reducible refine Stop.mk ?_ | with_reducible refine DrawJ.each ?_ | with_reducible exact SubJ.self _ | with_reducible refine SubJ.of ?_ | with_reducible refine seq_intro (fun Kv hN hX hR => ?_) | (with_reducible refine hN _ ?_; clear hN hX hR; clear Kv) | (with_reducible refine hX _ _ ?_; clear hN hX hR; clear Kv) | (with_reducible refine hR _ ?_; clear hN hX hR; clear Kv) | ((conv => whnf); first | with_reducible rfl | with_reducible exact True.intro | with_reducible intro _ | with_reducible refine And.intro ?_ ?_ | (with_reducible refine hN _ ?_; clear hN hX hR; clear Kv) | (with_reducible refine hX _ _ ?_; clear hN hX hR; clear Kv) | (with_reducible refine hR _ ?_; clear hN hX hR; clear Kv) | with_reducible refine body_stop (fun Kv hN hX hR => ?_) | with_reducible refine Stop.mk ?_ | with_reducible refine DrawJ.each ?_ | with_reducible exact SubJ.self _ | with_reducible refine SubJ.of ?_))); all_goals (conv => whnf); all_goals (repeat (clear hN hX hR; clear Kv))
  all_goals simp_all [itemB]
theorem k_refPlace : Known Try.prog tau 41 (S1 dInt fun x => okB (placeB x)) := by
  refine known1 hmix tau_ok ctx_nil (fn := Try.f41) (by kernel_rfl) [] (by kernel_rfl) _ _ fun x hfit => ⟨rfl, [], ?_⟩
  (repeat' (first | ((with_reducible refine body_intro ?_); (first | refine seq_intro (fun Kv hN hX hR => ?_) | (conv => whnf))) | with_reducible refine body_stop (fun Kv hN hX hR => ?_) | with_reducible refine Stop.mk ?_ | with_reducible refine DrawJ.each ?_ | with_reducible exact SubJ.self _ | with_reducible refine SubJ.of ?_ | with_reducible refine seq_intro (fun Kv hN hX hR => ?_) | (with_reducible refine hN _ ?_; clear hN hX hR; clear Kv) | (with_reducible refine hX _ _ ?_; clear hN hX hR; clear Kv) | (with_reducible refine hR _ ?_; clear hN hX hR; clear Kv) | ((conv => whnf); first | with_reducible rfl | with_reducible exact True.intro | with_reducible intro _ | with_reducible refine And.intro ?_ ?_ | (with_reducible refine hN _ ?_; clear hN hX hR; clear Kv) | (with_reducible refine hX _ _ ?_; clear hN hX hR; clear Kv) | (with_reducible refine hR _ ?_; clear hN hX hR; clear Kv) | with_reducible refine body_stop (fun Kv hN hX hR => ?_) | with_reducible refine Stop.mk ?_ | with_reducible refine DrawJ.each ?_ | with_reducible exact SubJ.self _ | with_reducible refine SubJ.of ?_))); all_goals (conv => whnf); all_goals (repeat (clear hN hX hR; clear Kv))
  all_goals simp_all [placeB]
  all_goals omega
theorem k_refByte : Known Try.prog tau 59 (S1 dInt fun x => okB (placeB x)) := by
  refine known1 hmix tau_ok ctx_nil (fn := Try.f59) (by kernel_rfl) [] (by kernel_rfl) _ _ fun x hfit => ⟨rfl, [], ?_⟩
  (repeat' (first | ((with_reducible refine body_intro ?_); (first | refine seq_intro (fun Kv hN hX hR => ?_) | (conv => whnf))) | with_reducible refine body_stop (fun Kv hN hX hR => ?_) | with_reducible refine Stop.mk ?_ | with_reducible refine DrawJ.each ?_ | with_reducible exact SubJ.self _ | with_reducible refine SubJ.of ?_ | with_reducible refine seq_intro (fun Kv hN hX hR => ?_) | (with_reducible refine hN _ ?_; clear hN hX hR; clear Kv) | (with_reducible refine hX _ _ ?_; clear hN hX hR; clear Kv) | (with_reducible refine hR _ ?_; clear hN hX hR; clear Kv) | ((conv => whnf); first | with_reducible rfl | with_reducible exact True.intro | with_reducible intro _ | with_reducible refine And.intro ?_ ?_ | (with_reducible refine hN _ ?_; clear hN hX hR; clear Kv) | (with_reducible refine hX _ _ ?_; clear hN hX hR; clear Kv) | (with_reducible refine hR _ ?_; clear hN hX hR; clear Kv) | with_reducible refine body_stop (fun Kv hN hX hR => ?_) | with_reducible refine Stop.mk ?_ | with_reducible refine DrawJ.each ?_ | with_reducible exact SubJ.self _ | with_reducible refine SubJ.of ?_))); all_goals (conv => whnf); all_goals (repeat (clear hN hX hR; clear Kv))
  all_goals simp_all [placeB]
  all_goals omega
theorem k_refPlaces : Known Try.prog tau 42 (S1 dInts fun l => okB (l.all placeB)) := by
  refine known1 hmix tau_ok (ctx_cons k_refPlace ctx_nil) (fn := Try.f42) (by kernel_rfl) [] (by kernel_rfl) _ _ fun xs hfit => ⟨rfl,
    [(2, invN [3, 4, 5, 6, 7, 8, 9, 10, 11, 12, 13, 14, 15] (fun i => i ≤ xs.length ∧ ∀ x ∈ xs.take i, placeB x = true) (fun i => withS [(3, .int .i64 i)]) (fun i => xs.length - i))], ?_⟩
  have hlen : xs.length * 8 ≤ 140737488355328 := hfit.1
  clear hfit
  (repeat' (first | ((with_reducible refine body_intro ?_); (first | refine seq_intro (fun Kv hN hX hR => ?_) | (conv => whnf))) | with_reducible refine body_stop (fun Kv hN hX hR => ?_) | with_reducible refine Stop.mk ?_ | with_reducible refine DrawJ.each ?_ | with_reducible exact SubJ.self _ | with_reducible refine SubJ.of ?_ | with_reducible refine seq_intro (fun Kv hN hX hR => ?_) | (with_reducible refine hN _ ?_; clear hN hX hR; clear Kv) | (with_reducible refine hX _ _ ?_; clear hN hX hR; clear Kv) | (with_reducible refine hR _ ?_; clear hN hX hR; clear Kv) | ((conv => whnf); first | with_reducible rfl | with_reducible exact True.intro | with_reducible intro _ | with_reducible refine And.intro ?_ ?_ | (with_reducible refine hN _ ?_; clear hN hX hR; clear Kv) | (with_reducible refine hX _ _ ?_; clear hN hX hR; clear Kv) | (with_reducible refine hR _ ?_; clear hN hX hR; clear Kv) | with_reducible refine body_stop (fun Kv hN hX hR => ?_) | with_reducible refine Stop.mk ?_ | with_reducible refine DrawJ.each ?_ | with_reducible exact SubJ.self _ | with_reducible refine SubJ.of ?_))); all_goals (conv => whnf); all_goals (repeat (clear hN hX hR; clear Kv))
  · refine ⟨0, ⟨by omega, by simp⟩, ?_⟩
    (repeat' (first | ((with_reducible refine body_intro ?_); (first | refine seq_intro (fun Kv hN hX hR => ?_) | (conv => whnf))) | with_reducible refine body_stop (fun Kv hN hX hR => ?_) | with_reducible refine Stop.mk ?_ | with_reducible refine DrawJ.each ?_ | with_reducible exact SubJ.self _ | with_reducible refine SubJ.of ?_ | with_reducible refine seq_intro (fun Kv hN hX hR => ?_) | (with_reducible refine hN _ ?_; clear hN hX hR; clear Kv) | (with_reducible refine hX _ _ ?_; clear hN hX hR; clear Kv) | (with_reducible refine hR _ ?_; clear hN hX hR; clear Kv) | ((conv => whnf); first | with_reducible rfl | with_reducible exact True.intro | with_reducible intro _ | with_reducible refine And.intro ?_ ?_ | (with_reducible refine hN _ ?_; clear hN hX hR; clear Kv) | (with_reducible refine hX _ _ ?_; clear hN hX hR; clear Kv) | (with_reducible refine hR _ ?_; clear hN hX hR; clear Kv) | with_reducible refine body_stop (fun Kv hN hX hR => ?_) | with_reducible refine Stop.mk ?_ | with_reducible refine DrawJ.each ?_ | with_reducible exact SubJ.self _ | with_reducible refine SubJ.of ?_))); all_goals (conv => whnf); all_goals (repeat (clear hN hX hR; clear Kv))
    all_goals rfl
  · rename_i i hi h
    simp at h
    exact Ob.mk ⟨by omega, by simpa using h⟩
  · rename_i i hi h1 h2 h3
    simp at h2
    simp at h3
    refine Eq.symm (List.all_eq_false.2 ⟨_, getD_mem (d := 0) h2, by simpa using h3⟩)
  · rename_i i hi h1 h2 h3
    simp at h2
    simp at h3
    refine ⟨i + 1, ⟨h2, all_take_succ h2 hi.2 h3⟩, by show xs.length - (i + 1) < xs.length - i; omega, ?_⟩
    (repeat' (first | ((with_reducible refine body_intro ?_); (first | refine seq_intro (fun Kv hN hX hR => ?_) | (conv => whnf))) | with_reducible refine body_stop (fun Kv hN hX hR => ?_) | with_reducible refine Stop.mk ?_ | with_reducible refine DrawJ.each ?_ | with_reducible exact SubJ.self _ | with_reducible refine SubJ.of ?_ | with_reducible refine seq_intro (fun Kv hN hX hR => ?_) | (with_reducible refine hN _ ?_; clear hN hX hR; clear Kv) | (with_reducible refine hX _ _ ?_; clear hN hX hR; clear Kv) | (with_reducible refine hR _ ?_; clear hN hX hR; clear Kv) | ((conv => whnf); first | with_reducible rfl | with_reducible exact True.intro | with_reducible intro _ | with_reducible refine And.intro ?_ ?_ | (with_reducible refine hN _ ?_; clear hN hX hR; clear Kv) | (with_reducible refine hX _ _ ?_; clear hN hX hR; clear Kv) | (with_reducible refine hR _ ?_; clear hN hX hR; clear Kv) | with_reducible refine body_stop (fun Kv hN hX hR => ?_) | with_reducible refine Stop.mk ?_ | with_reducible refine DrawJ.each ?_ | with_reducible exact SubJ.self _ | with_reducible refine SubJ.of ?_))); all_goals (conv => whnf); all_goals (repeat (clear hN hX hR; clear Kv))
    exact wrapI (by omega) (by omega)
  · rename_i i hi h1
    simp at h1
    obtain ⟨h2, h3⟩ := hi
    rw [List.take_of_length_le h1] at h3
    exact Eq.symm (List.all_eq_true.2 h3)
theorem k_refVer : Known Try.prog tau 60 (S1 dVer fun x => okB (verB x)) := by
  refine known1 hmix tau_ok (ctx_cons k_refPlace ctx_nil) (fn := Try.f60) (by kernel_rfl) [] (by kernel_rfl) _ _ fun x hfit => ⟨rfl, [], ?_⟩
  (repeat' (first | ((with_reducible refine body_intro ?_); (first | refine seq_intro (fun Kv hN hX hR => ?_) | (conv => whnf))) | with_reducible refine body_stop (fun Kv hN hX hR => ?_) | with_reducible refine Stop.mk ?_ | with_reducible refine DrawJ.each ?_ | with_reducible exact SubJ.self _ | with_reducible refine SubJ.of ?_ | with_reducible refine seq_intro (fun Kv hN hX hR => ?_) | (with_reducible refine hN _ ?_; clear hN hX hR; clear Kv) | (with_reducible refine hX _ _ ?_; clear hN hX hR; clear Kv) | (with_reducible refine hR _ ?_; clear hN hX hR; clear Kv) | ((conv => whnf); first | with_reducible rfl | with_reducible exact True.intro | with_reducible intro _ | with_reducible refine And.intro ?_ ?_ | (with_reducible refine hN _ ?_; clear hN hX hR; clear Kv) | (with_reducible refine hX _ _ ?_; clear hN hX hR; clear Kv) | (with_reducible refine hR _ ?_; clear hN hX hR; clear Kv) | with_reducible refine body_stop (fun Kv hN hX hR => ?_) | with_reducible refine Stop.mk ?_ | with_reducible refine DrawJ.each ?_ | with_reducible exact SubJ.self _ | with_reducible refine SubJ.of ?_))); all_goals (conv => whnf); all_goals (repeat (clear hN hX hR; clear Kv))
  all_goals simp_all [verB]
  all_goals omega
theorem k_refItem : Known Try.prog tau 43 (S1 dItem fun x => okB (itemB x)) := by
  refine known1 hmix tau_ok (ctx_cons k_refByte (ctx_cons k_refVer ctx_nil)) (fn := Try.f43) (by kernel_rfl) [] (by kernel_rfl) _ _ fun x hfit => ⟨rfl, [], ?_⟩
  (repeat' (first | ((with_reducible refine body_intro ?_); (first | refine seq_intro (fun Kv hN hX hR => ?_) | (conv => whnf))) | with_reducible refine body_stop (fun Kv hN hX hR => ?_) | with_reducible refine Stop.mk ?_ | with_reducible refine DrawJ.each ?_ | with_reducible exact SubJ.self _ | with_reducible refine SubJ.of ?_ | with_reducible refine seq_intro (fun Kv hN hX hR => ?_) | (with_reducible refine hN _ ?_; clear hN hX hR; clear Kv) | (with_reducible refine hX _ _ ?_; clear hN hX hR; clear Kv) | (with_reducible refine hR _ ?_; clear hN hX hR; clear Kv) | ((conv => whnf); first | with_reducible rfl | with_reducible exact True.intro | with_reducible intro _ | with_reducible refine And.intro ?_ ?_ | (with_reducible refine hN _ ?_; clear hN hX hR; clear Kv) | (with_reducible refine hX _ _ ?_; clear hN hX hR; clear Kv) | (with_reducible refine hR _ ?_; clear hN hX hR; clear Kv) | with_reducible refine body_stop (fun Kv hN hX hR => ?_) | with_reducible refine Stop.mk ?_ | with_reducible refine DrawJ.each ?_ | with_reducible exact SubJ.self _ | with_reducible refine SubJ.of ?_))); all_goals (conv => whnf); all_goals (repeat (clear hN hX hR; clear Kv))
  all_goals simp_all [itemB]
end Go.Proofs.Ytmgccphapkmmeaa

/- Contracts: the laws' own small functions. -/
namespace Go.Proofs.Ytmgccphapkmmeaa
open Go.RowKit

theorem k_Num : Known Try.prog tau 19 (S1 dInt fun x => .ok (.int .i64 x) []) := by
  refine known1 hmix tau_ok ctx_nil (fn := Try.f19) (by kernel_rfl) [] (by kernel_rfl) _ _ fun x hfit => ⟨rfl, [], ?_⟩
  (repeat' (first | ((with_reducible refine body_intro ?_); (first | refine seq_intro (fun Kv hN hX hR => ?_) | (conv => whnf))) | with_reducible refine body_stop (fun Kv hN hX hR => ?_) | with_reducible refine Stop.mk ?_ | with_reducible refine DrawJ.each ?_ | with_reducible exact SubJ.self _ | with_reducible refine SubJ.of ?_ | with_reducible refine seq_intro (fun Kv hN hX hR => ?_) | (with_reducible refine hN _ ?_; clear hN hX hR; clear Kv) | (with_reducible refine hX _ _ ?_; clear hN hX hR; clear Kv) | (with_reducible refine hR _ ?_; clear hN hX hR; clear Kv) | ((conv => whnf); first | with_reducible rfl | with_reducible exact True.intro | with_reducible intro _ | with_reducible refine And.intro ?_ ?_ | (with_reducible refine hN _ ?_; clear hN hX hR; clear Kv) | (with_reducible refine hX _ _ ?_; clear hN hX hR; clear Kv) | (with_reducible refine hR _ ?_; clear hN hX hR; clear Kv) | with_reducible refine body_stop (fun Kv hN hX hR => ?_) | with_reducible refine Stop.mk ?_ | with_reducible refine DrawJ.each ?_ | with_reducible exact SubJ.self _ | with_reducible refine SubJ.of ?_))); all_goals (conv => whnf); all_goals (repeat (clear hN hX hR; clear Kv))
theorem eq_of_take {α : Type} {d : α} {xs ys : List α} (hl : xs.length = ys.length) (h : ∀ j, j < xs.length → xs.getD j d = ys.getD j d) : xs = ys := by
  refine List.ext_getElem hl fun i h1 h2 => ?_
  have := h i h1
  simpa [List.getD_eq_getElem?_getD, h1, h2] using this
theorem k_SameInts : Known Try.prog tau 44 (S2 dInts dInts fun a b => okB (decide (a = b))) := by
  refine known2 hmix tau_ok ctx_nil (fn := Try.f44) (by kernel_rfl) [(6, [(0, 0), (1, 0), (2, 3), (3, 4), (4, 0), (5, 0), (6, 48), (7, 64), (8, 136)])] (by kernel_rfl) _ _ _ fun xs ys hfit => ⟨rfl,
    [(4, invN [4, 5, 11, 12, 13, 14, 15, 16, 17, 18, 19, 20, 21, 22, 23, 24, 25] (fun i => i ≤ xs.length ∧ ∀ j, j < i → xs.getD j 0 = ys.getD j 0) (fun i => withS [(5, .int .i64 i)]) (fun i => xs.length - i))], ?_⟩
  have hlen : xs.length * 8 ≤ 140737488355328 := hfit.1
  clear hfit
  (repeat' (first | ((with_reducible refine body_intro ?_); (first | refine seq_intro (fun Kv hN hX hR => ?_) | (conv => whnf))) | with_reducible refine body_stop (fun Kv hN hX hR => ?_) | with_reducible refine Stop.mk ?_ | with_reducible refine DrawJ.each ?_ | with_reducible exact SubJ.self _ | with_reducible refine SubJ.of ?_ | with_reducible refine seq_intro (fun Kv hN hX hR => ?_) | (with_reducible refine hN _ ?_; clear hN hX hR; clear Kv) | (with_reducible refine hX _ _ ?_; clear hN hX hR; clear Kv) | (with_reducible refine hR _ ?_; clear hN hX hR; clear Kv) | ((conv => whnf); first | with_reducible rfl | with_reducible exact True.intro | with_reducible intro _ | with_reducible refine And.intro ?_ ?_ | (with_reducible refine hN _ ?_; clear hN hX hR; clear Kv) | (with_reducible refine hX _ _ ?_; clear hN hX hR; clear Kv) | (with_reducible refine hR _ ?_; clear hN hX hR; clear Kv) | with_reducible refine body_stop (fun Kv hN hX hR => ?_) | with_reducible refine Stop.mk ?_ | with_reducible refine DrawJ.each ?_ | with_reducible exact SubJ.self _ | with_reducible refine SubJ.of ?_))); all_goals (conv => whnf); all_goals (repeat (clear hN hX hR; clear Kv))
  · rename_i h
    simp at h
    exact (decide_eq_false (fun e => h (by rw [e]))).symm
  · refine ⟨0, ⟨by omega, by intros; omega⟩, ?_⟩
    (repeat' (first | ((with_reducible refine body_intro ?_); (first | refine seq_intro (fun Kv hN hX hR => ?_) | (conv => whnf))) | with_reducible refine body_stop (fun Kv hN hX hR => ?_) | with_reducible refine Stop.mk ?_ | with_reducible refine DrawJ.each ?_ | with_reducible exact SubJ.self _ | with_reducible refine SubJ.of ?_ | with_reducible refine seq_intro (fun Kv hN hX hR => ?_) | (with_reducible refine hN _ ?_; clear hN hX hR; clear Kv) | (with_reducible refine hX _ _ ?_; clear hN hX hR; clear Kv) | (with_reducible refine hR _ ?_; clear hN hX hR; clear Kv) | ((conv => whnf); first | with_reducible rfl | with_reducible exact True.intro | with_reducible intro _ | with_reducible refine And.intro ?_ ?_ | (with_reducible refine hN _ ?_; clear hN hX hR; clear Kv) | (with_reducible refine hX _ _ ?_; clear hN hX hR; clear Kv) | (with_reducible refine hR _ ?_; clear hN hX hR; clear Kv) | with_reducible refine body_stop (fun Kv hN hX hR => ?_) | with_reducible refine Stop.mk ?_ | with_reducible refine DrawJ.each ?_ | with_reducible exact SubJ.self _ | with_reducible refine SubJ.of ?_))); all_goals (conv => whnf); all_goals (repeat (clear hN hX hR; clear Kv))
    all_goals rfl
  · rename_i hl i hi h
    simp at h
    exact Ob.mk ⟨by omega, by omega⟩
  · rename_i hl i hi h h2
    simp at hl
    exact Ob.mk ⟨by omega, by omega⟩
  · rename_i hl i hi h h1 h2 h3
    simp at h3
    exact (decide_eq_false (fun e => h3 (by rw [e]))).symm
  · rename_i hl i hi h h1 h2 h3
    simp at h3 h
    refine ⟨i + 1, ⟨by omega, fun j hj => ?_⟩, by show xs.length - (i + 1) < xs.length - i; omega, ?_⟩
    · rcases Nat.lt_succ_iff_lt_or_eq.1 hj with h4 | h4
      · exact hi.2 j h4
      · subst h4; simpa [List.getD_eq_getElem?_getD] using h3
    · (repeat' (first | ((with_reducible refine body_intro ?_); (first | refine seq_intro (fun Kv hN hX hR => ?_) | (conv => whnf))) | with_reducible refine body_stop (fun Kv hN hX hR => ?_) | with_reducible refine Stop.mk ?_ | with_reducible refine DrawJ.each ?_ | with_reducible exact SubJ.self _ | with_reducible refine SubJ.of ?_ | with_reducible refine seq_intro (fun Kv hN hX hR => ?_) | (with_reducible refine hN _ ?_; clear hN hX hR; clear Kv) | (with_reducible refine hX _ _ ?_; clear hN hX hR; clear Kv) | (with_reducible refine hR _ ?_; clear hN hX hR; clear Kv) | ((conv => whnf); first | with_reducible rfl | with_reducible exact True.intro | with_reducible intro _ | with_reducible refine And.intro ?_ ?_ | (with_reducible refine hN _ ?_; clear hN hX hR; clear Kv) | (with_reducible refine hX _ _ ?_; clear hN hX hR; clear Kv) | (with_reducible refine hR _ ?_; clear hN hX hR; clear Kv) | with_reducible refine body_stop (fun Kv hN hX hR => ?_) | with_reducible refine Stop.mk ?_ | with_reducible refine DrawJ.each ?_ | with_reducible exact SubJ.self _ | with_reducible refine SubJ.of ?_))); all_goals (conv => whnf); all_goals (repeat (clear hN hX hR; clear Kv))
      exact wrapI (by omega) (by omega)
  · rename_i hl i hi h
    simp at hl h
    exact (decide_eq_true (eq_of_take (d := 0) (by omega) fun j hj => hi.2 j (by omega))).symm
end Go.Proofs.Ytmgccphapkmmeaa

/- Contracts: msg. -/
namespace Go.Proofs.Ytmgccphapkmmeaa
open Go.RowKit

def item0B (i : GItem) : Bool := decide (i.key = 0) && (decide (i.ver.count = 0) && (decide (i.ver.writer = 0) && (decide (i.value = 0) && !i.gone)))
def noneB (m : GMsg) : Bool := decide (m.ids.length = 0) && (decide (m.key = 0) && (item0B m.item && !m.has))
theorem k_none : Known Try.prog tau 38 (S1 dMsg fun x => okB (noneB x)) := by
  refine known1 hmix tau_ok ctx_nil (fn := Try.f38) (by kernel_rfl) [] (by kernel_rfl) _ _ fun x hfit => ⟨rfl, [], ?_⟩
  (repeat' (first | ((with_reducible refine body_intro ?_); (first | refine seq_intro (fun Kv hN hX hR => ?_) | (conv => whnf))) | with_reducible refine body_stop (fun Kv hN hX hR => ?_) | with_reducible refine Stop.mk ?_ | with_reducible refine DrawJ.each ?_ | with_reducible exact SubJ.self _ | with_reducible refine SubJ.of ?_ | with_reducible refine seq_intro (fun Kv hN hX hR => ?_) | (with_reducible refine hN _ ?_; clear hN hX hR; clear Kv) | (with_reducible refine hX _ _ ?_; clear hN hX hR; clear Kv) | (with_reducible refine hR _ ?_; clear hN hX hR; clear Kv) | ((conv => whnf); first | with_reducible rfl | with_reducible exact True.intro | with_reducible intro _ | with_reducible refine And.intro ?_ ?_ | (with_reducible refine hN _ ?_; clear hN hX hR; clear Kv) | (with_reducible refine hX _ _ ?_; clear hN hX hR; clear Kv) | (with_reducible refine hR _ ?_; clear hN hX hR; clear Kv) | with_reducible refine body_stop (fun Kv hN hX hR => ?_) | with_reducible refine Stop.mk ?_ | with_reducible refine DrawJ.each ?_ | with_reducible exact SubJ.self _ | with_reducible refine SubJ.of ?_))); all_goals (conv => whnf); all_goals (repeat (clear hN hX hR; clear Kv))
  all_goals simp_all [noneB, item0B, Rw.len]
def bodyB (m : GMsg) : Bool :=
  if m.kind = 0 then noneB { m with ids := [] } && (decide ((m.ids.length : Int) ≤ 16) && m.ids.all placeB)
  else if m.kind = 1 then noneB { m with item := ⟨0, ⟨0, 0⟩, 0, false⟩ } && itemB m.item
  else if m.kind = 2 then noneB { m with key := 0 } && placeB m.key
  else if m.kind = 3 then decide (m.ids.length = 0) && (placeB m.key && ((!m.has && item0B m.item) || (m.has && (itemB m.item && decide (m.item.key = m.key)))))
  else false
def mayB (m : GMsg) : Bool := placeB m.src && (placeB m.dst && (!decide (m.src = m.dst) && bodyB m))
theorem k_MsgMay : Known Try.prog tau 16 (S1 dMsg fun x => okB (mayB x)) := by
  refine known1 hmix tau_ok (ctx_cons k_Place (ctx_cons k_Places (ctx_cons k_none (ctx_cons k_ItemMay ctx_nil)))) (fn := Try.f16) (by kernel_rfl) [] (by kernel_rfl) _ _ fun x hfit => ⟨rfl, [], ?_⟩
  clear hfit
  obtain ⟨kind, src, dst, ids, key, ⟨ik, ⟨ic, iw⟩, iv, ig⟩, has⟩ := x
  (repeat' (first | ((with_reducible refine body_intro ?_); (first | refine seq_intro (fun Kv hN hX hR => ?_) | (conv => whnf))) | with_reducible refine body_stop (fun Kv hN hX hR => ?_) | with_reducible refine Stop.mk ?_ | with_reducible refine DrawJ.each ?_ | with_reducible exact SubJ.self _ | with_reducible refine SubJ.of ?_ | with_reducible refine seq_intro (fun Kv hN hX hR => ?_) | (with_reducible refine hN _ ?_; clear hN hX hR; clear Kv) | (with_reducible refine hX _ _ ?_; clear hN hX hR; clear Kv) | (with_reducible refine hR _ ?_; clear hN hX hR; clear Kv) | ((conv => whnf); first | with_reducible rfl | with_reducible exact True.intro | with_reducible intro _ | with_reducible refine And.intro ?_ ?_ | (with_reducible refine hN _ ?_; clear hN hX hR; clear Kv) | (with_reducible refine hX _ _ ?_; clear hN hX hR; clear Kv) | (with_reducible refine hR _ ?_; clear hN hX hR; clear Kv) | with_reducible refine body_stop (fun Kv hN hX hR => ?_) | with_reducible refine Stop.mk ?_ | with_reducible refine DrawJ.each ?_ | with_reducible exact SubJ.self _ | with_reducible refine SubJ.of ?_))); all_goals (conv => whnf); all_goals (repeat (clear hN hX hR; clear Kv))
  all_goals (try simp_all [mayB, bodyB, noneB, item0B, Rw.len])
  all_goals (intros; omega)
theorem k_refMsg : Known Try.prog tau 17 (S1 dMsg fun x => okB (mayB x)) := by
  refine known1 hmix tau_ok (ctx_cons k_refPlace (ctx_cons k_refPlaces (ctx_cons k_refItem ctx_nil))) (fn := Try.f17) (by kernel_rfl) [] (by kernel_rfl) _ _ fun x hfit => ⟨rfl, [], ?_⟩
  clear hfit
  obtain ⟨kind, src, dst, ids, key, ⟨ik, ⟨ic, iw⟩, iv, ig⟩, has⟩ := x
  (repeat' (first | ((with_reducible refine body_intro ?_); (first | refine seq_intro (fun Kv hN hX hR => ?_) | (conv => whnf))) | with_reducible refine body_stop (fun Kv hN hX hR => ?_) | with_reducible refine Stop.mk ?_ | with_reducible refine DrawJ.each ?_ | with_reducible exact SubJ.self _ | with_reducible refine SubJ.of ?_ | with_reducible refine seq_intro (fun Kv hN hX hR => ?_) | (with_reducible refine hN _ ?_; clear hN hX hR; clear Kv) | (with_reducible refine hX _ _ ?_; clear hN hX hR; clear Kv) | (with_reducible refine hR _ ?_; clear hN hX hR; clear Kv) | ((conv => whnf); first | with_reducible rfl | with_reducible exact True.intro | with_reducible intro _ | with_reducible refine And.intro ?_ ?_ | (with_reducible refine hN _ ?_; clear hN hX hR; clear Kv) | (with_reducible refine hX _ _ ?_; clear hN hX hR; clear Kv) | (with_reducible refine hR _ ?_; clear hN hX hR; clear Kv) | with_reducible refine body_stop (fun Kv hN hX hR => ?_) | with_reducible refine Stop.mk ?_ | with_reducible refine DrawJ.each ?_ | with_reducible exact SubJ.self _ | with_reducible refine SubJ.of ?_))); all_goals (conv => whnf); all_goals (repeat (clear hN hX hR; clear Kv))
  all_goals (try simp_all [mayB, bodyB, noneB, item0B, Rw.len])
end Go.Proofs.Ytmgccphapkmmeaa

/- Contracts: the laws' own small functions, of messages. -/
namespace Go.Proofs.Ytmgccphapkmmeaa
open Go.RowKit

theorem k_SameMsg : Known Try.prog tau 18 (S2 dMsg dMsg fun a b => okB (decide (a = b))) := by
  refine known2 hmix tau_ok (ctx_cons k_SameInts ctx_nil) (fn := Try.f18) (by kernel_rfl) [] (by kernel_rfl) _ _ _ fun x y hfit => ⟨rfl, [], ?_⟩
  clear hfit
  obtain ⟨kind, src, dst, ids, key, ⟨ik, ⟨ic, iw⟩, iv, ig⟩, has⟩ := x
  obtain ⟨kind', src', dst', ids', key', ⟨ik', ⟨ic', iw'⟩, iv', ig'⟩, has'⟩ := y
  (repeat' (first | ((with_reducible refine body_intro ?_); (first | refine seq_intro (fun Kv hN hX hR => ?_) | (conv => whnf))) | with_reducible refine body_stop (fun Kv hN hX hR => ?_) | with_reducible refine Stop.mk ?_ | with_reducible refine DrawJ.each ?_ | with_reducible exact SubJ.self _ | with_reducible refine SubJ.of ?_ | with_reducible refine seq_intro (fun Kv hN hX hR => ?_) | (with_reducible refine hN _ ?_; clear hN hX hR; clear Kv) | (with_reducible refine hX _ _ ?_; clear hN hX hR; clear Kv) | (with_reducible refine hR _ ?_; clear hN hX hR; clear Kv) | ((conv => whnf); first | with_reducible rfl | with_reducible exact True.intro | with_reducible intro _ | with_reducible refine And.intro ?_ ?_ | (with_reducible refine hN _ ?_; clear hN hX hR; clear Kv) | (with_reducible refine hX _ _ ?_; clear hN hX hR; clear Kv) | (with_reducible refine hR _ ?_; clear hN hX hR; clear Kv) | with_reducible refine body_stop (fun Kv hN hX hR => ?_) | with_reducible refine Stop.mk ?_ | with_reducible refine DrawJ.each ?_ | with_reducible exact SubJ.self _ | with_reducible refine SubJ.of ?_))); all_goals (conv => whnf); all_goals (repeat (clear hN hX hR; clear Kv))
  all_goals (try simp_all)
  all_goals (cases has <;> cases has' <;> rfl)
theorem k_CopyMsg : Known Try.prog tau 15 (S1 dMsg fun m => .ok (.agg [.int .i64 m.kind, .int .i64 m.src, .int .i64 m.dst, .own 0, .int .i64 m.key, .int .i64 m.item.key, .int .i64 m.item.ver.count, .int .i64 m.item.ver.writer, .int .i64 m.item.value, .bool m.item.gone, .bool m.has]) [.ints m.ids]) := by
  refine known1 hmix tau_ok ctx_nil (fn := Try.f15) (by kernel_rfl) [] (by kernel_rfl) _ _ fun x hfit => ⟨rfl, [], ?_⟩
  (repeat' (first | ((with_reducible refine body_intro ?_); (first | refine seq_intro (fun Kv hN hX hR => ?_) | (conv => whnf))) | with_reducible refine body_stop (fun Kv hN hX hR => ?_) | with_reducible refine Stop.mk ?_ | with_reducible refine DrawJ.each ?_ | with_reducible exact SubJ.self _ | with_reducible refine SubJ.of ?_ | with_reducible refine seq_intro (fun Kv hN hX hR => ?_) | (with_reducible refine hN _ ?_; clear hN hX hR; clear Kv) | (with_reducible refine hX _ _ ?_; clear hN hX hR; clear Kv) | (with_reducible refine hR _ ?_; clear hN hX hR; clear Kv) | ((conv => whnf); first | with_reducible rfl | with_reducible exact True.intro | with_reducible intro _ | with_reducible refine And.intro ?_ ?_ | (with_reducible refine hN _ ?_; clear hN hX hR; clear Kv) | (with_reducible refine hX _ _ ?_; clear hN hX hR; clear Kv) | (with_reducible refine hR _ ?_; clear hN hX hR; clear Kv) | with_reducible refine body_stop (fun Kv hN hX hR => ?_) | with_reducible refine Stop.mk ?_ | with_reducible refine DrawJ.each ?_ | with_reducible exact SubJ.self _ | with_reducible refine SubJ.of ?_))); all_goals (conv => whnf); all_goals (repeat (clear hN hX hR; clear Kv))
  · have h : x.ids.length * 8 ≤ 140737488355328 := hfit.1.2.2.2.1
    exact Ob.mk (by simpa [Rw.len, Rw.bts, Rw.kd, kdBytes] using h)
  · rfl
end Go.Proofs.Ytmgccphapkmmeaa

/- A symbolic executor for loaded Go code: calls that are entered in place. -/
namespace Go.Proofs.Ytmgccphapkmmeaa
open Go.RowKit

def enterI : List SV → Nat → List (Nat × SV)
  | [], _ => []
  | v :: l, n => (n, v) :: enterI l (n + 1)
/-- Back in the caller's frame. -/
def popK (v : SV) (dep : Nat) (K : SV → St → Prop) : St → Prop
  | ⟨_, fr :: stk, bx, rw, _⟩ => K v ⟨fr, stk, bx, rw, dep⟩
  | _ => False
/-- A call entered in place. -/
noncomputable def inlT (τ : Tys) (C : Ctx) (D : Draws) (L : List (Nat × Inv)) (fn : Func) : CallT := fun args s K => match s with
  | ⟨fr, stk, bx, rw, dep⟩ => Stop (wpC τ C D L (fbody fn) ⟨enterI args 0, fr :: stk, bx, rw, dep + 10000000⟩ fun e s' => match e with
    | .exit _ => False
    | _ => resVals τ s' fn.results.toList [] fun vs => match notTup2 vs with
      | true => (oneOf vs).force fun v => popK v dep K s'
      | false => False)
where notTup2 : List SV → Bool
  | [] => true
  | [_] => true
  | vs => notTup vs
theorem enterI_lkv : ∀ (l : List SV) (us : List Value) (n t : Nat) (p : SV → Value → Prop), (∀ u, p .junk u) → L0 p l us → p (lkv (enterI l n) t) (if n ≤ t then (us[t - n]?).getD undef else undef)
  | [], us, n, t, p, hj, _ => by simp only [enterI, lkv]; exact hj _
  | x :: l, us, n, t, p, hj, h => by
    obtain ⟨u, us', rfl, h1, h2⟩ := h.inv_cons
    simp only [enterI, lkv]
    split
    · rename_i hk
      obtain rfl := Nat.eq_of_beq_eq_true hk
      simpa using h1
    · rename_i hk
      have hne : n ≠ t := fun e => by subst e; simp at hk
      have := enterI_lkv l us' (n + 1) t p hj h2
      by_cases h3 : n + 1 ≤ t
      · rw [if_pos h3] at this
        rw [if_pos (by omega)]
        obtain ⟨j, rfl⟩ : ∃ j, t = n + 1 + j := ⟨t - (n + 1), by omega⟩
        rw [show n + 1 + j - (n + 1) = j by omega] at this
        rw [show n + 1 + j - n = j + 1 by omega]
        simpa using this
      · rw [if_neg h3] at this
        rw [if_neg (by omega)]
        exact this
theorem notTup_spec : ∀ {vs : List SV}, notTup vs = true → ∀ x ∈ vs, ∀ c, x ≠ .tup c
  | [], _, x, hx => by simp at hx
  | y :: l, h, x, hx => by
    rcases List.mem_cons.1 hx with rfl | hx
    · rintro c rfl; simp [notTup] at h
    · refine notTup_spec (vs := l) ?_ x hx
      cases y <;> first | exact h | (simp [notTup] at h; done)
theorem notTup2_spec {vs : List SV} (h : inlT.notTup2 vs = true) : vs.length = 1 ∨ ∀ x ∈ vs, ∀ c, x ≠ .tup c := by
  unfold inlT.notTup2 at h
  split at h
  · exact .inr fun x hx => by simp at hx
  · exact .inl rfl
  · exact .inr (notTup_spec h)
theorem Den.push {τ : Tys} {w0 : World} {E : Env} {fr : List (Nat × SV)} {stk : List (List (Nat × SV))} {bx : List (Nat × (TypeId × List SV))} {rw' : List (Nat × Ent)} {dep : Nat} {aS : List (Array Value)} {w : World} (hd : Den τ w0 E ⟨fr, stk, bx, rw', dep⟩ aS w)
    {args : List SV} {vals : List Value} (ha : L0 (vd3 E rw' w) args vals) (n dep' : Nat) : Den τ w0 E ⟨enterI args 0, fr :: stk, bx, rw', dep'⟩ ((vals.toArray ++ Array.replicate n undef) :: aS) w := by
  refine ⟨hd.below, hd.bM, hd.Mh, hd.owb, ?_, hd.box, hd.own, hd.bb, hd.br, hd.rr⟩
  intro i f hf
  cases i with
  | zero =>
    simp at hf
    subst hf
    refine ⟨_, rfl, fun t => ?_⟩
    have := enterI_lkv args vals 0 t (vd3 E rw' w) (fun u => trivial) ha
    simp only [Nat.zero_le, if_true, Nat.sub_zero] at this
    have he : (vals.toArray ++ Array.replicate n undef).getD t undef = (vals[t]?).getD undef := by
      rw [Array.getD_eq_getD_getElem?, Array.getElem?_append]
      split
      · simp
      · rename_i hlt
        have : vals[t]? = none := by simpa using hlt
        rw [this, Array.getElem?_replicate]
        split <;> rfl
    show vd3 E rw' w _ _
    rw [he]
    exact this
  | succ i => exact hd.fr i f (by simpa using hf)
theorem Den.pop {τ : Tys} {w0 : World} {E : Env} {f0 fr : List (Nat × SV)} {stk : List (List (Nat × SV))} {bx : List (Nat × (TypeId × List SV))} {rw' : List (Nat × Ent)} {dep dep' : Nat} {a0 : Array Value} {aS : List (Array Value)} {w : World} (hd : Den τ w0 E ⟨f0, fr :: stk, bx, rw', dep⟩ (a0 :: aS) w) :
    Den τ w0 E ⟨fr, stk, bx, rw', dep'⟩ aS w := by
  refine ⟨hd.below, hd.bM, hd.Mh, hd.owb, ?_, hd.box, hd.own, hd.bb, hd.br, hd.rr⟩
  intro i f hf
  obtain ⟨b, hb, hfr⟩ := hd.fr (i + 1) f (by simpa using hf)
  exact ⟨b, by simpa using hb, hfr⟩
theorem inl_ok {P : Program} {τ : Tys} (hm : P.follows .mixedOrders = true) (hτ : TysOk P τ) {C : Ctx} (hC : CtxOk P τ C) {f : FuncId} {fn : Func} (hf : P.funcs[f]? = some fn) (D : Draws) (hok : fnOk D fn = true) (L : List (Nat × Inv)) : TrKnown P τ f (inlT τ C D L fn) := by
  refine ⟨fnOk_enters hf hok, ?_⟩
  simp only [fnOk, Bool.and_eq_true] at hok
  have hb : fn.body = some (fbody fn) := by
    cases hb : fn.body with
    | none => have := hok.1.1; rw [hb] at this; simp [isSome'] at this
    | some c => simp [fbody, hb]
  intro w0 E s aS w args vals K hd hargs hT
  obtain ⟨fr, stk, bx, rw', dep⟩ := s
  simp only [inlT] at hT
  replace hT := hT.out
  refine calls_of_wp hf hb (wpC_sound (w0 := w0) (base := E.base) (M := E.M) (nn := fn.ntmps) (aS := aS) hτ hC hm (fbody fn) _ _ _ _ _ hok.2 hT
    (⟨E, hd.push hargs (fn.ntmps - vals.toArray.size) _, rfl, Nat.le_refl _, by simp; omega, rfl⟩ : At τ w0 E.base E.M fn.ntmps aS ⟨enterI args 0, fr :: stk, bx, rw', dep + 10000000⟩ { tmps := vals.toArray ++ Array.replicate (fn.ntmps - vals.toArray.size) undef, defers := [] } w) ?_)
  intro e s a w' hk hat
  obtain ⟨E', hd', h1, h2, h3, h4⟩ := hat
  have fin : (resVals τ s fn.results.toList [] fun vs => match inlT.notTup2 vs with
      | true => (oneOf vs).force fun v => popK v dep K s
      | false => False) → a.defers = [] ∧ ∃ z, (results fn a.tmps).run P w' = .ok z w' ∧ ∃ z' v s' E', Ending.returned z = .returned z' ∧ K v s' ∧ Den τ w0 E' s' aS w' ∧ E'.base = E.base ∧ E.M ≤ E'.M ∧ vd3 E' s'.rows w' v z' := by
    intro hr
    obtain ⟨xs, vs, hK, hl, hlen, hg⟩ := resVals_ok hτ hd' fn.results.toList [] [] hr L0.nil
    simp only [List.nil_append] at hl
    split at hK
    · rename_i hno
      rw [SV.force_eq] at hK
      have hz := one_vd hl (notTup2_spec hno)
      obtain ⟨f0, stk0, bx0, rw0, dep0⟩ := s
      cases stk0 with
      | nil => exact hK.elim
      | cons fr0 stk0 => exact ⟨h4, oneV vs, results_list rfl hlen hg, oneV vs, _, _, E', rfl, hK, hd'.pop, h1, h2, hz⟩
    · exact hK.elim
  cases e with
  | exit id => exact hk.elim
  | normal => exact fin hk
  | ret => exact fin hk
end Go.Proofs.Ytmgccphapkmmeaa

/- A symbolic executor for loaded Go code: whole numbers, masks, remainders. -/
namespace Go.Proofs.Ytmgccphapkmmeaa
open Go.RowKit

theorem i64_mask (n : Int) (j : Nat) (hj : j < 63) : bits .and .i64 n (((2 ^ j - 1 : Nat) : Int)) = n % ((2 ^ j : Nat) : Int) := by
  have hp : (2 : Nat) ^ j < 2 ^ 63 := Nat.pow_lt_pow_right (by omega) hj
  have hpos : 0 < (2 : Nat) ^ j := Nat.pow_pos (by omega)
  have h1 : (BitVec.ofInt 64 (((2 ^ j - 1 : Nat) : Int))).toNat = 2 ^ j - 1 := by
    rw [BitVec.toNat_ofInt]
    omega
  have key : (BitVec.ofInt 64 n &&& BitVec.ofInt 64 (((2 ^ j - 1 : Nat) : Int))).toNat = (n % ((2 ^ 64 : Nat) : Int)).toNat % 2 ^ j := by
    rw [BitVec.toNat_and, BitVec.toNat_ofInt, h1, Nat.and_two_pow_sub_one_eq_mod]
  show IntKind.i64.wrap ((BitVec.ofInt 64 n &&& BitVec.ofInt 64 (((2 ^ j - 1 : Nat) : Int))).toNat : Nat) = _
  rw [key, IntKind.wrap_i64]
  have hd : ((2 ^ j : Nat) : Int) ∣ ((2 ^ 64 : Nat) : Int) := by
    have : (2 : Nat) ^ 64 = 2 ^ j * 2 ^ (64 - j) := by rw [← Nat.pow_add, show j + (64 - j) = 64 by omega]
    exact ⟨((2 ^ (64 - j) : Nat) : Int), by rw [this]; push_cast; rfl⟩
  have e1 : (((n % ((2 ^ 64 : Nat) : Int)).toNat % 2 ^ j : Nat) : Int) = n % ((2 ^ j : Nat) : Int) := by
    rw [Int.natCast_emod, Int.toNat_of_nonneg (Int.emod_nonneg _ (by decide))]
    exact Int.emod_emod_of_dvd n hd
  rw [e1]
  have := Int.emod_nonneg n (show ((2 ^ j : Nat) : Int) ≠ 0 by omega)
  have := Int.emod_lt_of_pos n (show (0 : Int) < ((2 ^ j : Nat) : Int) by omega)
  omega
theorem and1 (n : Int) : bits .and .i64 n 1 = n % 2 := i64_mask n 1 (by decide)
theorem and3 (n : Int) : bits .and .i64 n 3 = n % 4 := i64_mask n 2 (by decide)
theorem and7 (n : Int) : bits .and .i64 n 7 = n % 8 := i64_mask n 3 (by decide)
theorem and15 (n : Int) : bits .and .i64 n 15 = n % 16 := i64_mask n 4 (by decide)
theorem and127 (n : Int) : bits .and .i64 n 127 = n % 128 := i64_mask n 7 (by decide)
theorem and255 (n : Int) : bits .and .i64 n 255 = n % 256 := i64_mask n 8 (by decide)
theorem and1023 (n : Int) : bits .and .i64 n 1023 = n % 1024 := i64_mask n 10 (by decide)
theorem and65535 (n : Int) : bits .and .i64 n 65535 = n % 65536 := i64_mask n 16 (by decide)
theorem wi64 (n : Int) : IntKind.i64.wrap n = (n + 9223372036854775808) % 18446744073709551616 - 9223372036854775808 := IntKind.wrap_i64 n
theorem wu64 (n : Int) : IntKind.u64.wrap n = n % 18446744073709551616 := IntKind.wrap_u64 n
theorem wu8 (n : Int) : IntKind.u8.wrap n = n % 256 := IntKind.wrap_u8 n
/-- A remainder of numbers that aren't negative. -/
theorem tmod_pos {a b : Int} (h : 0 ≤ a) : a.tmod b = a % b := Int.tmod_eq_emod_of_nonneg h
/-- int(uint(n) % m) is a place below m. -/
theorem umod (n m : Int) (h : 0 < m) (h' : m < 9223372036854775808) : 0 ≤ (IntKind.u64.wrap n).tmod m ∧ (IntKind.u64.wrap n).tmod m < m ∧ IntKind.i64.wrap ((IntKind.u64.wrap n).tmod m) = (IntKind.u64.wrap n).tmod m := by
  have h0 : 0 ≤ IntKind.u64.wrap n := by rw [wu64]; omega
  rw [tmod_pos h0]
  have h1 := Int.emod_nonneg (IntKind.u64.wrap n) (show m ≠ 0 by omega)
  have h2 := Int.emod_lt_of_pos (IntKind.u64.wrap n) h
  refine ⟨h1, h2, wrapI (by omega) (by omega)⟩
end Go.Proofs.Ytmgccphapkmmeaa

/- A symbolic executor for loaded Go code: strings and their bytes. -/
namespace Go.Proofs.Ytmgccphapkmmeaa
open Go.RowKit

/-- The string of some bytes. -/
def bs (l : List Int) : ByteArray := ⟨(bytesOf l).toArray⟩
def InB (l : List Int) : Prop := ∀ x ∈ l, 0 ≤ x ∧ x < 256
theorem bytesOf_len (l : List Int) : (bytesOf l).length = l.length := by induction l <;> simp [bytesOf, *]
theorem bytesOf_app (a b : List Int) : bytesOf (a ++ b) = bytesOf a ++ bytesOf b := by induction a <;> simp [bytesOf, *]
theorem bs_size (l : List Int) : (bs l).size = l.length := by simp [bs, ByteArray.size, bytesOf_len]
theorem ba_ext {a b : ByteArray} (h : a.data = b.data) : a = b := by cases a; cases b; simp at h; rw [h]
theorem bs_app (a b : List Int) : bs a ++ bs b = bs (a ++ b) := by
  apply ba_ext
  simp [bs, bytesOf_app, ByteArray.data_append]
theorem bs_nil : bs [] = ByteArray.empty := rfl
theorem bytesL_bs {l : List Int} (h : InB l) : bytesL (bs l) = l := by
  induction l with
  | nil => simp [bytesL, bs, bytesOf]
  | cons x l ih =>
    have hx := h x (by simp)
    have ih := ih fun y hy => h y (by simp [hy])
    simp only [bytesL, bs, ByteArray.toList_mk] at ih ⊢
    simp only [bytesOf, List.map_cons, ih]
    congr 1
    have : (UInt8.ofNat x.toNat).toNat = x.toNat := by
      rw [UInt8.toNat_ofNat']
      omega
    rw [this]
    omega
theorem inB_bytesL (s : ByteArray) : InB (bytesL s) := by
  intro x hx
  simp only [bytesL, List.mem_map] at hx
  obtain ⟨b, _, rfl⟩ := hx
  have := b.toNat_lt
  omega
theorem bs_bytesL (s : ByteArray) : bs (bytesL s) = s := by
  apply ba_ext
  have key : ∀ l : List UInt8, bytesOf (l.map fun b => (b.toNat : Int)) = l := by
    intro l
    induction l with
    | nil => rfl
    | cons b l ih => simp [bytesOf, ih]
  simp only [bs, bytesL, key, ByteArray.toList_eq]
theorem byteAt_bytesL (s : ByteArray) (i : Nat) : byteAt s i = (bytesL s).getD i 0 := by
  rw [byteAt_def]
  split
  · rename_i h; rw [bytesL_get s h]
  · rename_i h
    rw [List.getD_eq_getElem?_getD, List.getElem?_eq_none (by rw [bytesL_len]; omega)]
    rfl
theorem getD_drop {α : Type} (l : List α) (a i : Nat) (d : α) : (l.drop a).getD i d = l.getD (a + i) d := by
  simp [List.getD_eq_getElem?_getD, List.getElem?_drop]
theorem bytesL_extract (s : ByteArray) (a : Nat) : bytesL (s.extract a s.size) = (bytesL s).drop a := by
  simp only [bytesL, ByteArray.toList_eq, ByteArray.data_extract]
  rw [← List.map_drop]
  congr 1
  simp only [ByteArray.size, Array.toList_extract, List.extract_eq_take_drop]
  rw [List.take_of_length_le (by simp)]
theorem str_beq (a b : ByteArray) : (a.toList == b.toList) = decide (a = b) := by
  by_cases h : a = b
  · subst h; simp
  · rw [decide_eq_false h]
    apply beq_eq_false_iff_ne.2
    intro e
    apply h
    apply ba_ext
    rw [ByteArray.toList_eq, ByteArray.toList_eq] at e
    exact Array.toList_inj.1 e
theorem bs_eq_iff {l : List Int} (h : InB l) (s : ByteArray) : bs l = s ↔ l = bytesL s := by
  constructor
  · rintro rfl; exact (bytesL_bs h).symm
  · rintro rfl; exact bs_bytesL s
/-- A byte. -/
def by8 (n : Int) : Int := IntKind.u8.wrap n
theorem by8_in (n : Int) : 0 ≤ by8 n ∧ by8 n < 256 := by unfold by8; rw [wu8]; omega
theorem by8_id {n : Int} (h : 0 ≤ n) (h' : n < 256) : by8 n = n := by unfold by8; rw [wu8]; omega
theorem wrap_byte (s : ByteArray) (i : Nat) : IntKind.i64.wrap (byteAt s i) = (bytesL s).getD i 0 := by
  rw [byteAt_bytesL]
  have : 0 ≤ (bytesL s).getD i 0 ∧ (bytesL s).getD i 0 < 256 := by
    by_cases h : i < (bytesL s).length
    · exact inB_bytesL s _ (by
        rw [List.getD_eq_getElem?_getD, List.getElem?_eq_getElem h]
        exact List.getElem_mem h)
    · rw [List.getD_eq_getElem?_getD, List.getElem?_eq_none (by omega)]
      exact ⟨by decide, by decide⟩
  exact wrapI (by omega) (by omega)
theorem getD_inB {l : List Int} (h : InB l) (i : Nat) : 0 ≤ l.getD i 0 ∧ l.getD i 0 < 256 := by
  by_cases hi : i < l.length
  · exact h _ (by
      rw [List.getD_eq_getElem?_getD, List.getElem?_eq_getElem hi]
      exact List.getElem_mem hi)
  · rw [List.getD_eq_getElem?_getD, List.getElem?_eq_none (by omega)]
    exact ⟨by decide, by decide⟩
theorem or_shl {a b : Int} (h1 : 0 ≤ a) (h2 : a < 256) (h3 : 0 ≤ b) (h4 : b < 256) : bits .or .i64 a (b * 256) = a + 256 * b := by
  obtain ⟨a, rfl⟩ := Int.eq_ofNat_of_zero_le h1
  obtain ⟨b, rfl⟩ := Int.eq_ofNat_of_zero_le h3
  have ha : (BitVec.ofInt 64 (a : Int)).toNat = a := by rw [BitVec.toNat_ofInt]; omega
  have hb : (BitVec.ofInt 64 ((b : Int) * 256)).toNat = b * 256 := by rw [BitVec.toNat_ofInt]; omega
  show IntKind.i64.wrap ((BitVec.ofInt 64 (a : Int) ||| BitVec.ofInt 64 ((b : Int) * 256)).toNat : Nat) = _
  rw [BitVec.toNat_or, ha, hb]
  have : a ||| b * 256 = 256 * b + a := by
    rw [Nat.or_comm, Nat.mul_comm]
    exact (Nat.two_pow_add_eq_or_of_lt (i := 8) (by omega) b).symm
  rw [this, wi64]
  omega
/-- Their sum. -/
def sumL (l : List Int) : Int := l.foldl (· + ·) 0
theorem sumL_app (a b : List Int) : sumL (a ++ b) = b.foldl (· + ·) (sumL a) := by simp [sumL, List.foldl_append]
theorem sumL_take {l : List Int} {i : Nat} (h : i < l.length) : sumL (l.take (i + 1)) = sumL (l.take i) + l.getD i 0 := by
  rw [List.take_succ_eq_append_getElem h, sumL_app]
  simp [List.getD_eq_getElem?_getD, h]
theorem by8_add (a b : Int) : IntKind.u8.wrap (by8 a + b) = by8 (a + b) := by
  unfold by8
  rw [wu8, wu8, wu8]
  omega
end Go.Proofs.Ytmgccphapkmmeaa

/- Contracts: a message's bytes. -/
namespace Go.Proofs.Ytmgccphapkmmeaa
open Go.RowKit

def b6 (i : GItem) : List Int := [by8 i.key, by8 i.ver.count, by8 (i.ver.count / 2 ^ (8 : Int).toNat), by8 i.ver.writer, by8 i.value, if i.gone = true then 1 else 0]
def itemBytes (i : GItem) : List Int := b6 i ++ [by8 (sumL (b6 i))]
def msgHead (m : GMsg) : List Int := [by8 m.kind, by8 m.src, by8 m.dst]
def msgRest (m : GMsg) : List Int :=
  if m.kind = 0 then by8 m.ids.length :: m.ids.map by8
  else if m.kind = 1 then itemBytes m.item
  else if m.kind = 2 then [by8 m.key]
  else if m.kind = 3 then [by8 m.key, if m.has = true then 1 else 0] ++ (if m.has = true then itemBytes m.item else [])
  else []
def msgBytes (m : GMsg) : List Int := msgHead m ++ msgRest m
/-- (Sealed: neither Lean nor its kernel looks into it.) -/
noncomputable def mPutS (m : GMsg) : ByteArray := Classical.choose (seal_ex (if mayB m = true then bs (msgBytes m) else ByteArray.empty))
theorem mPutS_def (m : GMsg) : mPutS m = if mayB m = true then bs (msgBytes m) else ByteArray.empty := Classical.choose_spec (seal_ex _)
noncomputable def mPutE (m : GMsg) : Int := Classical.choose (seal_ex (if mayB m = true then (0 : Int) else 1300))
theorem mPutE_def (m : GMsg) : mPutE m = if mayB m = true then 0 else 1300 := Classical.choose_spec (seal_ex _)
noncomputable def oPut (m : GMsg) : Out := .ok (.tup [.str (mPutS m), .int .i64 (mPutE m)]) []
theorem inB_b6 (i : GItem) : InB (b6 i) := by
  intro x hx
  simp only [b6, List.mem_cons, List.not_mem_nil, or_false] at hx
  rcases hx with rfl | rfl | rfl | rfl | rfl | rfl
  · exact by8_in _
  · exact by8_in _
  · exact by8_in _
  · exact by8_in _
  · exact by8_in _
  · split <;> omega
theorem sumL_bd {l : List Int} (h : InB l) : 0 ≤ sumL l ∧ sumL l ≤ 255 * l.length := by
  have key : ∀ (l : List Int) (a : Int), InB l → 0 ≤ a → 0 ≤ l.foldl (· + ·) a ∧ l.foldl (· + ·) a ≤ a + 255 * l.length := by
    intro l
    induction l with
    | nil => intro a _ ha; simp; omega
    | cons x l ih =>
      intro a hl ha
      have hx := hl x (by simp)
      have := ih (a + x) (fun y hy => hl y (by simp [hy])) (by omega)
      simp only [List.foldl_cons, List.length_cons]
      omega
  have := key l 0 h (by omega)
  unfold sumL
  omega
theorem inB_take {l : List Int} (h : InB l) (i : Nat) : InB (l.take i) := fun x hx => h x (List.mem_of_mem_take hx)
theorem k_bit : Known Try.prog tau 46 (S1 dBool fun b => .ok (.int .u8 (if b = true then 1 else 0)) []) := by
  refine known1 hmix tau_ok ctx_nil (fn := Try.f46) (by kernel_rfl) [] (by kernel_rfl) _ _ fun b hfit => ⟨rfl, [], ?_⟩
  (repeat' (first | ((with_reducible refine body_intro ?_); (first | refine seq_intro (fun Kv hN hX hR => ?_) | (conv => whnf))) | with_reducible refine body_stop (fun Kv hN hX hR => ?_) | with_reducible refine Stop.mk ?_ | with_reducible refine DrawJ.each ?_ | with_reducible exact SubJ.self _ | with_reducible refine SubJ.of ?_ | with_reducible refine seq_intro (fun Kv hN hX hR => ?_) | (with_reducible refine hN _ ?_; clear hN hX hR; clear Kv) | (with_reducible refine hX _ _ ?_; clear hN hX hR; clear Kv) | (with_reducible refine hR _ ?_; clear hN hX hR; clear Kv) | ((conv => whnf); first | with_reducible rfl | with_reducible exact True.intro | with_reducible intro _ | with_reducible refine And.intro ?_ ?_ | (with_reducible refine hN _ ?_; clear hN hX hR; clear Kv) | (with_reducible refine hX _ _ ?_; clear hN hX hR; clear Kv) | (with_reducible refine hR _ ?_; clear hN hX hR; clear Kv) | with_reducible refine body_stop (fun Kv hN hX hR => ?_) | with_reducible refine Stop.mk ?_ | with_reducible refine DrawJ.each ?_ | with_reducible exact SubJ.self _ | with_reducible refine SubJ.of ?_))); all_goals (conv => whnf); all_goals (repeat (clear hN hX hR; clear Kv))
  all_goals simp_all
theorem k_letter : Known Try.prog tau 47 (S1 dInt fun x => .ok (.str (bs [by8 x])) []) := by
  refine known1 hmix tau_ok ctx_nil (fn := Try.f47) (by kernel_rfl) [] (by kernel_rfl) _ _ fun b hfit => ⟨rfl, [], ?_⟩
  (repeat' (first | ((with_reducible refine body_intro ?_); (first | refine seq_intro (fun Kv hN hX hR => ?_) | (conv => whnf))) | with_reducible refine body_stop (fun Kv hN hX hR => ?_) | with_reducible refine Stop.mk ?_ | with_reducible refine DrawJ.each ?_ | with_reducible exact SubJ.self _ | with_reducible refine SubJ.of ?_ | with_reducible refine seq_intro (fun Kv hN hX hR => ?_) | (with_reducible refine hN _ ?_; clear hN hX hR; clear Kv) | (with_reducible refine hX _ _ ?_; clear hN hX hR; clear Kv) | (with_reducible refine hR _ ?_; clear hN hX hR; clear Kv) | ((conv => whnf); first | with_reducible rfl | with_reducible exact True.intro | with_reducible intro _ | with_reducible refine And.intro ?_ ?_ | (with_reducible refine hN _ ?_; clear hN hX hR; clear Kv) | (with_reducible refine hX _ _ ?_; clear hN hX hR; clear Kv) | (with_reducible refine hR _ ?_; clear hN hX hR; clear Kv) | with_reducible refine body_stop (fun Kv hN hX hR => ?_) | with_reducible refine Stop.mk ?_ | with_reducible refine DrawJ.each ?_ | with_reducible exact SubJ.self _ | with_reducible refine SubJ.of ?_))); all_goals (conv => whnf); all_goals (repeat (clear hN hX hR; clear Kv))
  all_goals rfl
theorem k_flag : Known Try.prog tau 49 (S1 dBool fun b => .ok (.int .i64 (if b = true then 1 else 0)) []) := by
  refine known1 hmix tau_ok ctx_nil (fn := Try.f49) (by kernel_rfl) [] (by kernel_rfl) _ _ fun b hfit => ⟨rfl, [], ?_⟩
  (repeat' (first | ((with_reducible refine body_intro ?_); (first | refine seq_intro (fun Kv hN hX hR => ?_) | (conv => whnf))) | with_reducible refine body_stop (fun Kv hN hX hR => ?_) | with_reducible refine Stop.mk ?_ | with_reducible refine DrawJ.each ?_ | with_reducible exact SubJ.self _ | with_reducible refine SubJ.of ?_ | with_reducible refine seq_intro (fun Kv hN hX hR => ?_) | (with_reducible refine hN _ ?_; clear hN hX hR; clear Kv) | (with_reducible refine hX _ _ ?_; clear hN hX hR; clear Kv) | (with_reducible refine hR _ ?_; clear hN hX hR; clear Kv) | ((conv => whnf); first | with_reducible rfl | with_reducible exact True.intro | with_reducible intro _ | with_reducible refine And.intro ?_ ?_ | (with_reducible refine hN _ ?_; clear hN hX hR; clear Kv) | (with_reducible refine hX _ _ ?_; clear hN hX hR; clear Kv) | (with_reducible refine hR _ ?_; clear hN hX hR; clear Kv) | with_reducible refine body_stop (fun Kv hN hX hR => ?_) | with_reducible refine Stop.mk ?_ | with_reducible refine DrawJ.each ?_ | with_reducible exact SubJ.self _ | with_reducible refine SubJ.of ?_))); all_goals (conv => whnf); all_goals (repeat (clear hN hX hR; clear Kv))
  all_goals simp_all
theorem k_put : Known Try.prog tau 45 (S1 dItem fun i => .ok (.own 0) [.bytes (itemBytes i)]) := by
  refine known1 hmix tau_ok (ctx_cons k_bit ctx_nil) (fn := Try.f45) (by kernel_rfl) [(1, [(0, 0), (1, 1), (2, 2), (3, 0), (4, 8), (5, 16), (6, 32), (7, 0), (8, 128), (9, 256), (10, 512), (11, 1024), (12, 0), (13, 4096), (14, 8192), (15, 16384), (16, 0), (17, 65536), (18, 131072), (19, 0), (20, 524288), (21, 1048576), (22, 2394180), (23, 8388607)])] (by kernel_rfl) _ _ fun x hfit => ⟨rfl,
    [(4, invN [4, 6, 32, 33, 34, 35, 36, 37, 38, 39] (fun i => i ≤ 6) (fun i => withS [(32, .int .i64 i), (4, .int .u8 (by8 (sumL ((b6 x).take i))))]) (fun i => 6 - i))], ?_⟩
  clear hfit
  have hb := inB_b6 x
  (repeat' (first | ((with_reducible refine body_intro ?_); (first | refine seq_intro (fun Kv hN hX hR => ?_) | (conv => whnf))) | with_reducible refine body_stop (fun Kv hN hX hR => ?_) | with_reducible refine Stop.mk ?_ | with_reducible refine DrawJ.each ?_ | with_reducible exact SubJ.self _ | with_reducible refine SubJ.of ?_ | with_reducible refine seq_intro (fun Kv hN hX hR => ?_) | (with_reducible refine hN _ ?_; clear hN hX hR; clear Kv) | (with_reducible refine hX _ _ ?_; clear hN hX hR; clear Kv) | (with_reducible refine hR _ ?_; clear hN hX hR; clear Kv) | ((conv => whnf); first | with_reducible rfl | with_reducible exact True.intro | with_reducible intro _ | with_reducible refine And.intro ?_ ?_ | (with_reducible refine hN _ ?_; clear hN hX hR; clear Kv) | (with_reducible refine hX _ _ ?_; clear hN hX hR; clear Kv) | (with_reducible refine hR _ ?_; clear hN hX hR; clear Kv) | with_reducible refine body_stop (fun Kv hN hX hR => ?_) | with_reducible refine Stop.mk ?_ | with_reducible refine DrawJ.each ?_ | with_reducible exact SubJ.self _ | with_reducible refine SubJ.of ?_))); all_goals (conv => whnf); all_goals (repeat (clear hN hX hR; clear Kv))
  · exact Ob.mk (by decide)
  · exact Ob.mk (by decide)
  · refine ⟨0, by omega, ?_⟩
    (repeat' (first | ((with_reducible refine body_intro ?_); (first | refine seq_intro (fun Kv hN hX hR => ?_) | (conv => whnf))) | with_reducible refine body_stop (fun Kv hN hX hR => ?_) | with_reducible refine Stop.mk ?_ | with_reducible refine DrawJ.each ?_ | with_reducible exact SubJ.self _ | with_reducible refine SubJ.of ?_ | with_reducible refine seq_intro (fun Kv hN hX hR => ?_) | (with_reducible refine hN _ ?_; clear hN hX hR; clear Kv) | (with_reducible refine hX _ _ ?_; clear hN hX hR; clear Kv) | (with_reducible refine hR _ ?_; clear hN hX hR; clear Kv) | ((conv => whnf); first | with_reducible rfl | with_reducible exact True.intro | with_reducible intro _ | with_reducible refine And.intro ?_ ?_ | (with_reducible refine hN _ ?_; clear hN hX hR; clear Kv) | (with_reducible refine hX _ _ ?_; clear hN hX hR; clear Kv) | (with_reducible refine hR _ ?_; clear hN hX hR; clear Kv) | with_reducible refine body_stop (fun Kv hN hX hR => ?_) | with_reducible refine Stop.mk ?_ | with_reducible refine DrawJ.each ?_ | with_reducible exact SubJ.self _ | with_reducible refine SubJ.of ?_))); all_goals (conv => whnf); all_goals (repeat (clear hN hX hR; clear Kv))
    all_goals rfl
  · rename_i i hi h
    have h : (i : Int) < 6 := of_decide_eq_true h
    exact Ob.mk ⟨by omega, h⟩
  · rename_i i hi h h2
    have h : (i : Int) < 6 := of_decide_eq_true h
    refine ⟨i + 1, by omega, by show 6 - (i + 1) < 6 - i; omega, ?_⟩
    have hs := sumL_take (show i < (b6 x).length by show i < 6; omega)
    (repeat' (first | ((with_reducible refine body_intro ?_); (first | refine seq_intro (fun Kv hN hX hR => ?_) | (conv => whnf))) | with_reducible refine body_stop (fun Kv hN hX hR => ?_) | with_reducible refine Stop.mk ?_ | with_reducible refine DrawJ.each ?_ | with_reducible exact SubJ.self _ | with_reducible refine SubJ.of ?_ | with_reducible refine seq_intro (fun Kv hN hX hR => ?_) | (with_reducible refine hN _ ?_; clear hN hX hR; clear Kv) | (with_reducible refine hX _ _ ?_; clear hN hX hR; clear Kv) | (with_reducible refine hR _ ?_; clear hN hX hR; clear Kv) | ((conv => whnf); first | with_reducible rfl | with_reducible exact True.intro | with_reducible intro _ | with_reducible refine And.intro ?_ ?_ | (with_reducible refine hN _ ?_; clear hN hX hR; clear Kv) | (with_reducible refine hX _ _ ?_; clear hN hX hR; clear Kv) | (with_reducible refine hR _ ?_; clear hN hX hR; clear Kv) | with_reducible refine body_stop (fun Kv hN hX hR => ?_) | with_reducible refine Stop.mk ?_ | with_reducible refine DrawJ.each ?_ | with_reducible exact SubJ.self _ | with_reducible refine SubJ.of ?_))); all_goals (conv => whnf); all_goals (repeat (clear hN hX hR; clear Kv))
    all_goals first
      | exact wrapI (by omega) (by omega)
      | (rw [hs]; exact by8_add _ _)
      | rfl
  · exact Ob.mk (by simp [Rw.len, Rw.bts, Rw.kd, kdBytes])
  · rename_i i hi h h2
    have h : ¬ (i : Int) < 6 := of_decide_eq_false h
    obtain rfl : i = 6 := by omega
    rfl
end Go.Proofs.Ytmgccphapkmmeaa

/- A message's bytes, without a program: what is put comes back. -/
namespace Go.Proofs.Ytmgccphapkmmeaa
open Go.RowKit

def item0 : GItem := ⟨0, ⟨0, 0⟩, 0, false⟩
def msg0 : GMsg := ⟨0, 0, 0, [], 0, item0, false⟩
def item7 (l : List Int) : GItem := ⟨l.getD 0 0, ⟨l.getD 1 0 + 256 * l.getD 2 0, l.getD 3 0⟩, l.getD 4 0, decide (l.getD 5 0 = 1)⟩
def getItemL (l : List Int) : GItem := if l.length = 7 then item7 l else item0
/-- As the program reads it. -/
def parse (l : List Int) : GMsg :=
  if l.getD 0 0 = 0 then ⟨l.getD 0 0, l.getD 1 0, l.getD 2 0, l.drop 4, 0, item0, false⟩
  else if l.getD 0 0 = 1 then ⟨l.getD 0 0, l.getD 1 0, l.getD 2 0, [], 0, getItemL (l.drop 3), false⟩
  else if l.getD 0 0 = 3 then
    if 1 < l.length - 3 ∧ l.getD 4 0 = 1 then ⟨l.getD 0 0, l.getD 1 0, l.getD 2 0, [], l.getD 3 0, getItemL (l.drop 5), true⟩
    else ⟨l.getD 0 0, l.getD 1 0, l.getD 2 0, [], l.getD 3 0, item0, false⟩
  else ⟨l.getD 0 0, l.getD 1 0, l.getD 2 0, [], l.getD 3 0, item0, false⟩
/-- As the document's answer reads it. -/
def parseR (l : List Int) : GMsg :=
  if l.getD 0 0 = 0 then ⟨l.getD 0 0, l.getD 1 0, l.getD 2 0, l.drop 4, 0, item0, false⟩
  else if l.getD 0 0 = 1 then ⟨l.getD 0 0, l.getD 1 0, l.getD 2 0, [], 0, if l.length = 10 then item7 (l.drop 3) else item0, false⟩
  else if l.getD 0 0 = 2 then ⟨l.getD 0 0, l.getD 1 0, l.getD 2 0, [], l.getD 3 0, item0, false⟩
  else if l.length = 12 then ⟨l.getD 0 0, l.getD 1 0, l.getD 2 0, [], l.getD 3 0, item7 (l.drop 5), true⟩
  else ⟨l.getD 0 0, l.getD 1 0, l.getD 2 0, [], l.getD 3 0, item0, false⟩
noncomputable def mGet (s : ByteArray) : GMsg × Int := Classical.choose (seal_ex (if 3 < s.size ∧ mayB (parse (bytesL s)) = true ∧ msgBytes (parse (bytesL s)) = bytesL s then (parse (bytesL s), (0 : Int)) else (msg0, 1300)))
theorem mGet_def (s : ByteArray) : mGet s = if 3 < s.size ∧ mayB (parse (bytesL s)) = true ∧ msgBytes (parse (bytesL s)) = bytesL s then (parse (bytesL s), 0) else (msg0, 1300) := Classical.choose_spec (seal_ex _)
theorem placeB_iff (x : Int) : placeB x = true ↔ 0 ≤ x ∧ x < 256 := by simp [placeB]
theorem item0B_iff (i : GItem) : item0B i = true ↔ i = item0 := by
  obtain ⟨k, ⟨c, w⟩, v, g⟩ := i
  simp [item0B, item0, and_assoc]
theorem itemBytes_len (i : GItem) : (itemBytes i).length = 7 := rfl
theorem item7_bytes {i : GItem} (h : itemB i = true) : item7 (itemBytes i) = i := by
  obtain ⟨k, ⟨c, w⟩, v, g⟩ := i
  simp only [itemB, verB, Bool.and_eq_true, placeB_iff, decide_eq_true_eq] at h
  obtain ⟨hk, hv, ⟨hc1, hc2, hw⟩, hg⟩ := h
  have e1 := by8_id hk.1 hk.2
  have e2 := by8_id hv.1 hv.2
  have e3 := by8_id hw.1 hw.2
  have e4 : by8 c + 256 * by8 (c / 2 ^ (8 : Int).toNat) = c := by
    have : (2 : Int) ^ (8 : Int).toNat = 256 := by decide
    rw [this]
    unfold by8
    rw [wu8, wu8]
    omega
  simp only [item7, itemBytes, b6, List.cons_append, List.getD_cons_zero, List.getD_cons_succ, e1, e2, e3, e4]
  cases g <;> simp
theorem inB_itemBytes (i : GItem) : InB (itemBytes i) := by
  intro x hx
  rcases List.mem_append.1 hx with h | h
  · exact inB_b6 i x h
  · simp at h; subst h; exact by8_in _
theorem inB_msgBytes (m : GMsg) : InB (msgBytes m) := by
  intro x hx
  rcases List.mem_append.1 hx with h | h
  · simp only [msgHead, List.mem_cons, List.not_mem_nil, or_false] at h
    rcases h with rfl | rfl | rfl <;> exact by8_in _
  · unfold msgRest at h
    split at h
    · rcases List.mem_cons.1 h with rfl | h
      · exact by8_in _
      · obtain ⟨y, _, rfl⟩ := List.mem_map.1 h; exact by8_in _
    · split at h
      · exact inB_itemBytes _ x h
      · split at h
        · simp at h; subst h; exact by8_in _
        · split at h
          · rcases List.mem_append.1 h with h | h
            · simp only [List.mem_cons, List.not_mem_nil, or_false] at h
              rcases h with rfl | rfl
              · exact by8_in _
              · split <;> omega
            · split at h
              · exact inB_itemBytes _ x h
              · simp at h
          · simp at h
theorem map_by8 {l : List Int} (h : l.all placeB = true) : l.map by8 = l := by
  have : ∀ x ∈ l, by8 x = x := fun x hx => by
    have := (placeB_iff x).1 (List.all_eq_true.1 h x hx)
    exact by8_id this.1 this.2
  rw [List.map_congr_left this]
  simp
/-- What may be, by its kind. -/
theorem mayB_cases {m : GMsg} (h : mayB m = true) : (0 ≤ m.src ∧ m.src < 256) ∧ (0 ≤ m.dst ∧ m.dst < 256) ∧
    ((m.kind = 0 ∧ m.ids.all placeB = true ∧ m.ids.length ≤ 16 ∧ m.key = 0 ∧ m.item = item0 ∧ m.has = false) ∨
     (m.kind = 1 ∧ m.ids = [] ∧ m.key = 0 ∧ itemB m.item = true ∧ m.has = false) ∨
     (m.kind = 2 ∧ m.ids = [] ∧ (0 ≤ m.key ∧ m.key < 256) ∧ m.item = item0 ∧ m.has = false) ∨
     (m.kind = 3 ∧ m.ids = [] ∧ (0 ≤ m.key ∧ m.key < 256) ∧ m.item = item0 ∧ m.has = false) ∨
     (m.kind = 3 ∧ m.ids = [] ∧ (0 ≤ m.key ∧ m.key < 256) ∧ itemB m.item = true ∧ m.item.key = m.key ∧ m.has = true)) := by
  obtain ⟨kind, src, dst, ids, key, item, has⟩ := m
  simp only [mayB, Bool.and_eq_true, placeB_iff] at h
  refine ⟨h.1, h.2.1, ?_⟩
  have hb := h.2.2.2
  unfold bodyB at hb
  dsimp only at hb ⊢
  split at hb
  · rename_i hk
    simp only [noneB, Bool.and_eq_true, decide_eq_true_eq, Bool.not_eq_true', item0B_iff] at hb
    exact .inl ⟨hk, hb.2.2, by omega, hb.1.2.1, hb.1.2.2.1, hb.1.2.2.2⟩
  · split at hb
    · rename_i hk
      simp only [noneB, Bool.and_eq_true, decide_eq_true_eq, Bool.not_eq_true'] at hb
      exact .inr (.inl ⟨hk, List.eq_nil_of_length_eq_zero hb.1.1, hb.1.2.1, hb.2, hb.1.2.2.2⟩)
    · split at hb
      · rename_i hk
        simp only [noneB, Bool.and_eq_true, decide_eq_true_eq, Bool.not_eq_true', item0B_iff, placeB_iff] at hb
        exact .inr (.inr (.inl ⟨hk, List.eq_nil_of_length_eq_zero hb.1.1, hb.2, hb.1.2.2.1, hb.1.2.2.2⟩))
      · split at hb
        · rename_i hk
          simp only [Bool.and_eq_true, Bool.or_eq_true, decide_eq_true_eq, Bool.not_eq_true', item0B_iff, placeB_iff] at hb
          have hi := List.eq_nil_of_length_eq_zero hb.1
          rcases hb.2.2 with h3 | h3
          · exact .inr (.inr (.inr (.inl ⟨hk, hi, hb.2.1, h3.2, h3.1⟩)))
          · exact .inr (.inr (.inr (.inr ⟨hk, hi, hb.2.1, h3.2.1, h3.2.2, h3.1⟩)))
        · simp at hb
theorem parse_put {m : GMsg} (h : mayB m = true) : parse (msgBytes m) = m ∧ parseR (msgBytes m) = m ∧ 3 < (msgBytes m).length := by
  obtain ⟨hs, hd, hc⟩ := mayB_cases h
  obtain ⟨kind, src, dst, ids, key, item, has⟩ := m
  dsimp only at hs hd hc
  have e1 := by8_id hs.1 hs.2
  have e2 := by8_id hd.1 hd.2
  have k0 : by8 0 = 0 := by decide
  have k1 : by8 1 = 1 := by decide
  have k2 : by8 2 = 2 := by decide
  have k3 : by8 3 = 3 := by decide
  rcases hc with ⟨rfl, h1, h2, rfl, rfl, rfl⟩ | ⟨rfl, rfl, rfl, h1, rfl⟩ | ⟨rfl, rfl, h1, rfl, rfl⟩ | ⟨rfl, rfl, h1, rfl, rfl⟩ | ⟨rfl, rfl, h1, h2, h3, rfl⟩
  · have hl : msgBytes ⟨0, src, dst, ids, 0, item0, false⟩ = 0 :: src :: dst :: by8 ids.length :: ids := by simp [msgBytes, msgHead, msgRest, e1, e2, k0, map_by8 h1]
    rw [hl]
    exact ⟨rfl, rfl, by simp⟩
  · have hl : msgBytes ⟨1, src, dst, [], 0, item, false⟩ = 1 :: src :: dst :: itemBytes item := by simp [msgBytes, msgHead, msgRest, e1, e2, k1]
    have e3 := item7_bytes h1
    rw [hl]
    refine ⟨?_, ?_, by simp [itemBytes_len]⟩
    · show (⟨1, src, dst, [], 0, getItemL (itemBytes item), false⟩ : GMsg) = _
      rw [getItemL, if_pos (itemBytes_len item), e3]
    · show (⟨1, src, dst, [], 0, if (1 :: src :: dst :: itemBytes item).length = 10 then item7 (itemBytes item) else item0, false⟩ : GMsg) = _
      rw [if_pos (by simp [itemBytes_len]), e3]
  · have e3 := by8_id h1.1 h1.2
    have hl : msgBytes ⟨2, src, dst, [], key, item0, false⟩ = [2, src, dst, key] := by simp [msgBytes, msgHead, msgRest, e1, e2, e3, k2]
    rw [hl]
    exact ⟨rfl, rfl, by simp⟩
  · have e3 := by8_id h1.1 h1.2
    have hl : msgBytes ⟨3, src, dst, [], key, item0, false⟩ = [3, src, dst, key, 0] := by simp [msgBytes, msgHead, msgRest, e1, e2, e3, k3]
    rw [hl]
    exact ⟨rfl, rfl, by simp⟩
  · have e3 := by8_id h1.1 h1.2
    have e4 := item7_bytes h2
    have hl : msgBytes ⟨3, src, dst, [], key, item, true⟩ = 3 :: src :: dst :: key :: 1 :: itemBytes item := by simp [msgBytes, msgHead, msgRest, e1, e2, e3, k3]
    rw [hl]
    refine ⟨?_, ?_, by simp [itemBytes_len]⟩
    · show (⟨3, src, dst, [], key, getItemL (itemBytes item), true⟩ : GMsg) = _
      rw [getItemL, if_pos (itemBytes_len item), e4]
    · show (⟨3, src, dst, [], key, item7 (itemBytes item), true⟩ : GMsg) = _
      rw [e4]
/-- The two readings tell the same. -/
theorem mGet_eq (s : ByteArray) : mGet s = if 3 < s.size ∧ mayB (parseR (bytesL s)) = true ∧ msgBytes (parseR (bytesL s)) = bytesL s then (parseR (bytesL s), 0) else (msg0, 1300) := by
  rw [mGet_def]
  by_cases h1 : mayB (parse (bytesL s)) = true ∧ msgBytes (parse (bytesL s)) = bytesL s
  · have := (parse_put h1.1).2.1
    rw [h1.2] at this
    rw [this]
  · by_cases h2 : mayB (parseR (bytesL s)) = true ∧ msgBytes (parseR (bytesL s)) = bytesL s
    · have := (parse_put h2.1).1
      rw [h2.2] at this
      rw [this]
    · rw [if_neg (fun h => h1 h.2), if_neg (fun h => h2 h.2)]
theorem mGet_put {m : GMsg} (h : mayB m = true) : mGet (mPutS m) = (m, 0) := by
  have h1 := parse_put h
  rw [mGet_def, mPutS_def]
  rw [if_pos h, bytesL_bs (inB_msgBytes m), h1.1, bs_size]
  rw [if_pos ⟨h1.2.2, h, rfl⟩]
theorem mGet_ok {s : ByteArray} (h : (mGet s).2 = 0) : mayB (mGet s).1 = true ∧ mPutS (mGet s).1 = s := by
  rw [mGet_def] at h ⊢
  split at h
  · rename_i h1
    rw [if_pos h1]
    refine ⟨h1.2.1, ?_⟩
    rw [mPutS_def]
    rw [if_pos h1.2.1, h1.2.2, bs_bytesL]
  · simp at h
theorem mGet_cases (s : ByteArray) : (mGet s).2 = 0 ∨ mGet s = (msg0, 1300) := by
  rw [mGet_def]
  split
  · exact .inl rfl
  · exact .inr rfl
theorem putE_cases (m : GMsg) : (mPutE m = 0 ∧ mayB m = true ∧ mPutS m = bs (msgBytes m)) ∨ (mPutE m = 1300 ∧ mayB m = false ∧ mPutS m = ByteArray.empty) := by
  rw [mPutE_def, mPutS_def]
  cases h : mayB m with
  | true => exact .inl ⟨rfl, rfl, rfl⟩
  | false => exact .inr ⟨rfl, rfl, rfl⟩
end Go.Proofs.Ytmgccphapkmmeaa

/- Contracts: a message's bytes, on. -/
namespace Go.Proofs.Ytmgccphapkmmeaa
open Go.RowKit

theorem map_take_succ {l : List Int} {i : Nat} (h : i < l.length) : (l.take (i + 1)).map by8 = (l.take i).map by8 ++ [by8 (l.getD i 0)] := by
  have : l.getD i 0 = l[i] := by simp [List.getD_eq_getElem?_getD, h]
  rw [List.take_succ_eq_append_getElem h, List.map_append, this]
  rfl
theorem k_Put : Known Try.prog tau 21 (S1 dMsg oPut) := by
  refine known1 hmix tau_ok (ctx_cons k_MsgMay (ctx_cons k_bit (ctx_cons k_put ctx_nil))) (fn := Try.f21) (by kernel_rfl) [(17, [(0, 0), (1, 0), (2, 2), (3, 4), (4, 0), (5, 16), (6, 32), (7, 72), (8, 193), (9, 511)])] (by kernel_rfl) _ _ fun m hfit => ⟨rfl,
    [(8, invN (19 :: 30 :: [4, 6, 34, 35, 36, 37, 38, 39, 40, 41, 42, 43]) (fun i => i ≤ m.ids.length) (fun i s => withS [(34, .int .i64 i), (4, .own 19)] (withR [(19, .own (.bytes (msgHead m ++ by8 m.ids.length :: (m.ids.take i).map by8)))] s)) (fun i => m.ids.length - i))], ?_⟩
  have hlen : m.ids.length * 8 ≤ 140737488355328 := hfit.1.2.2.2.1
  clear hfit
  (repeat' (first | ((with_reducible refine body_intro ?_); (first | refine seq_intro (fun Kv hN hX hR => ?_) | (conv => whnf))) | with_reducible refine body_stop (fun Kv hN hX hR => ?_) | with_reducible refine Stop.mk ?_ | with_reducible refine DrawJ.each ?_ | with_reducible exact SubJ.self _ | with_reducible refine SubJ.of ?_ | with_reducible refine seq_intro (fun Kv hN hX hR => ?_) | (with_reducible refine hN _ ?_; clear hN hX hR; clear Kv) | (with_reducible refine hX _ _ ?_; clear hN hX hR; clear Kv) | (with_reducible refine hR _ ?_; clear hN hX hR; clear Kv) | ((conv => whnf); first | with_reducible rfl | with_reducible exact True.intro | with_reducible intro _ | with_reducible refine And.intro ?_ ?_ | (with_reducible refine hN _ ?_; clear hN hX hR; clear Kv) | (with_reducible refine hX _ _ ?_; clear hN hX hR; clear Kv) | (with_reducible refine hR _ ?_; clear hN hX hR; clear Kv) | with_reducible refine body_stop (fun Kv hN hX hR => ?_) | with_reducible refine Stop.mk ?_ | with_reducible refine DrawJ.each ?_ | with_reducible exact SubJ.self _ | with_reducible refine SubJ.of ?_))); all_goals (conv => whnf); all_goals (repeat (clear hN hX hR; clear Kv))
  all_goals first
    | (have hm : (!mayB m) = true := by assumption
       have hm : mayB m = false := by simpa using hm
       simp [mPutE_def, hm]
       done)
    | (have hm : (!mayB m) = true := by assumption
       have hm : mayB m = false := by simpa using hm
       rw [mPutS_def]
       rw [if_neg (by simp [hm])]
       rfl)
    | (have hm : (!mayB m) = false := by assumption
       have hm : mayB m = true := by simpa using hm
       simp [mPutE_def, hm]
       done)
    | (refine Ob.mk ?_
       simp [Rw.len, Rw.bts, Rw.kd, kdBytes, itemBytes_len]
       done)
    | (have hm : (!mayB m) = false := by assumption
       have hm : mayB m = true := by simpa using hm
       simp_all [mPutS_def, bs, msgBytes, msgHead, msgRest, by8]
       done)
    | skip
  · refine ⟨0, by omega, ?_⟩
    (repeat' (first | ((with_reducible refine body_intro ?_); (first | refine seq_intro (fun Kv hN hX hR => ?_) | (conv => whnf))) | with_reducible refine body_stop (fun Kv hN hX hR => ?_) | with_reducible refine Stop.mk ?_ | with_reducible refine DrawJ.each ?_ | with_reducible exact SubJ.self _ | with_reducible refine SubJ.of ?_ | with_reducible refine seq_intro (fun Kv hN hX hR => ?_) | (with_reducible refine hN _ ?_; clear hN hX hR; clear Kv) | (with_reducible refine hX _ _ ?_; clear hN hX hR; clear Kv) | (with_reducible refine hR _ ?_; clear hN hX hR; clear Kv) | ((conv => whnf); first | with_reducible rfl | with_reducible exact True.intro | with_reducible intro _ | with_reducible refine And.intro ?_ ?_ | (with_reducible refine hN _ ?_; clear hN hX hR; clear Kv) | (with_reducible refine hX _ _ ?_; clear hN hX hR; clear Kv) | (with_reducible refine hR _ ?_; clear hN hX hR; clear Kv) | with_reducible refine body_stop (fun Kv hN hX hR => ?_) | with_reducible refine Stop.mk ?_ | with_reducible refine DrawJ.each ?_ | with_reducible exact SubJ.self _ | with_reducible refine SubJ.of ?_))); all_goals (conv => whnf); all_goals (repeat (clear hN hX hR; clear Kv))
    all_goals rfl
  · rename_i i hi h
    have h : (i : Int) < m.ids.length := of_decide_eq_true h
    exact Ob.mk ⟨by omega, h⟩
  · rename_i i hi h h2
    have h : (i : Int) < m.ids.length := of_decide_eq_true h
    refine Ob.mk ?_
    simp [Rw.len, Rw.bts, Rw.kd, kdBytes, msgHead]
    try omega
  · rename_i i hi h h2 h3
    have h : (i : Int) < m.ids.length := of_decide_eq_true h
    have hi2 : i < m.ids.length := by omega
    refine ⟨i + 1, hi2, by show m.ids.length - (i + 1) < m.ids.length - i; omega, ?_⟩
    have hs := map_take_succ hi2
    (repeat' (first | ((with_reducible refine body_intro ?_); (first | refine seq_intro (fun Kv hN hX hR => ?_) | (conv => whnf))) | with_reducible refine body_stop (fun Kv hN hX hR => ?_) | with_reducible refine Stop.mk ?_ | with_reducible refine DrawJ.each ?_ | with_reducible exact SubJ.self _ | with_reducible refine SubJ.of ?_ | with_reducible refine seq_intro (fun Kv hN hX hR => ?_) | (with_reducible refine hN _ ?_; clear hN hX hR; clear Kv) | (with_reducible refine hX _ _ ?_; clear hN hX hR; clear Kv) | (with_reducible refine hR _ ?_; clear hN hX hR; clear Kv) | ((conv => whnf); first | with_reducible rfl | with_reducible exact True.intro | with_reducible intro _ | with_reducible refine And.intro ?_ ?_ | (with_reducible refine hN _ ?_; clear hN hX hR; clear Kv) | (with_reducible refine hX _ _ ?_; clear hN hX hR; clear Kv) | (with_reducible refine hR _ ?_; clear hN hX hR; clear Kv) | with_reducible refine body_stop (fun Kv hN hX hR => ?_) | with_reducible refine Stop.mk ?_ | with_reducible refine DrawJ.each ?_ | with_reducible exact SubJ.self _ | with_reducible refine SubJ.of ?_))); all_goals (conv => whnf); all_goals (repeat (clear hN hX hR; clear Kv))
    all_goals first
      | exact wrapI (by omega) (by omega)
      | (rw [hs]; exact congrArg Rw.bytes (by simp [by8]))
      | rfl
  · rename_i h1 hk _ i hi h
    have hm : mayB m = true := by
      have h1 : (!mayB m) = false := h1
      simpa using h1
    have h : ¬ (i : Int) < m.ids.length := of_decide_eq_false h
    obtain rfl : i = m.ids.length := by omega
    have hk : m.kind = 0 := of_decide_eq_true hk
    rw [mPutS_def]
    rw [if_pos hm, List.take_length]
    unfold msgBytes msgRest
    rw [if_pos hk]
    rfl
end Go.Proofs.Ytmgccphapkmmeaa

/- Contracts: a message's bytes, on: aS the document's answer puts them. -/
namespace Go.Proofs.Ytmgccphapkmmeaa
open Go.RowKit

theorem by8_if (b : Bool) : by8 (if b = true then 1 else 0) = if b = true then 1 else 0 := by split <;> decide
theorem k_putItem : Known Try.prog tau 48 (S1 dItem fun i => .ok (.str (bs (itemBytes i))) []) := by
  refine known1 hmix tau_ok (ctx_cons k_letter (ctx_cons k_flag ctx_nil)) (fn := Try.f48) (by kernel_rfl) [(1, [(0, 0), (1, 1), (2, 2), (3, 0), (4, 8), (5, 16), (6, 36), (7, 68), (8, 0), (9, 256), (10, 512), (11, 1024), (12, 2112), (13, 4224), (14, 0), (15, 16384), (16, 32768), (17, 69632), (18, 139264), (19, 0), (20, 524288), (21, 1179648), (22, 2359296), (23, 0), (24, 8388608), (25, 18874368), (26, 33554432), (27, 71303168), (28, 268435455)])] (by kernel_rfl) _ _ fun x hfit => ⟨rfl,
    [(4, invN (3 :: [4, 5, 34, 35, 36, 37, 38, 39, 40, 41, 42, 43, 44, 45]) (fun i => i ≤ 6) (fun i => withS [(5, .int .i64 i), (4, .int .i64 (sumL ((b6 x).take i))), (3, .str (bs (b6 x)))]) (fun i => 6 - i))], ?_⟩
  clear hfit
  have hb := inB_b6 x
  (repeat' (first | ((with_reducible refine body_intro ?_); (first | refine seq_intro (fun Kv hN hX hR => ?_) | (conv => whnf))) | with_reducible refine body_stop (fun Kv hN hX hR => ?_) | with_reducible refine Stop.mk ?_ | with_reducible refine DrawJ.each ?_ | with_reducible exact SubJ.self _ | with_reducible refine SubJ.of ?_ | with_reducible refine seq_intro (fun Kv hN hX hR => ?_) | (with_reducible refine hN _ ?_; clear hN hX hR; clear Kv) | (with_reducible refine hX _ _ ?_; clear hN hX hR; clear Kv) | (with_reducible refine hR _ ?_; clear hN hX hR; clear Kv) | ((conv => whnf); first | with_reducible rfl | with_reducible exact True.intro | with_reducible intro _ | with_reducible refine And.intro ?_ ?_ | (with_reducible refine hN _ ?_; clear hN hX hR; clear Kv) | (with_reducible refine hX _ _ ?_; clear hN hX hR; clear Kv) | (with_reducible refine hR _ ?_; clear hN hX hR; clear Kv) | with_reducible refine body_stop (fun Kv hN hX hR => ?_) | with_reducible refine Stop.mk ?_ | with_reducible refine DrawJ.each ?_ | with_reducible exact SubJ.self _ | with_reducible refine SubJ.of ?_))); all_goals (conv => whnf); all_goals (repeat (clear hN hX hR; clear Kv))
  all_goals first
    | exact Ob.mk (by decide)
    | (refine Ob.mk ?_
       simp [bs_app, bs_size, show (b6 x).length = 6 from rfl]
       done)
    | skip
  · refine ⟨0, by omega, ?_⟩
    (repeat' (first | ((with_reducible refine body_intro ?_); (first | refine seq_intro (fun Kv hN hX hR => ?_) | (conv => whnf))) | with_reducible refine body_stop (fun Kv hN hX hR => ?_) | with_reducible refine Stop.mk ?_ | with_reducible refine DrawJ.each ?_ | with_reducible exact SubJ.self _ | with_reducible refine SubJ.of ?_ | with_reducible refine seq_intro (fun Kv hN hX hR => ?_) | (with_reducible refine hN _ ?_; clear hN hX hR; clear Kv) | (with_reducible refine hX _ _ ?_; clear hN hX hR; clear Kv) | (with_reducible refine hR _ ?_; clear hN hX hR; clear Kv) | ((conv => whnf); first | with_reducible rfl | with_reducible exact True.intro | with_reducible intro _ | with_reducible refine And.intro ?_ ?_ | (with_reducible refine hN _ ?_; clear hN hX hR; clear Kv) | (with_reducible refine hX _ _ ?_; clear hN hX hR; clear Kv) | (with_reducible refine hR _ ?_; clear hN hX hR; clear Kv) | with_reducible refine body_stop (fun Kv hN hX hR => ?_) | with_reducible refine Stop.mk ?_ | with_reducible refine DrawJ.each ?_ | with_reducible exact SubJ.self _ | with_reducible refine SubJ.of ?_))); all_goals (conv => whnf); all_goals (repeat (clear hN hX hR; clear Kv))
    all_goals first
      | rfl
      | (simp only [bs_app, by8_if, List.cons_append, List.nil_append]; rfl)
  · rename_i i hi h
    have h : (i : Int) < ((bs (b6 x)).size : Nat) := of_decide_eq_true h
    exact Ob.mk ⟨by omega, h⟩
  · rename_i i hi h h2
    have h : (i : Int) < ((bs (b6 x)).size : Nat) := of_decide_eq_true h
    rw [bs_size] at h
    have h : (i : Int) < 6 := h
    refine ⟨i + 1, by omega, by show 6 - (i + 1) < 6 - i; omega, ?_⟩
    have hs := sumL_take (show i < (b6 x).length by show i < 6; omega)
    have h1 := sumL_bd (inB_take hb i)
    have h1' : (((b6 x).take i).length : Int) ≤ 6 := by simp; omega
    have h2 := getD_inB hb i
    have e1 : IntKind.i64.wrap (byteAt (bs (b6 x)) i) = (b6 x).getD i 0 := by rw [wrap_byte, bytesL_bs hb]
    have e2 : IntKind.i64.wrap (sumL ((b6 x).take i) + (b6 x).getD i 0) = sumL ((b6 x).take i) + (b6 x).getD i 0 := wrapI (by omega) (by omega)
    (repeat' (first | ((with_reducible refine body_intro ?_); (first | refine seq_intro (fun Kv hN hX hR => ?_) | (conv => whnf))) | with_reducible refine body_stop (fun Kv hN hX hR => ?_) | with_reducible refine Stop.mk ?_ | with_reducible refine DrawJ.each ?_ | with_reducible exact SubJ.self _ | with_reducible refine SubJ.of ?_ | with_reducible refine seq_intro (fun Kv hN hX hR => ?_) | (with_reducible refine hN _ ?_; clear hN hX hR; clear Kv) | (with_reducible refine hX _ _ ?_; clear hN hX hR; clear Kv) | (with_reducible refine hR _ ?_; clear hN hX hR; clear Kv) | ((conv => whnf); first | with_reducible rfl | with_reducible exact True.intro | with_reducible intro _ | with_reducible refine And.intro ?_ ?_ | (with_reducible refine hN _ ?_; clear hN hX hR; clear Kv) | (with_reducible refine hX _ _ ?_; clear hN hX hR; clear Kv) | (with_reducible refine hR _ ?_; clear hN hX hR; clear Kv) | with_reducible refine body_stop (fun Kv hN hX hR => ?_) | with_reducible refine Stop.mk ?_ | with_reducible refine DrawJ.each ?_ | with_reducible exact SubJ.self _ | with_reducible refine SubJ.of ?_))); all_goals (conv => whnf); all_goals (repeat (clear hN hX hR; clear Kv))
    all_goals first
      | exact wrapI (by omega) (by omega)
      | (rw [hs]
         show IntKind.i64.wrap (sumL ((b6 x).take i) + IntKind.i64.wrap (byteAt (bs (b6 x)) i)) = _
         rw [e1, e2])
      | rfl
  · rename_i i hi h h2
    have h : ¬ (i : Int) < ((bs (b6 x)).size : Nat) := of_decide_eq_false h
    rw [bs_size] at h
    have h : ¬ (i : Int) < 6 := h
    obtain rfl : i = 6 := by omega
    rw [bs_app]
    rfl
theorem k_PutMsg : Known Try.prog tau 22 (S1 dMsg oPut) := by
  refine known1 hmix tau_ok (ctx_cons k_refMsg (ctx_cons k_letter (ctx_cons k_flag (ctx_cons k_putItem ctx_nil)))) (fn := Try.f22) (by kernel_rfl) [(3, [(0, 0), (1, 1), (2, 2), (3, 0), (4, 8), (5, 20), (6, 36), (7, 0), (8, 128), (9, 288), (10, 576), (11, 2047)]), (5, [(0, 0), (1, 0), (2, 2), (3, 4), (4, 9), (5, 0), (6, 32), (7, 72), (8, 128), (9, 272), (10, 1023)])] (by kernel_rfl) _ _ fun m hfit => ⟨rfl,
    [(11, invN [4, 5, 47, 48, 49, 50, 51, 52, 53, 54, 55, 56, 57, 58, 59, 60, 61] (fun i => i ≤ m.ids.length) (fun i => withS [(5, .int .i64 i), (4, .str (bs (msgHead m ++ by8 m.ids.length :: (m.ids.take i).map by8)))]) (fun i => m.ids.length - i))], ?_⟩
  have hlen : m.ids.length * 8 ≤ 140737488355328 := hfit.1.2.2.2.1
  clear hfit
  (repeat' (first | ((with_reducible refine body_intro ?_); (first | refine seq_intro (fun Kv hN hX hR => ?_) | (conv => whnf))) | with_reducible refine body_stop (fun Kv hN hX hR => ?_) | with_reducible refine Stop.mk ?_ | with_reducible refine DrawJ.each ?_ | with_reducible exact SubJ.self _ | with_reducible refine SubJ.of ?_ | with_reducible refine seq_intro (fun Kv hN hX hR => ?_) | (with_reducible refine hN _ ?_; clear hN hX hR; clear Kv) | (with_reducible refine hX _ _ ?_; clear hN hX hR; clear Kv) | (with_reducible refine hR _ ?_; clear hN hX hR; clear Kv) | ((conv => whnf); first | with_reducible rfl | with_reducible exact True.intro | with_reducible intro _ | with_reducible refine And.intro ?_ ?_ | (with_reducible refine hN _ ?_; clear hN hX hR; clear Kv) | (with_reducible refine hX _ _ ?_; clear hN hX hR; clear Kv) | (with_reducible refine hR _ ?_; clear hN hX hR; clear Kv) | with_reducible refine body_stop (fun Kv hN hX hR => ?_) | with_reducible refine Stop.mk ?_ | with_reducible refine DrawJ.each ?_ | with_reducible exact SubJ.self _ | with_reducible refine SubJ.of ?_))); all_goals (conv => whnf); all_goals (repeat (clear hN hX hR; clear Kv))
  all_goals first
    | (have hm : (!mayB m) = true := by assumption
       have hm : mayB m = false := by simpa using hm
       simp [mPutE_def, hm]
       done)
    | (have hm : (!mayB m) = true := by assumption
       have hm : mayB m = false := by simpa using hm
       rw [mPutS_def]
       rw [if_neg (by simp [hm])]
       rfl)
    | (have hm : (!mayB m) = false := by assumption
       have hm : mayB m = true := by simpa using hm
       simp [mPutE_def, hm]
       done)
    | (refine Ob.mk ?_
       simp [bs_app, bs_size, itemBytes_len]
       done)
    | skip
  · refine ⟨0, by omega, ?_⟩
    (repeat' (first | ((with_reducible refine body_intro ?_); (first | refine seq_intro (fun Kv hN hX hR => ?_) | (conv => whnf))) | with_reducible refine body_stop (fun Kv hN hX hR => ?_) | with_reducible refine Stop.mk ?_ | with_reducible refine DrawJ.each ?_ | with_reducible exact SubJ.self _ | with_reducible refine SubJ.of ?_ | with_reducible refine seq_intro (fun Kv hN hX hR => ?_) | (with_reducible refine hN _ ?_; clear hN hX hR; clear Kv) | (with_reducible refine hX _ _ ?_; clear hN hX hR; clear Kv) | (with_reducible refine hR _ ?_; clear hN hX hR; clear Kv) | ((conv => whnf); first | with_reducible rfl | with_reducible exact True.intro | with_reducible intro _ | with_reducible refine And.intro ?_ ?_ | (with_reducible refine hN _ ?_; clear hN hX hR; clear Kv) | (with_reducible refine hX _ _ ?_; clear hN hX hR; clear Kv) | (with_reducible refine hR _ ?_; clear hN hX hR; clear Kv) | with_reducible refine body_stop (fun Kv hN hX hR => ?_) | with_reducible refine Stop.mk ?_ | with_reducible refine DrawJ.each ?_ | with_reducible exact SubJ.self _ | with_reducible refine SubJ.of ?_))); all_goals (conv => whnf); all_goals (repeat (clear hN hX hR; clear Kv))
    all_goals first
      | rfl
      | (simp only [bs_app, List.cons_append, List.nil_append]; rfl)
  · rename_i i hi h
    have h : (i : Int) < m.ids.length := of_decide_eq_true h
    exact Ob.mk ⟨by omega, h⟩
  · rename_i i hi h h2
    have h : (i : Int) < m.ids.length := of_decide_eq_true h
    refine Ob.mk ?_
    simp [bs_size, msgHead]
    omega
  · rename_i i hi h h2 h3
    have h : (i : Int) < m.ids.length := of_decide_eq_true h
    have hi2 : i < m.ids.length := by omega
    refine ⟨i + 1, hi2, by show m.ids.length - (i + 1) < m.ids.length - i; omega, ?_⟩
    have hs := map_take_succ hi2
    (repeat' (first | ((with_reducible refine body_intro ?_); (first | refine seq_intro (fun Kv hN hX hR => ?_) | (conv => whnf))) | with_reducible refine body_stop (fun Kv hN hX hR => ?_) | with_reducible refine Stop.mk ?_ | with_reducible refine DrawJ.each ?_ | with_reducible exact SubJ.self _ | with_reducible refine SubJ.of ?_ | with_reducible refine seq_intro (fun Kv hN hX hR => ?_) | (with_reducible refine hN _ ?_; clear hN hX hR; clear Kv) | (with_reducible refine hX _ _ ?_; clear hN hX hR; clear Kv) | (with_reducible refine hR _ ?_; clear hN hX hR; clear Kv) | ((conv => whnf); first | with_reducible rfl | with_reducible exact True.intro | with_reducible intro _ | with_reducible refine And.intro ?_ ?_ | (with_reducible refine hN _ ?_; clear hN hX hR; clear Kv) | (with_reducible refine hX _ _ ?_; clear hN hX hR; clear Kv) | (with_reducible refine hR _ ?_; clear hN hX hR; clear Kv) | with_reducible refine body_stop (fun Kv hN hX hR => ?_) | with_reducible refine Stop.mk ?_ | with_reducible refine DrawJ.each ?_ | with_reducible exact SubJ.self _ | with_reducible refine SubJ.of ?_))); all_goals (conv => whnf); all_goals (repeat (clear hN hX hR; clear Kv))
    all_goals first
      | exact wrapI (by omega) (by omega)
      | (rw [hs, bs_app]; exact congrArg bs (by simp))
      | rfl
  · rename_i hk _ i hi h
    have hm : (!mayB m) = false := by assumption
    have hm : mayB m = true := by simpa using hm
    have h : ¬ (i : Int) < m.ids.length := of_decide_eq_false h
    obtain rfl : i = m.ids.length := by omega
    have hk : m.kind = 0 := of_decide_eq_true (by assumption)
    rw [mPutS_def]
    rw [if_pos hm, List.take_length]
    unfold msgBytes msgRest
    rw [if_pos hk]
  all_goals
    have hm : (!mayB m) = false := by assumption
    have hm : mayB m = true := by simpa using hm
    rw [mPutS_def]
    rw [if_pos hm]
    have hc := (mayB_cases hm).2.2
    simp only [decide_eq_true_eq, decide_eq_false_iff_not] at *
  · simp_all [bs_app, msgBytes, msgHead, msgRest]
  · simp_all [bs_app, msgBytes, msgHead, msgRest]
  all_goals
    have hk : m.kind = 3 := by
      rcases hc with h | h | h | h | h <;> first | exact h.1 | (exfalso; simp_all; done)
    clear hc
    have e : msgBytes m = by8 m.kind :: by8 m.src :: by8 m.dst :: by8 m.key :: (if m.has = true then 1 else 0) :: (if m.has = true then itemBytes m.item else []) := by simp [msgBytes, msgHead, msgRest, hk]
    rw [e]
  · have hh : m.has = true := by assumption
    rw [if_pos hh, if_pos hh]
    simp only [bs_app, List.cons_append, List.nil_append]
    exact congrArg bs (by rw [show by8 1 = 1 by decide])
  · have hh : m.has = false := by assumption
    have hh : ¬ m.has = true := by rw [hh]; simp
    rw [if_neg hh, if_neg hh]
    simp only [bs_app, List.cons_append, List.nil_append]
    exact congrArg bs (by rw [show by8 0 = 0 by decide])
end Go.Proofs.Ytmgccphapkmmeaa

/- Contracts: a message out of its bytes. -/
namespace Go.Proofs.Ytmgccphapkmmeaa
open Go.RowKit

theorem cnt_or (s : ByteArray) : bits .or .i64 (IntKind.i64.wrap (byteAt s 1)) (IntKind.i64.wrap (IntKind.i64.wrap (byteAt s 2) * 2 ^ (8 : Int).toNat)) = (bytesL s).getD 1 0 + 256 * (bytesL s).getD 2 0 := by
  have h1 := getD_inB (inB_bytesL s) 1
  have h2 := getD_inB (inB_bytesL s) 2
  have e : (2 : Int) ^ (8 : Int).toNat = 256 := by decide
  rw [wrap_byte, wrap_byte, e, wrapI (by omega) (by omega)]
  exact or_shl h1.1 h1.2 h2.1 h2.2
theorem cnt_mul (s : ByteArray) : IntKind.i64.wrap (IntKind.i64.wrap (byteAt s 1) + IntKind.i64.wrap (256 * IntKind.i64.wrap (byteAt s 2))) = (bytesL s).getD 1 0 + 256 * (bytesL s).getD 2 0 := by
  have h1 := getD_inB (inB_bytesL s) 1
  have h2 := getD_inB (inB_bytesL s) 2
  rw [wrap_byte, wrap_byte, wrapI (n := 256 * _) (by omega) (by omega)]
  exact wrapI (by omega) (by omega)
theorem k_get : Known Try.prog tau 63 (S1 dStr fun s => .ok (dItem.e (getItemL (bytesL s))) []) := by
  refine known1 hmix tau_ok ctx_nil (fn := Try.f63) (by kernel_rfl) [(3, [(0, 0), (1, 1), (2, 2), (3, 0), (4, 8), (5, 16), (6, 32), (7, 68), (8, 0), (9, 256), (10, 512), (11, 1152), (12, 0), (13, 8191)]), (4, [(0, 0), (1, 1), (2, 2), (3, 0), (4, 0), (5, 16), (6, 32), (7, 0), (8, 128), (9, 256), (10, 588), (11, 2047)])] (by kernel_rfl) _ _ fun s hfit => ⟨rfl, [], ?_⟩
  clear hfit
  (repeat' (first | ((with_reducible refine body_intro ?_); (first | refine seq_intro (fun Kv hN hX hR => ?_) | (conv => whnf))) | with_reducible refine body_stop (fun Kv hN hX hR => ?_) | with_reducible refine Stop.mk ?_ | with_reducible refine DrawJ.each ?_ | with_reducible exact SubJ.self _ | with_reducible refine SubJ.of ?_ | with_reducible refine seq_intro (fun Kv hN hX hR => ?_) | (with_reducible refine hN _ ?_; clear hN hX hR; clear Kv) | (with_reducible refine hX _ _ ?_; clear hN hX hR; clear Kv) | (with_reducible refine hR _ ?_; clear hN hX hR; clear Kv) | ((conv => whnf); first | with_reducible rfl | with_reducible exact True.intro | with_reducible intro _ | with_reducible refine And.intro ?_ ?_ | (with_reducible refine hN _ ?_; clear hN hX hR; clear Kv) | (with_reducible refine hX _ _ ?_; clear hN hX hR; clear Kv) | (with_reducible refine hR _ ?_; clear hN hX hR; clear Kv) | with_reducible refine body_stop (fun Kv hN hX hR => ?_) | with_reducible refine Stop.mk ?_ | with_reducible refine DrawJ.each ?_ | with_reducible exact SubJ.self _ | with_reducible refine SubJ.of ?_))); all_goals (conv => whnf); all_goals (repeat (clear hN hX hR; clear Kv))
  all_goals first
    | (have h : (!decide ((s.size : Int) = 7)) = true := by assumption
       have h : ¬ (bytesL s).length = 7 := by rw [bytesL_len]; simp at h; omega
       unfold getItemL
       rw [if_neg h]
       rfl)
    | exact Ob.mk (by decide)
    | (have h : (!decide ((s.size : Int) = 7)) = false := by assumption
       have h : (bytesL s).length = 7 := by rw [bytesL_len]; simp at h; omega
       rw [bytesL_len] at h
       refine Ob.mk ?_
       omega)
    | (have h : (!decide ((s.size : Int) = 7)) = false := by assumption
       have h : (bytesL s).length = 7 := by rw [bytesL_len]; simp at h; omega
       unfold getItemL
       rw [if_pos h]
       first
         | exact wrap_byte s _
         | exact cnt_or s
         | exact congrArg (fun n => decide (n = 1)) (byteAt_bytesL s 5))
def getItem6 (s : ByteArray) : GItem := if 6 ≤ s.size then item7 (bytesL s) else item0
theorem k_getItem : Known Try.prog tau 51 (S1 dStr fun s => .ob (6 ≤ s.size) (dItem.e (getItem6 s)) []) := by
  refine known1 hmix tau_ok ctx_nil (fn := Try.f51) (by kernel_rfl) [(1, [(0, 0), (1, 1), (2, 2), (3, 0), (4, 8), (5, 16), (6, 0), (7, 64), (8, 128), (9, 256), (10, 544), (11, 0), (12, 2048), (13, 4096), (14, 9216), (15, 0), (16, 32768), (17, 65536), (18, 0), (19, 262144), (20, 524288), (21, 1196036), (22, 4194303)])] (by kernel_rfl) _ _ fun s hfit hs => ⟨rfl, [], ?_⟩
  clear hfit
  (repeat' (first | ((with_reducible refine body_intro ?_); (first | refine seq_intro (fun Kv hN hX hR => ?_) | (conv => whnf))) | with_reducible refine body_stop (fun Kv hN hX hR => ?_) | with_reducible refine Stop.mk ?_ | with_reducible refine DrawJ.each ?_ | with_reducible exact SubJ.self _ | with_reducible refine SubJ.of ?_ | with_reducible refine seq_intro (fun Kv hN hX hR => ?_) | (with_reducible refine hN _ ?_; clear hN hX hR; clear Kv) | (with_reducible refine hX _ _ ?_; clear hN hX hR; clear Kv) | (with_reducible refine hR _ ?_; clear hN hX hR; clear Kv) | ((conv => whnf); first | with_reducible rfl | with_reducible exact True.intro | with_reducible intro _ | with_reducible refine And.intro ?_ ?_ | (with_reducible refine hN _ ?_; clear hN hX hR; clear Kv) | (with_reducible refine hX _ _ ?_; clear hN hX hR; clear Kv) | (with_reducible refine hR _ ?_; clear hN hX hR; clear Kv) | with_reducible refine body_stop (fun Kv hN hX hR => ?_) | with_reducible refine Stop.mk ?_ | with_reducible refine DrawJ.each ?_ | with_reducible exact SubJ.self _ | with_reducible refine SubJ.of ?_))); all_goals (conv => whnf); all_goals (repeat (clear hN hX hR; clear Kv))
  all_goals first
    | (refine Ob.mk ?_
       omega)
    | (unfold getItem6
       rw [if_pos hs]
       first
         | exact wrap_byte s _
         | exact cnt_mul s
         | exact congrArg (fun n => decide (n = 1)) (byteAt_bytesL s 5))
def sp_get : Spec := S1 dStr fun s => .ok (dItem.e (getItemL (bytesL s))) []
end Go.Proofs.Ytmgccphapkmmeaa

/- Contracts: a message out of its bytes, on. -/
namespace Go.Proofs.Ytmgccphapkmmeaa
open Go.RowKit

/-- Another cell in a box. -/
def withBC (k off : Nat) (v : SV) : St → St
  | ⟨fr, stk, bx, rw, dep⟩ => match lk bx k with
    | some (T, cs) => ⟨fr, stk, upd bx k (T, setRange cs off [v]), rw, dep⟩
    | none => ⟨fr, stk, bx, rw, dep⟩
/-- A message that is handed over: its own row. -/
def mOwn (m : GMsg) : List SV := [.int .i64 m.kind, .int .i64 m.src, .int .i64 m.dst, .own 0, .int .i64 m.key, .int .i64 m.item.key, .int .i64 m.item.ver.count, .int .i64 m.item.ver.writer, .int .i64 m.item.value, .bool m.item.gone, .bool m.has]
noncomputable def oGet (s : ByteArray) : Out := .ob (s.size ≤ 17592186044416) (.tup [.agg (mOwn (mGet s).1), .int .i64 (mGet s).2]) [.ints (mGet s).1.ids]
theorem get_short {s : ByteArray} (h : decide ((s.size : Int) ≤ 3) = true) : mGet s = (msg0, 1300) := by
  have h : (s.size : Int) ≤ 3 := of_decide_eq_true h
  rw [mGet_def]
  rw [if_neg (by omega)]
theorem get_bad1 {s : ByteArray} {M : GMsg} (hM : M = parse (bytesL s)) (h : (!decide (mPutE M = 0)) = true) : mGet s = (msg0, 1300) := by
  subst hM
  rw [mGet_def]
  rw [if_neg]
  rintro ⟨_, h1, _⟩
  simp [mPutE_def, h1] at h
theorem get_bad2 {s : ByteArray} {M : GMsg} (hM : M = parse (bytesL s)) (h : (!((mPutS M).toList == s.toList)) = true) : mGet s = (msg0, 1300) := by
  subst hM
  rw [mGet_def]
  rw [if_neg]
  rintro ⟨_, h1, h2⟩
  rw [str_beq] at h
  have : mPutS (parse (bytesL s)) = s := by
    rw [mPutS_def]
    rw [if_pos h1, h2, bs_bytesL]
  simp [this] at h
theorem get_good {s : ByteArray} {M : GMsg} (hM : M = parse (bytesL s)) (h0 : decide ((s.size : Int) ≤ 3) = false) (h : (!decide (mPutE M = 0)) = false) (h' : (!((mPutS M).toList == s.toList)) = false) : mGet s = (M, 0) := by
  subst hM
  have h0 : ¬ (s.size : Int) ≤ 3 := of_decide_eq_false h0
  have h : mPutE (parse (bytesL s)) = 0 := by simpa using h
  rw [str_beq] at h'
  have h' : mPutS (parse (bytesL s)) = s := by simpa using h'
  have hm : mayB (parse (bytesL s)) = true := by
    rcases putE_cases (parse (bytesL s)) with h1 | h1
    · exact h1.2.1
    · rw [h1.1] at h; simp at h
  rw [mGet_def]
  rw [if_pos]
  refine ⟨by omega, hm, ?_⟩
  rw [mPutS_def] at h'
  rw [if_pos hm] at h'
  exact (bs_eq_iff (inB_msgBytes _) s).1 h'
/-- What the program has read, by its kind. -/
theorem rd (s : ByteArray) (i : Nat) : IntKind.i64.wrap (byteAt s i) = (bytesL s).getD i 0 := wrap_byte s i
theorem rd3 (s : ByteArray) : IntKind.i64.wrap (byteAt (s.extract 3 s.size) 0) = (bytesL s).getD 3 0 := by rw [wrap_byte, bytesL_extract, getD_drop]
theorem ex3 (s : ByteArray) : bytesL (s.extract 3 s.size) = (bytesL s).drop 3 := bytesL_extract s 3
theorem ex32 (s : ByteArray) : bytesL ((s.extract 3 s.size).extract 2 (s.extract 3 s.size).size) = (bytesL s).drop 5 := by rw [bytesL_extract, bytesL_extract, List.drop_drop]
theorem ex31 (s : ByteArray) : bytesL ((s.extract 3 s.size).extract 1 (s.extract 3 s.size).size) = (bytesL s).drop 4 := by rw [bytesL_extract, bytesL_extract, List.drop_drop]
theorem ex_size (s : ByteArray) (a : Nat) : (s.extract a s.size).size = s.size - a := by rw [← bytesL_len, bytesL_extract, List.length_drop, bytesL_len]
theorem k0_iff {s : ByteArray} {n : Int} {b : Bool} (h : decide (byteAt s 0 = n) = b) : decide ((bytesL s).getD 0 0 = n) = b := by rw [← byteAt_bytesL]; exact h
theorem pm1 {s : ByteArray} (h0 : decide (byteAt s 0 = 0) = false) (h1 : decide (byteAt s 0 = 1) = true) :
    (⟨IntKind.i64.wrap (byteAt s 0), IntKind.i64.wrap (byteAt s 1), IntKind.i64.wrap (byteAt s 2), [], 0, getItemL (bytesL (s.extract 3 s.size)), false⟩ : GMsg) = parse (bytesL s) := by
  have h0 := of_decide_eq_false (k0_iff h0)
  have h1 := of_decide_eq_true (k0_iff h1)
  unfold parse
  rw [if_neg h0, if_pos h1, rd, rd, rd, ex3]
theorem pm3 {s : ByteArray} (h0 : decide (byteAt s 0 = 0) = false) (h1 : decide (byteAt s 0 = 1) = false) (h3 : decide (byteAt s 0 = 3) = true) (h4 : decide (1 < ((s.extract 3 s.size).size : Int)) = true) (h5 : decide (byteAt (s.extract 3 s.size) 1 = 1) = true) :
    (⟨IntKind.i64.wrap (byteAt s 0), IntKind.i64.wrap (byteAt s 1), IntKind.i64.wrap (byteAt s 2), [], IntKind.i64.wrap (byteAt (s.extract 3 s.size) 0), getItemL (bytesL ((s.extract 3 s.size).extract 2 (s.extract 3 s.size).size)), true⟩ : GMsg) = parse (bytesL s) := by
  have h0 := of_decide_eq_false (k0_iff h0)
  have h1 := of_decide_eq_false (k0_iff h1)
  have h3 := of_decide_eq_true (k0_iff h3)
  have h4 := of_decide_eq_true h4
  have h5 := of_decide_eq_true h5
  rw [byteAt_bytesL, ex3, getD_drop] at h5
  rw [ex_size] at h4
  unfold parse
  rw [if_neg h0, if_neg h1, if_pos h3, if_pos ⟨by rw [bytesL_len]; omega, h5⟩, rd, rd, rd, rd3, ex32]
theorem pm3' {s : ByteArray} (h0 : decide (byteAt s 0 = 0) = false) (h1 : decide (byteAt s 0 = 1) = false) (h3 : decide (byteAt s 0 = 3) = true) (h4 : decide (1 < ((s.extract 3 s.size).size : Int)) = false ∨ decide (byteAt (s.extract 3 s.size) 1 = 1) = false) :
    (⟨IntKind.i64.wrap (byteAt s 0), IntKind.i64.wrap (byteAt s 1), IntKind.i64.wrap (byteAt s 2), [], IntKind.i64.wrap (byteAt (s.extract 3 s.size) 0), item0, false⟩ : GMsg) = parse (bytesL s) := by
  have h0 := of_decide_eq_false (k0_iff h0)
  have h1 := of_decide_eq_false (k0_iff h1)
  have h3 := of_decide_eq_true (k0_iff h3)
  unfold parse
  rw [if_neg h0, if_neg h1, if_pos h3, if_neg ?_, rd, rd, rd, rd3]
  rintro ⟨g1, g2⟩
  rcases h4 with h4 | h4
  · have h4 := of_decide_eq_false h4
    rw [ex_size] at h4
    rw [bytesL_len] at g1
    omega
  · have h4 := of_decide_eq_false h4
    rw [byteAt_bytesL, ex3, getD_drop] at h4
    exact h4 g2
theorem pm4 {s : ByteArray} (h0 : decide (byteAt s 0 = 0) = false) (h1 : decide (byteAt s 0 = 1) = false) (h3 : decide (byteAt s 0 = 3) = false) :
    (⟨IntKind.i64.wrap (byteAt s 0), IntKind.i64.wrap (byteAt s 1), IntKind.i64.wrap (byteAt s 2), [], IntKind.i64.wrap (byteAt (s.extract 3 s.size) 0), item0, false⟩ : GMsg) = parse (bytesL s) := by
  have h0 := of_decide_eq_false (k0_iff h0)
  have h1 := of_decide_eq_false (k0_iff h1)
  have h3 := of_decide_eq_false (k0_iff h3)
  unfold parse
  rw [if_neg h0, if_neg h1, if_neg h3, rd, rd, rd, rd3]
theorem pm0 {s : ByteArray} (h0 : decide (byteAt s 0 = 0) = true) {l : List Int} (hl : l = (bytesL s).drop 4) :
    (⟨IntKind.i64.wrap (byteAt s 0), IntKind.i64.wrap (byteAt s 1), IntKind.i64.wrap (byteAt s 2), l, 0, item0, false⟩ : GMsg) = parse (bytesL s) := by
  have h0 := of_decide_eq_true (k0_iff h0)
  unfold parse
  rw [if_pos h0, rd, rd, rd, hl]
theorem qpm1 {s : ByteArray} (h0 : decide (byteAt s (Int.toNat 0) = 0) = false) (h1 : decide (byteAt s (Int.toNat 0) = 1) = true) :
    (⟨IntKind.i64.wrap (byteAt s (Int.toNat 0)), IntKind.i64.wrap (byteAt s (Int.toNat 1)), IntKind.i64.wrap (byteAt s (Int.toNat 2)), [], 0, ⟨(getItemL (bytesL (s.extract (Int.toNat 3) (s.size : Int).toNat))).key, ⟨(getItemL (bytesL (s.extract (Int.toNat 3) (s.size : Int).toNat))).ver.count, (getItemL (bytesL (s.extract (Int.toNat 3) (s.size : Int).toNat))).ver.writer⟩, (getItemL (bytesL (s.extract (Int.toNat 3) (s.size : Int).toNat))).value, (getItemL (bytesL (s.extract (Int.toNat 3) (s.size : Int).toNat))).gone⟩, false⟩ : GMsg) = parse (bytesL s) := pm1 h0 h1
theorem qpm3 {s : ByteArray} (h0 : decide (byteAt s (Int.toNat 0) = 0) = false) (h1 : decide (byteAt s (Int.toNat 0) = 1) = false) (h3 : decide (byteAt s (Int.toNat 0) = 3) = true) (h4 : decide (1 < ((s.extract (Int.toNat 3) (s.size : Int).toNat).size : Int)) = true) (h5 : decide (byteAt (s.extract (Int.toNat 3) (s.size : Int).toNat) (Int.toNat 1) = 1) = true) :
    (⟨IntKind.i64.wrap (byteAt s (Int.toNat 0)), IntKind.i64.wrap (byteAt s (Int.toNat 1)), IntKind.i64.wrap (byteAt s (Int.toNat 2)), [], IntKind.i64.wrap (byteAt (s.extract (Int.toNat 3) (s.size : Int).toNat) (Int.toNat 0)), ⟨(getItemL (bytesL ((s.extract (Int.toNat 3) (s.size : Int).toNat).extract (Int.toNat 2) ((s.extract (Int.toNat 3) (s.size : Int).toNat).size : Int).toNat))).key, ⟨(getItemL (bytesL ((s.extract (Int.toNat 3) (s.size : Int).toNat).extract (Int.toNat 2) ((s.extract (Int.toNat 3) (s.size : Int).toNat).size : Int).toNat))).ver.count, (getItemL (bytesL ((s.extract (Int.toNat 3) (s.size : Int).toNat).extract (Int.toNat 2) ((s.extract (Int.toNat 3) (s.size : Int).toNat).size : Int).toNat))).ver.writer⟩, (getItemL (bytesL ((s.extract (Int.toNat 3) (s.size : Int).toNat).extract (Int.toNat 2) ((s.extract (Int.toNat 3) (s.size : Int).toNat).size : Int).toNat))).value, (getItemL (bytesL ((s.extract (Int.toNat 3) (s.size : Int).toNat).extract (Int.toNat 2) ((s.extract (Int.toNat 3) (s.size : Int).toNat).size : Int).toNat))).gone⟩, true⟩ : GMsg) = parse (bytesL s) := pm3 h0 h1 h3 h4 h5
theorem qpm3' {s : ByteArray} (h0 : decide (byteAt s (Int.toNat 0) = 0) = false) (h1 : decide (byteAt s (Int.toNat 0) = 1) = false) (h3 : decide (byteAt s (Int.toNat 0) = 3) = true) (h4 : decide (1 < ((s.extract (Int.toNat 3) (s.size : Int).toNat).size : Int)) = false ∨ decide (byteAt (s.extract (Int.toNat 3) (s.size : Int).toNat) (Int.toNat 1) = 1) = false) :
    (⟨IntKind.i64.wrap (byteAt s (Int.toNat 0)), IntKind.i64.wrap (byteAt s (Int.toNat 1)), IntKind.i64.wrap (byteAt s (Int.toNat 2)), [], IntKind.i64.wrap (byteAt (s.extract (Int.toNat 3) (s.size : Int).toNat) (Int.toNat 0)), ⟨0, ⟨0, 0⟩, 0, false⟩, false⟩ : GMsg) = parse (bytesL s) := pm3' h0 h1 h3 h4
theorem qpm4 {s : ByteArray} (h0 : decide (byteAt s (Int.toNat 0) = 0) = false) (h1 : decide (byteAt s (Int.toNat 0) = 1) = false) (h3 : decide (byteAt s (Int.toNat 0) = 3) = false) :
    (⟨IntKind.i64.wrap (byteAt s (Int.toNat 0)), IntKind.i64.wrap (byteAt s (Int.toNat 1)), IntKind.i64.wrap (byteAt s (Int.toNat 2)), [], IntKind.i64.wrap (byteAt (s.extract (Int.toNat 3) (s.size : Int).toNat) (Int.toNat 0)), ⟨0, ⟨0, 0⟩, 0, false⟩, false⟩ : GMsg) = parse (bytesL s) := pm4 h0 h1 h3
theorem qpm0 {s : ByteArray} (h0 : decide (byteAt s (Int.toNat 0) = 0) = true) {l : List Int} (hl : l = (bytesL s).drop 4) :
    (⟨IntKind.i64.wrap (byteAt s (Int.toNat 0)), IntKind.i64.wrap (byteAt s (Int.toNat 1)), IntKind.i64.wrap (byteAt s (Int.toNat 2)), l, 0, ⟨0, ⟨0, 0⟩, 0, false⟩, false⟩ : GMsg) = parse (bytesL s) := pm0 h0 hl
theorem ex31' (s : ByteArray) : bytesL ((s.extract (Int.toNat 3) (s.size : Int).toNat).extract (Int.toNat 1) ((s.extract (Int.toNat 3) (s.size : Int).toNat).size : Int).toNat) = (bytesL s).drop 4 := ex31 s
theorem inB_drop {l : List Int} (h : InB l) (n : Nat) : InB (l.drop n) := fun x hx => h x (List.mem_of_mem_drop hx)
theorem row_step {l : List Int} (h : InB l) {k : Nat} (hk : k < l.length) : l.take k ++ [IntKind.i64.wrap (l.getD k 0)] = l.take (k + 1) := by
  have h1 := getD_inB h k
  rw [wrapI (by omega) (by omega), List.take_succ_eq_append_getElem hk]
  simp [List.getD_eq_getElem?_getD, hk]
theorem t_fill : TrKnown Try.prog tau 50 (inlT tau (mkCtx []) [] [] Try.f50) := inl_ok hmix tau_ok ctx_nil (by kernel_rfl) [] (by kernel_rfl) []
theorem t_fill2 : TrKnown Try.prog tau 62 (inlT tau (mkCtx [(63, sp_get)]) [] [] Try.f62) := inl_ok hmix tau_ok (ctx_cons k_get ctx_nil) (by kernel_rfl) [] (by kernel_rfl) []
theorem t_fill3 : TrKnown Try.prog tau 64 (inlT tau (mkCtx [(63, sp_get)]) [] [] Try.f64) := inl_ok hmix tau_ok (ctx_cons k_get ctx_nil) (by kernel_rfl) [] (by kernel_rfl) []
theorem t_fill4 : TrKnown Try.prog tau 65 (inlT tau (mkCtx []) [] [] Try.f65) := inl_ok hmix tau_ok ctx_nil (by kernel_rfl) [] (by kernel_rfl) []
theorem t_fill1 (L : List (Nat × Inv)) : TrKnown Try.prog tau 61 (inlT tau (mkCtx []) [] L Try.f61) := inl_ok hmix tau_ok ctx_nil (by kernel_rfl) [] (by kernel_rfl) L
set_option maxHeartbeats 4000000 in
theorem k_Get : Known Try.prog tau 23 (S1 dStr oGet) := by
  refine knownX1 hmix tau_ok (fn := Try.f23) (by kernel_rfl) [(3, [(0, 0), (1, 1), (2, 2), (3, 0), (4, 8), (5, 16), (6, 0), (7, 64), (8, 128), (9, 292), (10, 0), (11, 2047)]), (4, [(0, 0), (1, 1), (2, 2), (3, 0), (4, 8), (5, 20)])] (by kernel_rfl) _ _ fun s hfit hsz => ⟨rfl, _, ctx_tr t_fill (ctx_tr (t_fill1
    [(1, invX Nat [5, 10, 11, 12, 13, 14, 15, 16, 17, 18, 19, 20, 21, 22, 23, 24, 25] [10000022] (fun i => i ≤ (bytesL s).length - 4) (fun i => match i with
      | 0 => withS [(10, .int .i64 0)]
      | i + 1 => fun st => withS [(10, .int .i64 ((i + 1 : Nat) : Int))] (withBC 4 3 (.own 10000022) (withR [(10000022, .own (.ints (((bytesL s).drop 4).take (i + 1))))] st))) (fun i => (bytesL s).length - i))])
    (ctx_tr t_fill2 (ctx_tr t_fill3 (ctx_tr t_fill4 (ctx_cons k_Put ctx_nil))))), [], ?_⟩
  clear hfit
  (repeat' (first | ((with_reducible refine body_intro ?_); (first | refine seq_intro (fun Kv hN hX hR => ?_) | (conv => whnf))) | with_reducible refine body_stop (fun Kv hN hX hR => ?_) | with_reducible refine Stop.mk ?_ | with_reducible refine DrawJ.each ?_ | with_reducible exact SubJ.self _ | with_reducible refine SubJ.of ?_ | with_reducible refine seq_intro (fun Kv hN hX hR => ?_) | (with_reducible refine hN _ ?_; clear hN hX hR; clear Kv) | (with_reducible refine hX _ _ ?_; clear hN hX hR; clear Kv) | (with_reducible refine hR _ ?_; clear hN hX hR; clear Kv) | ((conv => whnf); first | with_reducible rfl | with_reducible exact True.intro | with_reducible refine (fun (_ : (_ : Prop)) => ?_) | with_reducible refine And.intro ?_ ?_ | (with_reducible refine hN _ ?_; clear hN hX hR; clear Kv) | (with_reducible refine hX _ _ ?_; clear hN hX hR; clear Kv) | (with_reducible refine hR _ ?_; clear hN hX hR; clear Kv) | with_reducible refine body_stop (fun Kv hN hX hR => ?_) | with_reducible refine Stop.mk ?_ | with_reducible refine DrawJ.each ?_ | with_reducible exact SubJ.self _ | with_reducible refine SubJ.of ?_))); all_goals (conv => whnf); all_goals (repeat (clear hN hX hR; clear Kv))
  all_goals first
    | (refine Ob.mk ?_
       have h0 : decide ((s.size : Int) ≤ 3) = false := by with_reducible assumption
       have h0 : ¬ (s.size : Int) ≤ 3 := of_decide_eq_false h0
       have e1 : (s.extract (Int.toNat 3) (s.size : Int).toNat).size = s.size - 3 := ex_size s 3
       have e2 : ((s.extract (Int.toNat 3) (s.size : Int).toNat).extract (Int.toNat 1) ((s.extract (Int.toNat 3) (s.size : Int).toNat).size : Int).toNat).size = s.size - 3 - 1 := by rw [← ex_size s 3]; exact ex_size (s.extract 3 s.size) 1
       omega)
    | (rw [get_short (by with_reducible assumption)] <;> rfl)
    | (rw [get_bad1 (qpm1 (by with_reducible assumption) (by with_reducible assumption)) (by with_reducible assumption)] <;> rfl)
    | (rw [get_bad2 (qpm1 (by with_reducible assumption) (by with_reducible assumption)) (by with_reducible assumption)] <;> rfl)
    | (rw [get_good (qpm1 (by with_reducible assumption) (by with_reducible assumption)) (by with_reducible assumption) (by with_reducible assumption) (by with_reducible assumption)] <;> rfl)
    | (rw [get_bad1 (qpm4 (by with_reducible assumption) (by with_reducible assumption) (by with_reducible assumption)) (by with_reducible assumption)] <;> rfl)
    | (rw [get_bad2 (qpm4 (by with_reducible assumption) (by with_reducible assumption) (by with_reducible assumption)) (by with_reducible assumption)] <;> rfl)
    | (rw [get_good (qpm4 (by with_reducible assumption) (by with_reducible assumption) (by with_reducible assumption)) (by with_reducible assumption) (by with_reducible assumption) (by with_reducible assumption)] <;> rfl)
    | (rw [get_bad1 (qpm3 (by with_reducible assumption) (by with_reducible assumption) (by with_reducible assumption) (by with_reducible assumption) (by with_reducible assumption)) (by with_reducible assumption)] <;> rfl)
    | (rw [get_bad2 (qpm3 (by with_reducible assumption) (by with_reducible assumption) (by with_reducible assumption) (by with_reducible assumption) (by with_reducible assumption)) (by with_reducible assumption)] <;> rfl)
    | (rw [get_good (qpm3 (by with_reducible assumption) (by with_reducible assumption) (by with_reducible assumption) (by with_reducible assumption) (by with_reducible assumption)) (by with_reducible assumption) (by with_reducible assumption) (by with_reducible assumption)] <;> rfl)
    | (rw [get_bad1 (qpm3' (by with_reducible assumption) (by with_reducible assumption) (by with_reducible assumption) (.inl (by with_reducible assumption))) (by with_reducible assumption)] <;> rfl)
    | (rw [get_bad2 (qpm3' (by with_reducible assumption) (by with_reducible assumption) (by with_reducible assumption) (.inl (by with_reducible assumption))) (by with_reducible assumption)] <;> rfl)
    | (rw [get_good (qpm3' (by with_reducible assumption) (by with_reducible assumption) (by with_reducible assumption) (.inl (by with_reducible assumption))) (by with_reducible assumption) (by with_reducible assumption) (by with_reducible assumption)] <;> rfl)
    | (rw [get_bad1 (qpm3' (by with_reducible assumption) (by with_reducible assumption) (by with_reducible assumption) (.inr (by with_reducible assumption))) (by with_reducible assumption)] <;> rfl)
    | (rw [get_bad2 (qpm3' (by with_reducible assumption) (by with_reducible assumption) (by with_reducible assumption) (.inr (by with_reducible assumption))) (by with_reducible assumption)] <;> rfl)
    | (rw [get_good (qpm3' (by with_reducible assumption) (by with_reducible assumption) (by with_reducible assumption) (.inr (by with_reducible assumption))) (by with_reducible assumption) (by with_reducible assumption) (by with_reducible assumption)] <;> rfl)
    | exact Ob.mk ⟨by omega, of_decide_eq_true (by with_reducible assumption)⟩
    | (refine ⟨0, by omega, ?_⟩
       (repeat' (first | ((with_reducible refine body_intro ?_); (first | refine seq_intro (fun Kv hN hX hR => ?_) | (conv => whnf))) | with_reducible refine body_stop (fun Kv hN hX hR => ?_) | with_reducible refine Stop.mk ?_ | with_reducible refine DrawJ.each ?_ | with_reducible exact SubJ.self _ | with_reducible refine SubJ.of ?_ | with_reducible refine seq_intro (fun Kv hN hX hR => ?_) | (with_reducible refine hN _ ?_; clear hN hX hR; clear Kv) | (with_reducible refine hX _ _ ?_; clear hN hX hR; clear Kv) | (with_reducible refine hR _ ?_; clear hN hX hR; clear Kv) | ((conv => whnf); first | with_reducible rfl | with_reducible exact True.intro | with_reducible intro _ | with_reducible refine And.intro ?_ ?_ | (with_reducible refine hN _ ?_; clear hN hX hR; clear Kv) | (with_reducible refine hX _ _ ?_; clear hN hX hR; clear Kv) | (with_reducible refine hR _ ?_; clear hN hX hR; clear Kv) | with_reducible refine body_stop (fun Kv hN hX hR => ?_) | with_reducible refine Stop.mk ?_ | with_reducible refine DrawJ.each ?_ | with_reducible exact SubJ.self _ | with_reducible refine SubJ.of ?_))); all_goals (conv => whnf); all_goals (repeat (clear hN hX hR; clear Kv))
       all_goals rfl)
    | skip
  all_goals
    intro i hi
    rcases i with _ | i
  all_goals
    have hExt := ex31' s
    have hB := inB_drop (inB_bytesL s) 4
    have hLen : ((bytesL s).drop 4).length = s.size - 4 := by rw [List.length_drop, bytesL_len]
    have hL := bytesL_len s
    (repeat' (first | ((with_reducible refine body_intro ?_); (first | refine seq_intro (fun Kv hN hX hR => ?_) | (conv => whnf))) | with_reducible refine body_stop (fun Kv hN hX hR => ?_) | with_reducible refine Stop.mk ?_ | with_reducible refine DrawJ.each ?_ | with_reducible exact SubJ.self _ | with_reducible refine SubJ.of ?_ | with_reducible refine seq_intro (fun Kv hN hX hR => ?_) | (with_reducible refine hN _ ?_; clear hN hX hR; clear Kv) | (with_reducible refine hX _ _ ?_; clear hN hX hR; clear Kv) | (with_reducible refine hR _ ?_; clear hN hX hR; clear Kv) | ((conv => whnf); first | with_reducible rfl | with_reducible exact True.intro | with_reducible intro _ | with_reducible refine And.intro ?_ ?_ | (with_reducible refine hN _ ?_; clear hN hX hR; clear Kv) | (with_reducible refine hX _ _ ?_; clear hN hX hR; clear Kv) | (with_reducible refine hR _ ?_; clear hN hX hR; clear Kv) | with_reducible refine body_stop (fun Kv hN hX hR => ?_) | with_reducible refine Stop.mk ?_ | with_reducible refine DrawJ.each ?_ | with_reducible exact SubJ.self _ | with_reducible refine SubJ.of ?_))); all_goals (conv => whnf); all_goals (repeat (clear hN hX hR; clear Kv))
  all_goals rw [hExt] at *
  all_goals first
    | (refine Ob.mk ⟨by omega, of_decide_eq_true (by with_reducible assumption)⟩
       done)
    | (refine Ob.mk ?_
       simp [Rw.len, Rw.bts, Rw.kd, kdBytes]
       try omega
       done)
    | (have h : decide (0 < ((((bytesL s).drop 4).length : Nat) : Int)) = false := by with_reducible assumption
       have h : ¬ 0 < ((((bytesL s).drop 4).length : Nat) : Int) := of_decide_eq_false h
       have hl : [] = (bytesL s).drop 4 := (List.eq_nil_of_length_eq_zero (by omega)).symm
       first
         | (rw [get_bad1 (qpm0 (by with_reducible assumption) hl) (by with_reducible assumption)] <;> rfl)
         | (rw [get_bad2 (qpm0 (by with_reducible assumption) hl) (by with_reducible assumption)] <;> rfl)
         | (rw [get_good (qpm0 (by with_reducible assumption) hl) (by with_reducible assumption) (by with_reducible assumption) (by with_reducible assumption)] <;> rfl))
    | (have h : decide ((((i + 1 : Nat) : Int)) < ((((bytesL s).drop 4).length : Nat) : Int)) = false := by with_reducible assumption
       have h : ¬ ((i + 1 : Nat) : Int) < ((((bytesL s).drop 4).length : Nat) : Int) := of_decide_eq_false h
       have hl : ((bytesL s).drop 4).take (i + 1) = (bytesL s).drop 4 := List.take_of_length_le (by omega)
       first
         | (rw [get_bad1 (qpm0 (by with_reducible assumption) hl) (by with_reducible assumption)] <;> rfl)
         | (rw [get_bad2 (qpm0 (by with_reducible assumption) hl) (by with_reducible assumption)] <;> rfl)
         | (rw [get_good (qpm0 (by with_reducible assumption) hl) (by with_reducible assumption) (by with_reducible assumption) (by with_reducible assumption)] <;> rfl))
    | (have h : decide (0 < ((((bytesL s).drop 4).length : Nat) : Int)) = true := by with_reducible assumption
       have h : 0 < ((((bytesL s).drop 4).length : Nat) : Int) := of_decide_eq_true h
       refine ⟨1, by omega, by show (bytesL s).length - 1 < (bytesL s).length - 0; omega, ?_⟩
       have hs := row_step hB (k := 0) (by omega)
       (repeat' (first | ((with_reducible refine body_intro ?_); (first | refine seq_intro (fun Kv hN hX hR => ?_) | (conv => whnf))) | with_reducible refine body_stop (fun Kv hN hX hR => ?_) | with_reducible refine Stop.mk ?_ | with_reducible refine DrawJ.each ?_ | with_reducible exact SubJ.self _ | with_reducible refine SubJ.of ?_ | with_reducible refine seq_intro (fun Kv hN hX hR => ?_) | (with_reducible refine hN _ ?_; clear hN hX hR; clear Kv) | (with_reducible refine hX _ _ ?_; clear hN hX hR; clear Kv) | (with_reducible refine hR _ ?_; clear hN hX hR; clear Kv) | ((conv => whnf); first | with_reducible rfl | with_reducible exact True.intro | with_reducible intro _ | with_reducible refine And.intro ?_ ?_ | (with_reducible refine hN _ ?_; clear hN hX hR; clear Kv) | (with_reducible refine hX _ _ ?_; clear hN hX hR; clear Kv) | (with_reducible refine hR _ ?_; clear hN hX hR; clear Kv) | with_reducible refine body_stop (fun Kv hN hX hR => ?_) | with_reducible refine Stop.mk ?_ | with_reducible refine DrawJ.each ?_ | with_reducible exact SubJ.self _ | with_reducible refine SubJ.of ?_))); all_goals (conv => whnf); all_goals (repeat (clear hN hX hR; clear Kv))
       all_goals first
         | rfl
         | exact congrArg Rw.ints hs)
    | (have h : decide ((((i + 1 : Nat) : Int)) < ((((bytesL s).drop 4).length : Nat) : Int)) = true := by with_reducible assumption
       have h : ((i + 1 : Nat) : Int) < ((((bytesL s).drop 4).length : Nat) : Int) := of_decide_eq_true h
       refine ⟨i + 1 + 1, by omega, by show (bytesL s).length - (i + 1 + 1) < (bytesL s).length - (i + 1); omega, ?_⟩
       have hs := row_step hB (k := i + 1) (by omega)
       (repeat' (first | ((with_reducible refine body_intro ?_); (first | refine seq_intro (fun Kv hN hX hR => ?_) | (conv => whnf))) | with_reducible refine body_stop (fun Kv hN hX hR => ?_) | with_reducible refine Stop.mk ?_ | with_reducible refine DrawJ.each ?_ | with_reducible exact SubJ.self _ | with_reducible refine SubJ.of ?_ | with_reducible refine seq_intro (fun Kv hN hX hR => ?_) | (with_reducible refine hN _ ?_; clear hN hX hR; clear Kv) | (with_reducible refine hX _ _ ?_; clear hN hX hR; clear Kv) | (with_reducible refine hR _ ?_; clear hN hX hR; clear Kv) | ((conv => whnf); first | with_reducible rfl | with_reducible exact True.intro | with_reducible intro _ | with_reducible refine And.intro ?_ ?_ | (with_reducible refine hN _ ?_; clear hN hX hR; clear Kv) | (with_reducible refine hX _ _ ?_; clear hN hX hR; clear Kv) | (with_reducible refine hR _ ?_; clear hN hX hR; clear Kv) | with_reducible refine body_stop (fun Kv hN hX hR => ?_) | with_reducible refine Stop.mk ?_ | with_reducible refine DrawJ.each ?_ | with_reducible exact SubJ.self _ | with_reducible refine SubJ.of ?_))); all_goals (conv => whnf); all_goals (repeat (clear hN hX hR; clear Kv))
       all_goals first
         | exact wrapI (by omega) (by omega)
         | exact congrArg Rw.ints hs
         | rfl)
end Go.Proofs.Ytmgccphapkmmeaa

/- Contracts: a message out of its bytes: aS the document's answer reads it. -/
namespace Go.Proofs.Ytmgccphapkmmeaa
open Go.RowKit

theorem eta_item (X : GItem) : (⟨X.key, ⟨X.ver.count, X.ver.writer⟩, X.value, X.gone⟩ : GItem) = X := rfl
theorem rowR (s : ByteArray) (k : Nat) : byteAt s (4 + k) = ((bytesL s).drop 4).getD k 0 := by rw [byteAt_bytesL, getD_drop]
theorem getR_short {s : ByteArray} (h : decide ((s.size : Int) < 4) = true) : mGet s = (msg0, 1300) := by
  have h : (s.size : Int) < 4 := of_decide_eq_true h
  rw [mGet_def]
  rw [if_neg (by omega)]
theorem getR_bad1 {s : ByteArray} {M : GMsg} (hM : M = parseR (bytesL s)) (h : (!decide (mPutE M = 0)) = true) : mGet s = (msg0, 1300) := by
  subst hM
  rw [mGet_eq]
  rw [if_neg]
  rintro ⟨_, h1, _⟩
  simp [mPutE_def, h1] at h
theorem getR_bad2 {s : ByteArray} {M : GMsg} (hM : M = parseR (bytesL s)) (h : (!((mPutS M).toList == s.toList)) = true) : mGet s = (msg0, 1300) := by
  subst hM
  rw [mGet_eq]
  rw [if_neg]
  rintro ⟨_, h1, h2⟩
  rw [str_beq] at h
  have : mPutS (parseR (bytesL s)) = s := by
    rw [mPutS_def]
    rw [if_pos h1, h2, bs_bytesL]
  simp [this] at h
theorem getR_good {s : ByteArray} {M : GMsg} (hM : M = parseR (bytesL s)) (h0 : decide ((s.size : Int) < 4) = false) (h : (!decide (mPutE M = 0)) = false) (h' : (!((mPutS M).toList == s.toList)) = false) : mGet s = (M, 0) := by
  subst hM
  have h0 : ¬ (s.size : Int) < 4 := of_decide_eq_false h0
  have h : mPutE (parseR (bytesL s)) = 0 := by simpa using h
  rw [str_beq] at h'
  have h' : mPutS (parseR (bytesL s)) = s := by simpa using h'
  have hm : mayB (parseR (bytesL s)) = true := by
    rcases putE_cases (parseR (bytesL s)) with h1 | h1
    · exact h1.2.1
    · rw [h1.1] at h; simp at h
  rw [mGet_eq]
  rw [if_pos]
  refine ⟨by omega, hm, ?_⟩
  rw [mPutS_def] at h'
  rw [if_pos hm] at h'
  exact (bs_eq_iff (inB_msgBytes _) s).1 h'
theorem kR_iff {s : ByteArray} {n : Int} {b : Bool} (h : decide (IntKind.i64.wrap (byteAt s (Int.toNat 0)) = n) = b) : decide ((bytesL s).getD 0 0 = n) = b := by rw [← wrap_byte]; exact h
theorem ex5 (s : ByteArray) : bytesL (s.extract 5 s.size) = (bytesL s).drop 5 := bytesL_extract s 5
theorem rm1 {s : ByteArray} (h0 : decide (IntKind.i64.wrap (byteAt s (Int.toNat 0)) = 0) = false) (h1 : decide (IntKind.i64.wrap (byteAt s (Int.toNat 0)) = 1) = true) (h2 : decide ((s.size : Int) = 10) = true) :
    (⟨IntKind.i64.wrap (byteAt s 0), IntKind.i64.wrap (byteAt s 1), IntKind.i64.wrap (byteAt s 2), [], 0, getItem6 (s.extract 3 s.size), false⟩ : GMsg) = parseR (bytesL s) := by
  have h0 := of_decide_eq_false (kR_iff h0)
  have h1 := of_decide_eq_true (kR_iff h1)
  have h2 := of_decide_eq_true h2
  unfold parseR getItem6
  rw [if_neg h0, if_pos h1, if_pos (by rw [ex_size]; omega), if_pos (by rw [bytesL_len]; omega), rd, rd, rd, ex3]
theorem rm1' {s : ByteArray} (h0 : decide (IntKind.i64.wrap (byteAt s (Int.toNat 0)) = 0) = false) (h1 : decide (IntKind.i64.wrap (byteAt s (Int.toNat 0)) = 1) = true) (h2 : decide ((s.size : Int) = 10) = false) :
    (⟨IntKind.i64.wrap (byteAt s 0), IntKind.i64.wrap (byteAt s 1), IntKind.i64.wrap (byteAt s 2), [], 0, item0, false⟩ : GMsg) = parseR (bytesL s) := by
  have h0 := of_decide_eq_false (kR_iff h0)
  have h1 := of_decide_eq_true (kR_iff h1)
  have h2 := of_decide_eq_false h2
  unfold parseR
  rw [if_neg h0, if_pos h1, if_neg (by rw [bytesL_len]; omega), rd, rd, rd]
theorem rm2 {s : ByteArray} (h0 : decide (IntKind.i64.wrap (byteAt s (Int.toNat 0)) = 0) = false) (h1 : decide (IntKind.i64.wrap (byteAt s (Int.toNat 0)) = 1) = false) (h2 : decide (IntKind.i64.wrap (byteAt s (Int.toNat 0)) = 2) = true) :
    (⟨IntKind.i64.wrap (byteAt s 0), IntKind.i64.wrap (byteAt s 1), IntKind.i64.wrap (byteAt s 2), [], IntKind.i64.wrap (byteAt s 3), item0, false⟩ : GMsg) = parseR (bytesL s) := by
  have h0 := of_decide_eq_false (kR_iff h0)
  have h1 := of_decide_eq_false (kR_iff h1)
  have h2 := of_decide_eq_true (kR_iff h2)
  unfold parseR
  rw [if_neg h0, if_neg h1, if_pos h2, rd, rd, rd, rd]
theorem rm3 {s : ByteArray} (h0 : decide (IntKind.i64.wrap (byteAt s (Int.toNat 0)) = 0) = false) (h1 : decide (IntKind.i64.wrap (byteAt s (Int.toNat 0)) = 1) = false) (h2 : decide (IntKind.i64.wrap (byteAt s (Int.toNat 0)) = 2) = false) (h3 : decide ((s.size : Int) = 12) = true) :
    (⟨IntKind.i64.wrap (byteAt s 0), IntKind.i64.wrap (byteAt s 1), IntKind.i64.wrap (byteAt s 2), [], IntKind.i64.wrap (byteAt s 3), getItem6 (s.extract 5 s.size), true⟩ : GMsg) = parseR (bytesL s) := by
  have h0 := of_decide_eq_false (kR_iff h0)
  have h1 := of_decide_eq_false (kR_iff h1)
  have h2 := of_decide_eq_false (kR_iff h2)
  have h3 := of_decide_eq_true h3
  unfold parseR getItem6
  rw [if_neg h0, if_neg h1, if_neg h2, if_pos (by rw [ex_size]; omega), if_pos (by rw [bytesL_len]; omega), rd, rd, rd, rd, ex5]
theorem rm3' {s : ByteArray} (h0 : decide (IntKind.i64.wrap (byteAt s (Int.toNat 0)) = 0) = false) (h1 : decide (IntKind.i64.wrap (byteAt s (Int.toNat 0)) = 1) = false) (h2 : decide (IntKind.i64.wrap (byteAt s (Int.toNat 0)) = 2) = false) (h3 : decide ((s.size : Int) = 12) = false) :
    (⟨IntKind.i64.wrap (byteAt s 0), IntKind.i64.wrap (byteAt s 1), IntKind.i64.wrap (byteAt s 2), [], IntKind.i64.wrap (byteAt s 3), item0, false⟩ : GMsg) = parseR (bytesL s) := by
  have h0 := of_decide_eq_false (kR_iff h0)
  have h1 := of_decide_eq_false (kR_iff h1)
  have h2 := of_decide_eq_false (kR_iff h2)
  have h3 := of_decide_eq_false h3
  unfold parseR
  rw [if_neg h0, if_neg h1, if_neg h2, if_neg (by rw [bytesL_len]; omega), rd, rd, rd, rd]
theorem rm0 {s : ByteArray} (h0 : decide (IntKind.i64.wrap (byteAt s (Int.toNat 0)) = 0) = true) {l : List Int} (hl : l = (bytesL s).drop 4) :
    (⟨IntKind.i64.wrap (byteAt s 0), IntKind.i64.wrap (byteAt s 1), IntKind.i64.wrap (byteAt s 2), l, 0, item0, false⟩ : GMsg) = parseR (bytesL s) := by
  have h0 := of_decide_eq_true (kR_iff h0)
  unfold parseR
  rw [if_pos h0, rd, rd, rd, hl]
theorem qrm1 {s : ByteArray} (h0 : decide (IntKind.i64.wrap (byteAt s (Int.toNat 0)) = 0) = false) (h1 : decide (IntKind.i64.wrap (byteAt s (Int.toNat 0)) = 1) = true) (h2 : decide ((s.size : Int) = 10) = true) :
    (⟨IntKind.i64.wrap (byteAt s (Int.toNat 0)), IntKind.i64.wrap (byteAt s (Int.toNat 1)), IntKind.i64.wrap (byteAt s (Int.toNat 2)), [], 0, ⟨(getItem6 (s.extract (Int.toNat 3) (s.size : Int).toNat)).key, ⟨(getItem6 (s.extract (Int.toNat 3) (s.size : Int).toNat)).ver.count, (getItem6 (s.extract (Int.toNat 3) (s.size : Int).toNat)).ver.writer⟩, (getItem6 (s.extract (Int.toNat 3) (s.size : Int).toNat)).value, (getItem6 (s.extract (Int.toNat 3) (s.size : Int).toNat)).gone⟩, false⟩ : GMsg) = parseR (bytesL s) := by
  have h := rm1 h0 h1 h2
  rw [show s.extract (Int.toNat 3) (s.size : Int).toNat = s.extract 3 s.size from rfl, eta_item]
  exact h
theorem qrm1' {s : ByteArray} (h0 : decide (IntKind.i64.wrap (byteAt s (Int.toNat 0)) = 0) = false) (h1 : decide (IntKind.i64.wrap (byteAt s (Int.toNat 0)) = 1) = true) (h2 : decide ((s.size : Int) = 10) = false) :
    (⟨IntKind.i64.wrap (byteAt s (Int.toNat 0)), IntKind.i64.wrap (byteAt s (Int.toNat 1)), IntKind.i64.wrap (byteAt s (Int.toNat 2)), [], 0, ⟨0, ⟨0, 0⟩, 0, false⟩, false⟩ : GMsg) = parseR (bytesL s) := rm1' h0 h1 h2
theorem qrm2 {s : ByteArray} (h0 : decide (IntKind.i64.wrap (byteAt s (Int.toNat 0)) = 0) = false) (h1 : decide (IntKind.i64.wrap (byteAt s (Int.toNat 0)) = 1) = false) (h2 : decide (IntKind.i64.wrap (byteAt s (Int.toNat 0)) = 2) = true) :
    (⟨IntKind.i64.wrap (byteAt s (Int.toNat 0)), IntKind.i64.wrap (byteAt s (Int.toNat 1)), IntKind.i64.wrap (byteAt s (Int.toNat 2)), [], IntKind.i64.wrap (byteAt s (Int.toNat 3)), ⟨0, ⟨0, 0⟩, 0, false⟩, false⟩ : GMsg) = parseR (bytesL s) := rm2 h0 h1 h2
theorem qrm3 {s : ByteArray} (h0 : decide (IntKind.i64.wrap (byteAt s (Int.toNat 0)) = 0) = false) (h1 : decide (IntKind.i64.wrap (byteAt s (Int.toNat 0)) = 1) = false) (h2 : decide (IntKind.i64.wrap (byteAt s (Int.toNat 0)) = 2) = false) (h3 : decide ((s.size : Int) = 12) = true) :
    (⟨IntKind.i64.wrap (byteAt s (Int.toNat 0)), IntKind.i64.wrap (byteAt s (Int.toNat 1)), IntKind.i64.wrap (byteAt s (Int.toNat 2)), [], IntKind.i64.wrap (byteAt s (Int.toNat 3)), ⟨(getItem6 (s.extract (Int.toNat 5) (s.size : Int).toNat)).key, ⟨(getItem6 (s.extract (Int.toNat 5) (s.size : Int).toNat)).ver.count, (getItem6 (s.extract (Int.toNat 5) (s.size : Int).toNat)).ver.writer⟩, (getItem6 (s.extract (Int.toNat 5) (s.size : Int).toNat)).value, (getItem6 (s.extract (Int.toNat 5) (s.size : Int).toNat)).gone⟩, true⟩ : GMsg) = parseR (bytesL s) := by
  have h := rm3 h0 h1 h2 h3
  rw [show s.extract (Int.toNat 5) (s.size : Int).toNat = s.extract 5 s.size from rfl, eta_item]
  exact h
theorem qrm3' {s : ByteArray} (h0 : decide (IntKind.i64.wrap (byteAt s (Int.toNat 0)) = 0) = false) (h1 : decide (IntKind.i64.wrap (byteAt s (Int.toNat 0)) = 1) = false) (h2 : decide (IntKind.i64.wrap (byteAt s (Int.toNat 0)) = 2) = false) (h3 : decide ((s.size : Int) = 12) = false) :
    (⟨IntKind.i64.wrap (byteAt s (Int.toNat 0)), IntKind.i64.wrap (byteAt s (Int.toNat 1)), IntKind.i64.wrap (byteAt s (Int.toNat 2)), [], IntKind.i64.wrap (byteAt s (Int.toNat 3)), ⟨0, ⟨0, 0⟩, 0, false⟩, false⟩ : GMsg) = parseR (bytesL s) := rm3' h0 h1 h2 h3
theorem qrm0 {s : ByteArray} (h0 : decide (IntKind.i64.wrap (byteAt s (Int.toNat 0)) = 0) = true) {l : List Int} (hl : l = (bytesL s).drop 4) :
    (⟨IntKind.i64.wrap (byteAt s (Int.toNat 0)), IntKind.i64.wrap (byteAt s (Int.toNat 1)), IntKind.i64.wrap (byteAt s (Int.toNat 2)), l, 0, ⟨0, ⟨0, 0⟩, 0, false⟩, false⟩ : GMsg) = parseR (bytesL s) := rm0 h0 hl
set_option maxHeartbeats 4000000 in
theorem k_GetMsg : Known Try.prog tau 24 (S1 dStr oGet) := by
  refine knownX1 hmix tau_ok (fn := Try.f24) (by kernel_rfl) [(3, [(0, 0), (1, 1), (2, 2), (3, 0), (4, 8), (5, 16), (6, 0), (7, 64), (8, 128), (9, 292), (10, 0), (11, 2047)]), (13, [(0, 0), (1, 1), (2, 0), (3, 0), (4, 12), (5, 16), (6, 32), (7, 66), (8, 255), (9, 511)])] (by kernel_rfl) _ _ fun s hfit hsz => ⟨rfl, _, (ctx_cons k_PutMsg (ctx_cons k_getItem ctx_nil)),
    [(11, invX Nat [5, 38, 39, 40, 41, 42, 43, 44, 45, 46, 47, 48, 49, 50, 51, 52] [] (fun i => i ≤ (bytesL s).length - 4) (fun i => match i with
      | 0 => withS [(5, .int .i64 4)]
      | i + 1 => fun st => withS [(5, .int .i64 (4 + ((i + 1 : Nat) : Int)))] (withBC 4 3 (.own 51) (withR [(51, .own (.ints (((bytesL s).drop 4).take (i + 1))))] st))) (fun i => (bytesL s).length - i))], ?_⟩
  clear hfit
  (repeat' (first | ((with_reducible refine body_intro ?_); (first | refine seq_intro (fun Kv hN hX hR => ?_) | (conv => whnf))) | with_reducible refine body_stop (fun Kv hN hX hR => ?_) | with_reducible refine Stop.mk ?_ | with_reducible refine DrawJ.each ?_ | with_reducible exact SubJ.self _ | with_reducible refine SubJ.of ?_ | with_reducible refine seq_intro (fun Kv hN hX hR => ?_) | (with_reducible refine hN _ ?_; clear hN hX hR; clear Kv) | (with_reducible refine hX _ _ ?_; clear hN hX hR; clear Kv) | (with_reducible refine hR _ ?_; clear hN hX hR; clear Kv) | ((conv => whnf); first | with_reducible rfl | with_reducible exact True.intro | with_reducible refine (fun (_ : (_ : Prop)) => ?_) | with_reducible refine And.intro ?_ ?_ | (with_reducible refine hN _ ?_; clear hN hX hR; clear Kv) | (with_reducible refine hX _ _ ?_; clear hN hX hR; clear Kv) | (with_reducible refine hR _ ?_; clear hN hX hR; clear Kv) | with_reducible refine body_stop (fun Kv hN hX hR => ?_) | with_reducible refine Stop.mk ?_ | with_reducible refine DrawJ.each ?_ | with_reducible exact SubJ.self _ | with_reducible refine SubJ.of ?_))); all_goals (conv => whnf); all_goals (repeat (clear hN hX hR; clear Kv))
  all_goals first
    | (refine Ob.mk ?_
       have h0 : decide ((s.size : Int) < 4) = false := by with_reducible assumption
       have h0 : ¬ (s.size : Int) < 4 := of_decide_eq_false h0
       omega)
    | (rw [getR_short (by with_reducible assumption)] <;> rfl)
    | (rw [getR_bad1 (qrm1 (by with_reducible assumption) (by with_reducible assumption) (by with_reducible assumption)) (by with_reducible assumption)] <;> rfl)
    | (rw [getR_bad2 (qrm1 (by with_reducible assumption) (by with_reducible assumption) (by with_reducible assumption)) (by with_reducible assumption)] <;> rfl)
    | (rw [getR_good (qrm1 (by with_reducible assumption) (by with_reducible assumption) (by with_reducible assumption)) (by with_reducible assumption) (by with_reducible assumption) (by with_reducible assumption)] <;> rfl)
    | (rw [getR_bad1 (qrm1' (by with_reducible assumption) (by with_reducible assumption) (by with_reducible assumption)) (by with_reducible assumption)] <;> rfl)
    | (rw [getR_bad2 (qrm1' (by with_reducible assumption) (by with_reducible assumption) (by with_reducible assumption)) (by with_reducible assumption)] <;> rfl)
    | (rw [getR_good (qrm1' (by with_reducible assumption) (by with_reducible assumption) (by with_reducible assumption)) (by with_reducible assumption) (by with_reducible assumption) (by with_reducible assumption)] <;> rfl)
    | (rw [getR_bad1 (qrm2 (by with_reducible assumption) (by with_reducible assumption) (by with_reducible assumption)) (by with_reducible assumption)] <;> rfl)
    | (rw [getR_bad2 (qrm2 (by with_reducible assumption) (by with_reducible assumption) (by with_reducible assumption)) (by with_reducible assumption)] <;> rfl)
    | (rw [getR_good (qrm2 (by with_reducible assumption) (by with_reducible assumption) (by with_reducible assumption)) (by with_reducible assumption) (by with_reducible assumption) (by with_reducible assumption)] <;> rfl)
    | (rw [getR_bad1 (qrm3 (by with_reducible assumption) (by with_reducible assumption) (by with_reducible assumption) (by with_reducible assumption)) (by with_reducible assumption)] <;> rfl)
    | (rw [getR_bad2 (qrm3 (by with_reducible assumption) (by with_reducible assumption) (by with_reducible assumption) (by with_reducible assumption)) (by with_reducible assumption)] <;> rfl)
    | (rw [getR_good (qrm3 (by with_reducible assumption) (by with_reducible assumption) (by with_reducible assumption) (by with_reducible assumption)) (by with_reducible assumption) (by with_reducible assumption) (by with_reducible assumption)] <;> rfl)
    | (rw [getR_bad1 (qrm3' (by with_reducible assumption) (by with_reducible assumption) (by with_reducible assumption) (by with_reducible assumption)) (by with_reducible assumption)] <;> rfl)
    | (rw [getR_bad2 (qrm3' (by with_reducible assumption) (by with_reducible assumption) (by with_reducible assumption) (by with_reducible assumption)) (by with_reducible assumption)] <;> rfl)
    | (rw [getR_good (qrm3' (by with_reducible assumption) (by with_reducible assumption) (by with_reducible assumption) (by with_reducible assumption)) (by with_reducible assumption) (by with_reducible assumption) (by with_reducible assumption)] <;> rfl)
    | (refine ⟨0, by omega, ?_⟩
       (repeat' (first | ((with_reducible refine body_intro ?_); (first | refine seq_intro (fun Kv hN hX hR => ?_) | (conv => whnf))) | with_reducible refine body_stop (fun Kv hN hX hR => ?_) | with_reducible refine Stop.mk ?_ | with_reducible refine DrawJ.each ?_ | with_reducible exact SubJ.self _ | with_reducible refine SubJ.of ?_ | with_reducible refine seq_intro (fun Kv hN hX hR => ?_) | (with_reducible refine hN _ ?_; clear hN hX hR; clear Kv) | (with_reducible refine hX _ _ ?_; clear hN hX hR; clear Kv) | (with_reducible refine hR _ ?_; clear hN hX hR; clear Kv) | ((conv => whnf); first | with_reducible rfl | with_reducible exact True.intro | with_reducible intro _ | with_reducible refine And.intro ?_ ?_ | (with_reducible refine hN _ ?_; clear hN hX hR; clear Kv) | (with_reducible refine hX _ _ ?_; clear hN hX hR; clear Kv) | (with_reducible refine hR _ ?_; clear hN hX hR; clear Kv) | with_reducible refine body_stop (fun Kv hN hX hR => ?_) | with_reducible refine Stop.mk ?_ | with_reducible refine DrawJ.each ?_ | with_reducible exact SubJ.self _ | with_reducible refine SubJ.of ?_))); all_goals (conv => whnf); all_goals (repeat (clear hN hX hR; clear Kv))
       all_goals rfl)
    | (have h : decide ((s.size : Int) = 12) = true := by with_reducible assumption
       have h := of_decide_eq_true h
       refine Ob.mk ?_
       omega)
    | (have h : decide ((s.size : Int) = 12) = true := by with_reducible assumption
       have h := of_decide_eq_true h
       refine Ob.mk ?_
       rw [show s.extract (Int.toNat 5) (s.size : Int).toNat = s.extract 5 s.size from rfl, ex_size]
       omega)
    | (have h : decide ((s.size : Int) = 10) = true := by with_reducible assumption
       have h := of_decide_eq_true h
       refine Ob.mk ?_
       rw [show s.extract (Int.toNat 3) (s.size : Int).toNat = s.extract 3 s.size from rfl, ex_size]
       omega)
    | skip
  intro i hi
  rcases i with _ | i
  all_goals
    have hB := inB_drop (inB_bytesL s) 4
    have hLen : ((bytesL s).drop 4).length = s.size - 4 := by rw [List.length_drop, bytesL_len]
    have hL := bytesL_len s
    (repeat' (first | ((with_reducible refine body_intro ?_); (first | refine seq_intro (fun Kv hN hX hR => ?_) | (conv => whnf))) | with_reducible refine body_stop (fun Kv hN hX hR => ?_) | with_reducible refine Stop.mk ?_ | with_reducible refine DrawJ.each ?_ | with_reducible exact SubJ.self _ | with_reducible refine SubJ.of ?_ | with_reducible refine seq_intro (fun Kv hN hX hR => ?_) | (with_reducible refine hN _ ?_; clear hN hX hR; clear Kv) | (with_reducible refine hX _ _ ?_; clear hN hX hR; clear Kv) | (with_reducible refine hR _ ?_; clear hN hX hR; clear Kv) | ((conv => whnf); first | with_reducible rfl | with_reducible exact True.intro | with_reducible intro _ | with_reducible refine And.intro ?_ ?_ | (with_reducible refine hN _ ?_; clear hN hX hR; clear Kv) | (with_reducible refine hX _ _ ?_; clear hN hX hR; clear Kv) | (with_reducible refine hR _ ?_; clear hN hX hR; clear Kv) | with_reducible refine body_stop (fun Kv hN hX hR => ?_) | with_reducible refine Stop.mk ?_ | with_reducible refine DrawJ.each ?_ | with_reducible exact SubJ.self _ | with_reducible refine SubJ.of ?_))); all_goals (conv => whnf); all_goals (repeat (clear hN hX hR; clear Kv))
  all_goals first
    | (refine Ob.mk ⟨by omega, of_decide_eq_true (by with_reducible assumption)⟩
       done)
    | (refine Ob.mk ?_
       simp [Rw.len, Rw.bts, Rw.kd, kdBytes]
       try omega
       done)
    | (have h : decide (4 < (s.size : Int)) = false := by with_reducible assumption
       have h : ¬ 4 < (s.size : Int) := of_decide_eq_false h
       have hl : [] = (bytesL s).drop 4 := (List.eq_nil_of_length_eq_zero (by omega)).symm
       first
         | (rw [getR_bad1 (qrm0 (by with_reducible assumption) hl) (by with_reducible assumption)] <;> rfl)
         | (rw [getR_bad2 (qrm0 (by with_reducible assumption) hl) (by with_reducible assumption)] <;> rfl)
         | (rw [getR_good (qrm0 (by with_reducible assumption) hl) (by with_reducible assumption) (by with_reducible assumption) (by with_reducible assumption)] <;> rfl))
    | (have h : decide (4 + (((i + 1 : Nat) : Int)) < (s.size : Int)) = false := by with_reducible assumption
       have h : ¬ 4 + ((i + 1 : Nat) : Int) < (s.size : Int) := of_decide_eq_false h
       have hl : ((bytesL s).drop 4).take (i + 1) = (bytesL s).drop 4 := List.take_of_length_le (by omega)
       first
         | (rw [getR_bad1 (qrm0 (by with_reducible assumption) hl) (by with_reducible assumption)] <;> rfl)
         | (rw [getR_bad2 (qrm0 (by with_reducible assumption) hl) (by with_reducible assumption)] <;> rfl)
         | (rw [getR_good (qrm0 (by with_reducible assumption) hl) (by with_reducible assumption) (by with_reducible assumption) (by with_reducible assumption)] <;> rfl))
    | (have h : decide (4 < (s.size : Int)) = true := by with_reducible assumption
       have h : 4 < (s.size : Int) := of_decide_eq_true h
       refine ⟨1, by omega, by show (bytesL s).length - 1 < (bytesL s).length - 0; omega, ?_⟩
       have hs := row_step hB (k := 0) (by omega)
       rw [← rowR] at hs
       (repeat' (first | ((with_reducible refine body_intro ?_); (first | refine seq_intro (fun Kv hN hX hR => ?_) | (conv => whnf))) | with_reducible refine body_stop (fun Kv hN hX hR => ?_) | with_reducible refine Stop.mk ?_ | with_reducible refine DrawJ.each ?_ | with_reducible exact SubJ.self _ | with_reducible refine SubJ.of ?_ | with_reducible refine seq_intro (fun Kv hN hX hR => ?_) | (with_reducible refine hN _ ?_; clear hN hX hR; clear Kv) | (with_reducible refine hX _ _ ?_; clear hN hX hR; clear Kv) | (with_reducible refine hR _ ?_; clear hN hX hR; clear Kv) | ((conv => whnf); first | with_reducible rfl | with_reducible exact True.intro | with_reducible intro _ | with_reducible refine And.intro ?_ ?_ | (with_reducible refine hN _ ?_; clear hN hX hR; clear Kv) | (with_reducible refine hX _ _ ?_; clear hN hX hR; clear Kv) | (with_reducible refine hR _ ?_; clear hN hX hR; clear Kv) | with_reducible refine body_stop (fun Kv hN hX hR => ?_) | with_reducible refine Stop.mk ?_ | with_reducible refine DrawJ.each ?_ | with_reducible exact SubJ.self _ | with_reducible refine SubJ.of ?_))); all_goals (conv => whnf); all_goals (repeat (clear hN hX hR; clear Kv))
       all_goals first
         | rfl
         | exact congrArg Rw.ints hs)
    | (have h : decide (4 + (((i + 1 : Nat) : Int)) < (s.size : Int)) = true := by with_reducible assumption
       have h : 4 + ((i + 1 : Nat) : Int) < (s.size : Int) := of_decide_eq_true h
       refine ⟨i + 1 + 1, by omega, by show (bytesL s).length - (i + 1 + 1) < (bytesL s).length - (i + 1); omega, ?_⟩
       have hs := row_step hB (k := i + 1) (by omega)
       have e : (4 + ((i + 1 : Nat) : Int)).toNat = 4 + (i + 1) := by omega
       rw [← rowR, ← e] at hs
       (repeat' (first | ((with_reducible refine body_intro ?_); (first | refine seq_intro (fun Kv hN hX hR => ?_) | (conv => whnf))) | with_reducible refine body_stop (fun Kv hN hX hR => ?_) | with_reducible refine Stop.mk ?_ | with_reducible refine DrawJ.each ?_ | with_reducible exact SubJ.self _ | with_reducible refine SubJ.of ?_ | with_reducible refine seq_intro (fun Kv hN hX hR => ?_) | (with_reducible refine hN _ ?_; clear hN hX hR; clear Kv) | (with_reducible refine hX _ _ ?_; clear hN hX hR; clear Kv) | (with_reducible refine hR _ ?_; clear hN hX hR; clear Kv) | ((conv => whnf); first | with_reducible rfl | with_reducible exact True.intro | with_reducible intro _ | with_reducible refine And.intro ?_ ?_ | (with_reducible refine hN _ ?_; clear hN hX hR; clear Kv) | (with_reducible refine hX _ _ ?_; clear hN hX hR; clear Kv) | (with_reducible refine hR _ ?_; clear hN hX hR; clear Kv) | with_reducible refine body_stop (fun Kv hN hX hR => ?_) | with_reducible refine Stop.mk ?_ | with_reducible refine DrawJ.each ?_ | with_reducible exact SubJ.self _ | with_reducible refine SubJ.of ?_))); all_goals (conv => whnf); all_goals (repeat (clear hN hX hR; clear Kv))
       all_goals first
         | (rw [wrapI (by omega) (by omega)]; omega)
         | exact congrArg Rw.ints hs
         | rfl)
end Go.Proofs.Ytmgccphapkmmeaa

/- Chapter 13: the laws' functions. -/
namespace Go.Proofs.Ytmgccphapkmmeaa
open Go.RowKit

theorem aw1_may : mayB ⟨3, 1, 2, [], 5, ⟨5, ⟨258, 9⟩, 3, false⟩, true⟩ = true := by decide
theorem aw1_put : mPutS ⟨3, 1, 2, [], 5, ⟨5, ⟨258, 9⟩, 3, false⟩, true⟩ = ⟨#[3, 1, 2, 5, 1, 5, 2, 1, 9, 3, 0, 20]⟩ := by rw [mPutS_def, if_pos aw1_may]; decide
theorem aw1_err : mPutE ⟨3, 1, 2, [], 5, ⟨5, ⟨258, 9⟩, 3, false⟩, true⟩ = 0 := by rw [mPutE_def, if_pos aw1_may]
theorem aw1_get : mGet ⟨#[3, 1, 2, 5, 1, 5, 2, 1, 9, 3, 0, 20]⟩ = (⟨3, 1, 2, [], 5, ⟨5, ⟨258, 9⟩, 3, false⟩, true⟩, 0) := by rw [← aw1_put]; exact mGet_put aw1_may
theorem aw2_may : mayB ⟨0, 1, 2, [7, 3], 0, ⟨0, ⟨0, 0⟩, 0, false⟩, false⟩ = true := by decide
theorem aw2_put : mPutS ⟨0, 1, 2, [7, 3], 0, ⟨0, ⟨0, 0⟩, 0, false⟩, false⟩ = ⟨#[0, 1, 2, 2, 7, 3]⟩ := by rw [mPutS_def, if_pos aw2_may]; decide
theorem aw2_err : mPutE ⟨0, 1, 2, [7, 3], 0, ⟨0, ⟨0, 0⟩, 0, false⟩, false⟩ = 0 := by rw [mPutE_def, if_pos aw2_may]
theorem aw3_err : mPutE ⟨0, 0, 0, [], 0, ⟨0, ⟨0, 0⟩, 0, false⟩, false⟩ = 1300 := by rw [mPutE_def, if_neg (by decide)]
theorem aw4_get : mGet ⟨#[]⟩ = (msg0, 1300) := by rw [mGet_def, if_neg (by rintro ⟨h, _⟩; exact absurd h (by decide))]
set_option maxHeartbeats 1000000 in
theorem k_awake13 : Known Try.prog tau 26 (S0 (okB true)) := by
  refine known0 hmix tau_ok (ctx_cons k_Put (ctx_cons k_Get (ctx_cons k_SameMsg (ctx_cons k_Num ctx_nil)))) (fn := Try.f26) (by kernel_rfl) [] (by kernel_rfl) _ fun hfit => ⟨rfl, [], ?_⟩
  clear hfit
  (repeat' (first | ((with_reducible refine body_intro ?_); (first | refine seq_intro (fun Kv hN hX hR => ?_) | (conv => whnf))) | with_reducible refine body_stop (fun Kv hN hX hR => ?_) | with_reducible refine Stop.mk ?_ | with_reducible refine DrawJ.each ?_ | with_reducible exact SubJ.self _ | with_reducible refine SubJ.of ?_ | with_reducible refine seq_intro (fun Kv hN hX hR => ?_) | (with_reducible refine hN _ ?_; clear hN hX hR; clear Kv) | (with_reducible refine hX _ _ ?_; clear hN hX hR; clear Kv) | (with_reducible refine hR _ ?_; clear hN hX hR; clear Kv) | ((conv => whnf); first | with_reducible rfl | with_reducible exact True.intro | with_reducible intro _ | with_reducible refine And.intro ?_ ?_ | (with_reducible refine hN _ ?_; clear hN hX hR; clear Kv) | (with_reducible refine hX _ _ ?_; clear hN hX hR; clear Kv) | (with_reducible refine hR _ ?_; clear hN hX hR; clear Kv) | with_reducible refine body_stop (fun Kv hN hX hR => ?_) | with_reducible refine Stop.mk ?_ | with_reducible refine DrawJ.each ?_ | with_reducible exact SubJ.self _ | with_reducible refine SubJ.of ?_))); all_goals (conv => whnf); all_goals (repeat (clear hN hX hR; clear Kv))
  all_goals (try simp only [aw1_put, aw1_err, aw1_get, aw2_put, aw2_err, aw3_err, aw4_get] at *)
  all_goals first
    | (refine Ob.mk ?_; decide)
    | (simp_all; done)
    | rfl
/-- Unlike messages have unlike bytes. -/
theorem put_inj {a b : GMsg} (ha : mayB a = true) (hb : mayB b = true) : (mPutS a = mPutS b) ↔ a = b := by
  constructor
  · intro h
    have h1 := mGet_put ha
    have h2 := mGet_put hb
    rw [h, h2] at h1
    exact (congrArg Prod.fst h1).symm
  · rintro rfl; rfl
theorem eta_msg (m : GMsg) : (⟨m.kind, m.src, m.dst, m.ids, m.key, ⟨m.item.key, ⟨m.item.ver.count, m.item.ver.writer⟩, m.item.value, m.item.gone⟩, m.has⟩ : GMsg) = m := rfl
set_option maxHeartbeats 1000000 in
theorem k_WireUnlike : Known Try.prog tau 8 (S2 dMsg dMsg fun a b => okB true) := by
  refine known2 hmix tau_ok (ctx_cons k_Put (ctx_cons k_SameMsg (ctx_cons k_Num (ctx_cons k_awake13 ctx_nil)))) (fn := Try.f8) (by kernel_rfl) [] (by kernel_rfl) _ _ _ fun m m' hfit => ⟨rfl, [], ?_⟩
  clear hfit
  have h3 := @put_inj m m'
  have h1 : (mPutE m = 0 ∧ mayB m = true) ∨ (mPutE m = 1300 ∧ mPutS m = ⟨#[]⟩) := by
    rcases putE_cases m with h | h
    · exact .inl ⟨h.1, h.2.1⟩
    · exact .inr ⟨h.1, h.2.2⟩
  have h2 : (mPutE m' = 0 ∧ mayB m' = true) ∨ (mPutE m' = 1300 ∧ mPutS m' = ⟨#[]⟩) := by
    rcases putE_cases m' with h | h
    · exact .inl ⟨h.1, h.2.1⟩
    · exact .inr ⟨h.1, h.2.2⟩
  (repeat' (first | ((with_reducible refine body_intro ?_); (first | refine seq_intro (fun Kv hN hX hR => ?_) | (conv => whnf))) | with_reducible refine body_stop (fun Kv hN hX hR => ?_) | with_reducible refine Stop.mk ?_ | with_reducible refine DrawJ.each ?_ | with_reducible exact SubJ.self _ | with_reducible refine SubJ.of ?_ | with_reducible refine seq_intro (fun Kv hN hX hR => ?_) | (with_reducible refine hN _ ?_; clear hN hX hR; clear Kv) | (with_reducible refine hX _ _ ?_; clear hN hX hR; clear Kv) | (with_reducible refine hR _ ?_; clear hN hX hR; clear Kv) | ((conv => whnf); first | with_reducible rfl | with_reducible exact True.intro | with_reducible intro _ | with_reducible refine And.intro ?_ ?_ | (with_reducible refine hN _ ?_; clear hN hX hR; clear Kv) | (with_reducible refine hX _ _ ?_; clear hN hX hR; clear Kv) | (with_reducible refine hR _ ?_; clear hN hX hR; clear Kv) | with_reducible refine body_stop (fun Kv hN hX hR => ?_) | with_reducible refine Stop.mk ?_ | with_reducible refine DrawJ.each ?_ | with_reducible exact SubJ.self _ | with_reducible refine SubJ.of ?_))); all_goals (conv => whnf); all_goals (repeat (clear hN hX hR; clear Kv))
  all_goals (try simp only [eta_msg, str_beq] at *)
  all_goals rcases h1 with ⟨e1, a1⟩ | ⟨e1, a1⟩ <;> rcases h2 with ⟨e2, a2⟩ | ⟨e2, a2⟩ <;> simp_all
theorem put_facts {m : GMsg} (h : mPutE m = 0) : (mPutS m).size = (if m.kind = 0 then 4 + m.ids.length else if m.kind = 1 then 10 else if m.kind = 3 then (if m.has = true then 12 else 5) else 4) ∧
    IntKind.i64.wrap (byteAt (mPutS m) (Int.toNat 0)) = m.kind ∧ IntKind.i64.wrap (byteAt (mPutS m) (Int.toNat 1)) = m.src ∧ IntKind.i64.wrap (byteAt (mPutS m) (Int.toNat 2)) = m.dst ∧ m.ids.length ≤ 16 := by
  rcases putE_cases m with h1 | h1
  · obtain ⟨_, hm, hp⟩ := h1
    obtain ⟨hs, hd, hc⟩ := mayB_cases hm
    have e1 := by8_id hs.1 hs.2
    have e2 := by8_id hd.1 hd.2
    have k0 : by8 0 = 0 := by decide
    have k1 : by8 1 = 1 := by decide
    have k2 : by8 2 = 2 := by decide
    have k3 : by8 3 = 3 := by decide
    have ek : by8 m.kind = m.kind := by rcases hc with h | h | h | h | h <;> rw [h.1] <;> decide
    rw [hp, bs_size, wrap_byte, wrap_byte, wrap_byte, bytesL_bs (inB_msgBytes m)]
    refine ⟨?_, ?_, ?_, ?_, ?_⟩
    · rcases hc with h | h | h | h | h
      · simp [msgBytes, msgHead, msgRest, h.1]; omega
      · simp [msgBytes, msgHead, msgRest, h.1, itemBytes_len]
      · simp [msgBytes, msgHead, msgRest, h.1]
      · simp [msgBytes, msgHead, msgRest, h.1, h.2.2.2.2]
      · simp [msgBytes, msgHead, msgRest, h.1, h.2.2.2.2.2, itemBytes_len]
    · exact ek
    · exact e1
    · exact e2
    · rcases hc with h | h | h | h | h
      · exact h.2.2.1
      all_goals rw [h.2.1]; decide
  · rw [h1.1] at h; simp at h
theorem put_all (m : GMsg) : (mPutE m = 0 ∧ mayB m = true ∧ (mPutS m).size = (if m.kind = 0 then 4 + m.ids.length else if m.kind = 1 then 10 else if m.kind = 3 then (if m.has = true then 12 else 5) else 4) ∧
    IntKind.i64.wrap (byteAt (mPutS m) (Int.toNat 0)) = m.kind ∧ IntKind.i64.wrap (byteAt (mPutS m) (Int.toNat 1)) = m.src ∧ IntKind.i64.wrap (byteAt (mPutS m) (Int.toNat 2)) = m.dst ∧ m.ids.length ≤ 16) ∨ (mPutE m = 1300 ∧ mayB m = false ∧ mPutS m = ⟨#[]⟩) := by
  rcases putE_cases m with h | h
  · exact .inl ⟨h.1, h.2.1, put_facts h.1⟩
  · exact .inr ⟨h.1, h.2.1, h.2.2⟩
set_option maxHeartbeats 1000000 in
set_option maxRecDepth 5000 in
theorem k_WireSizes : Known Try.prog tau 9 (S1 dMsg fun a => okB true) := by
  refine known1 hmix tau_ok (ctx_cons k_Put (ctx_cons k_refMsg (ctx_cons k_Num (ctx_cons k_awake13 ctx_nil)))) (fn := Try.f9) (by kernel_rfl) [(16, [(0, 0), (1, 1), (2, 0), (3, 6), (4, 8), (5, 16), (6, 48), (7, 80), (8, 16), (9, 272), (10, 656), (11, 1040), (12, 2064), (13, 4096), (14, 12288), (15, 20480), (16, 4096), (17, 69632), (18, 167936), (19, 266240), (20, 528384), (21, 1048576), (22, 3145728), (23, 5242880), (24, 1048576), (25, 17825792), (26, 42991616), (27, 68157440), (28, 268435455)])] (by kernel_rfl) _ _ fun m hfit => ⟨rfl, [], ?_⟩
  clear hfit
  have h1 := put_all m
  (repeat' (first | ((with_reducible refine body_intro ?_); (first | refine seq_intro (fun Kv hN hX hR => ?_) | (conv => whnf))) | with_reducible refine body_stop (fun Kv hN hX hR => ?_) | with_reducible refine Stop.mk ?_ | with_reducible refine DrawJ.each ?_ | with_reducible exact SubJ.self _ | with_reducible refine SubJ.of ?_ | with_reducible refine seq_intro (fun Kv hN hX hR => ?_) | (with_reducible refine hN _ ?_; clear hN hX hR; clear Kv) | (with_reducible refine hX _ _ ?_; clear hN hX hR; clear Kv) | (with_reducible refine hR _ ?_; clear hN hX hR; clear Kv) | ((conv => whnf); first | with_reducible rfl | with_reducible exact True.intro | with_reducible intro _ | with_reducible refine And.intro ?_ ?_ | (with_reducible refine hN _ ?_; clear hN hX hR; clear Kv) | (with_reducible refine hX _ _ ?_; clear hN hX hR; clear Kv) | (with_reducible refine hR _ ?_; clear hN hX hR; clear Kv) | with_reducible refine body_stop (fun Kv hN hX hR => ?_) | with_reducible refine Stop.mk ?_ | with_reducible refine DrawJ.each ?_ | with_reducible exact SubJ.self _ | with_reducible refine SubJ.of ?_))); all_goals (conv => whnf); all_goals (repeat (clear hN hX hR; clear Kv))
  all_goals (try simp only [eta_msg, str_beq] at *)
  all_goals rcases h1 with ⟨e1, a1, g1, g2, g3, g4, g5⟩ | ⟨e1, a1, p1⟩
  all_goals (try simp only [decide_eq_true_eq, decide_eq_false_iff_not, Bool.not_eq_false', Bool.not_eq_true', Bool.not_true, Bool.false_eq_true, reduceCtorEq] at *)
  all_goals (try (exfalso; assumption))
  all_goals (try contradiction)
  all_goals (try exact a1)
  all_goals (try (exfalso; omega))
  all_goals have e4 : IntKind.i64.wrap (4 + (m.ids.length : Int)) = 4 + (m.ids.length : Int) := wrapI (by omega) (by omega)
  all_goals (try refine Ob.mk ?_)
  all_goals (try (split at g1 <;> first | omega | (split at g1 <;> first | omega | (split at g1 <;> first | omega | (split at g1 <;> first | omega | simp_all)))))
  all_goals
    have hf : m.has = false := by assumption
    rw [if_neg (by assumption), if_neg (by assumption), if_pos (by assumption), if_neg (by rw [hf]; simp)] at g1
    omega
end Go.Proofs.Ytmgccphapkmmeaa

/- Chapter 12: the laws' functions. -/
namespace Go.Proofs.Ytmgccphapkmmeaa
open Go.RowKit

theorem k_awake12 : Known Try.prog tau 20 (S0 (okB true)) := by
  refine known0 hmix tau_ok (ctx_cons k_MsgMay ctx_nil) (fn := Try.f20) (by kernel_rfl) [] (by kernel_rfl) _ fun hfit => ⟨rfl, [], ?_⟩
  (repeat' (first | ((with_reducible refine body_intro ?_); (first | refine seq_intro (fun Kv hN hX hR => ?_) | (conv => whnf))) | with_reducible refine body_stop (fun Kv hN hX hR => ?_) | with_reducible refine Stop.mk ?_ | with_reducible refine DrawJ.each ?_ | with_reducible exact SubJ.self _ | with_reducible refine SubJ.of ?_ | with_reducible refine seq_intro (fun Kv hN hX hR => ?_) | (with_reducible refine hN _ ?_; clear hN hX hR; clear Kv) | (with_reducible refine hX _ _ ?_; clear hN hX hR; clear Kv) | (with_reducible refine hR _ ?_; clear hN hX hR; clear Kv) | ((conv => whnf); first | with_reducible rfl | with_reducible exact True.intro | with_reducible intro _ | with_reducible refine And.intro ?_ ?_ | (with_reducible refine hN _ ?_; clear hN hX hR; clear Kv) | (with_reducible refine hX _ _ ?_; clear hN hX hR; clear Kv) | (with_reducible refine hR _ ?_; clear hN hX hR; clear Kv) | with_reducible refine body_stop (fun Kv hN hX hR => ?_) | with_reducible refine Stop.mk ?_ | with_reducible refine DrawJ.each ?_ | with_reducible exact SubJ.self _ | with_reducible refine SubJ.of ?_))); all_goals (conv => whnf); all_goals (repeat (clear hN hX hR; clear Kv))
  all_goals simp_all [mayB, bodyB, noneB, item0B, itemB, verB, placeB]
theorem k_Msgs : Known Try.prog tau 3 (S1 dMsg fun m => okB true) := by
  refine known1 hmix tau_ok (ctx_cons k_CopyMsg (ctx_cons k_MsgMay (ctx_cons k_refMsg (ctx_cons k_SameMsg (ctx_cons k_Num (ctx_cons k_awake12 ctx_nil)))))) (fn := Try.f3) (by kernel_rfl)
    [(2, [(0, 0), (1, 1), (2, 0), (3, 6), (4, 10), (5, 24), (6, 32), (7, 32), (8, 224), (9, 288), (10, 768), (11, 1024), (12, 3072), (13, 5120), (14, 10240), (15, 16384), (16, 49152), (17, 131071)])] (by kernel_rfl) _ _ fun m hfit => ⟨rfl, [], ?_⟩
  (repeat' (first | ((with_reducible refine body_intro ?_); (first | refine seq_intro (fun Kv hN hX hR => ?_) | (conv => whnf))) | with_reducible refine body_stop (fun Kv hN hX hR => ?_) | with_reducible refine Stop.mk ?_ | with_reducible refine DrawJ.each ?_ | with_reducible exact SubJ.self _ | with_reducible refine SubJ.of ?_ | with_reducible refine seq_intro (fun Kv hN hX hR => ?_) | (with_reducible refine hN _ ?_; clear hN hX hR; clear Kv) | (with_reducible refine hX _ _ ?_; clear hN hX hR; clear Kv) | (with_reducible refine hR _ ?_; clear hN hX hR; clear Kv) | ((conv => whnf); first | with_reducible rfl | with_reducible exact True.intro | with_reducible intro _ | with_reducible refine And.intro ?_ ?_ | (with_reducible refine hN _ ?_; clear hN hX hR; clear Kv) | (with_reducible refine hX _ _ ?_; clear hN hX hR; clear Kv) | (with_reducible refine hR _ ?_; clear hN hX hR; clear Kv) | with_reducible refine body_stop (fun Kv hN hX hR => ?_) | with_reducible refine Stop.mk ?_ | with_reducible refine DrawJ.each ?_ | with_reducible exact SubJ.self _ | with_reducible refine SubJ.of ?_))); all_goals (conv => whnf); all_goals (repeat (clear hN hX hR; clear Kv))
  all_goals simp_all
end Go.Proofs.Ytmgccphapkmmeaa

/- Chapter 12: the laws' functions, on. -/
namespace Go.Proofs.Ytmgccphapkmmeaa
open Go.RowKit

theorem mayB_eq (kind src dst : Int) (ids : List Int) (key : Int) (item : GItem) (has : Bool) : mayB ⟨kind, src, dst, ids, key, item, has⟩ = (placeB src && (placeB dst && (!decide (src = dst) && bodyB ⟨kind, 0, 0, ids, key, item, has⟩))) := rfl
theorem placeB_255 (x : Int) : placeB (bits .and .i64 x 255) = true := by
  rw [and255]
  simp [placeB]
  omega
theorem decide_swap (a b : Int) : decide (a = b) = decide (b = a) := by
  by_cases h : a = b
  · simp [h]
  · rw [decide_eq_false h, decide_eq_false (fun e => h e.symm)]
theorem mayB_turn (kind src dst : Int) (ids : List Int) (key : Int) (item : GItem) (has : Bool) : mayB ⟨kind, dst, src, ids, key, item, has⟩ = mayB ⟨kind, src, dst, ids, key, item, has⟩ := by
  rw [mayB_eq, mayB_eq, decide_swap dst src]
  cases placeB src <;> cases placeB dst <;> rfl
theorem mayB_ends (kind src dst a b : Int) (ids : List Int) (key : Int) (item : GItem) (has : Bool) (h : mayB ⟨kind, src, dst, ids, key, item, has⟩ = true) (ha : placeB a = true) (hb : placeB b = true) : mayB ⟨kind, a, b, ids, key, item, has⟩ = !decide (a = b) := by
  rw [mayB_eq] at h
  simp only [Bool.and_eq_true] at h
  rw [mayB_eq, ha, hb, h.2.2.2]
  simp
theorem k_MsgEnds : Known Try.prog tau 5 (S3 dMsg dInt dInt fun m a b => okB true) := by
  refine known3 hmix tau_ok (ctx_cons k_CopyMsg (ctx_cons k_MsgMay (ctx_cons k_Num (ctx_cons k_awake12 ctx_nil)))) (fn := Try.f5) (by kernel_rfl) [(3, [(0, 0), (1, 1), (2, 0), (3, 6), (4, 0), (5, 0), (6, 59), (7, 127)]), (9, [(0, 0), (1, 0), (2, 2), (3, 5), (4, 12), (5, 16), (6, 48), (7, 80), (8, 128), (9, 384), (10, 128), (11, 1152), (12, 128), (13, 4224), (14, 10368), (15, 17024), (16, 32912), (17, 65552), (18, 131584), (19, 262144), (20, 786432), (21, 1310720), (22, 4194303)])] (by kernel_rfl) _ _ _ _ fun m x y hfit => ⟨rfl, [], ?_⟩
  clear hfit
  obtain ⟨kind, src, dst, ids, key, ⟨ik, ⟨ic, iw⟩, iv, ig⟩, has⟩ := m
  have h1 := mayB_turn kind src dst ids key ⟨ik, ⟨ic, iw⟩, iv, ig⟩ has
  have h2 := fun h => mayB_ends kind src dst (bits .and .i64 x 255) (bits .and .i64 y 255) ids key ⟨ik, ⟨ic, iw⟩, iv, ig⟩ has h (placeB_255 x) (placeB_255 y)
  (repeat' (first | ((with_reducible refine body_intro ?_); (first | refine seq_intro (fun Kv hN hX hR => ?_) | (conv => whnf))) | with_reducible refine body_stop (fun Kv hN hX hR => ?_) | with_reducible refine Stop.mk ?_ | with_reducible refine DrawJ.each ?_ | with_reducible exact SubJ.self _ | with_reducible refine SubJ.of ?_ | with_reducible refine seq_intro (fun Kv hN hX hR => ?_) | (with_reducible refine hN _ ?_; clear hN hX hR; clear Kv) | (with_reducible refine hX _ _ ?_; clear hN hX hR; clear Kv) | (with_reducible refine hR _ ?_; clear hN hX hR; clear Kv) | ((conv => whnf); first | with_reducible rfl | with_reducible exact True.intro | with_reducible intro _ | with_reducible refine And.intro ?_ ?_ | (with_reducible refine hN _ ?_; clear hN hX hR; clear Kv) | (with_reducible refine hX _ _ ?_; clear hN hX hR; clear Kv) | (with_reducible refine hR _ ?_; clear hN hX hR; clear Kv) | with_reducible refine body_stop (fun Kv hN hX hR => ?_) | with_reducible refine Stop.mk ?_ | with_reducible refine DrawJ.each ?_ | with_reducible exact SubJ.self _ | with_reducible refine SubJ.of ?_))); all_goals (conv => whnf); all_goals (repeat (clear hN hX hR; clear Kv))
  all_goals (try dsimp only at *)
  all_goals simp_all
end Go.Proofs.Ytmgccphapkmmeaa

/- Chapter 13: the laws' functions, on. -/
namespace Go.Proofs.Ytmgccphapkmmeaa
open Go.RowKit

theorem wi_may {i : GItem} (h : itemB i = true) : mayB ⟨1, 1, 2, [], 0, i, false⟩ = true := by simp [mayB, bodyB, noneB, placeB, h, item0B]
theorem wi_err {i : GItem} (h : itemB i = true) : mPutE ⟨1, 1, 2, [], 0, i, false⟩ = 0 := by rw [mPutE_def, if_pos (wi_may h)]
theorem wi_put {i : GItem} (h : itemB i = true) : mPutS ⟨1, 1, 2, [], 0, i, false⟩ = bs (1 :: 1 :: 2 :: itemBytes i) := by
  rw [mPutS_def, if_pos (wi_may h)]
  simp [msgBytes, msgHead, msgRest, show by8 1 = 1 by decide, show by8 2 = 2 by decide]
theorem wi_in (i : GItem) : InB (1 :: 1 :: 2 :: itemBytes i) := by
  intro x hx
  simp only [List.mem_cons] at hx
  rcases hx with rfl | rfl | rfl | hx
  · decide
  · decide
  · decide
  · exact inB_itemBytes i x hx
theorem wi_at {i : GItem} (h : itemB i = true) (k : Nat) : byteAt (mPutS ⟨1, 1, 2, [], 0, i, false⟩) (k + 3) = (itemBytes i).getD k 0 := by
  rw [byteAt_bytesL, wi_put h, bytesL_bs (wi_in i)]
  rfl
theorem wi_size {i : GItem} (h : itemB i = true) : (mPutS ⟨1, 1, 2, [], 0, i, false⟩).size = 10 := by rw [wi_put h, bs_size]; rfl
theorem wi_sizeI {i : GItem} (h : itemB i = true) : ((mPutS ⟨1, 1, 2, [], 0, i, false⟩).size : Int) = 10 := by rw [wi_size h]; rfl
theorem wb {n : Int} (h : 0 ≤ n ∧ n < 256) : IntKind.i64.wrap n = n := wrapI (by omega) (by omega)
/-- What a put item's bytes are. -/
theorem wi_facts {k c w v : Int} {g : Bool} (h : itemB ⟨k, ⟨c, w⟩, v, g⟩ = true) :
    IntKind.i64.wrap (byteAt (mPutS ⟨1, 1, 2, [], 0, ⟨k, ⟨c, w⟩, v, g⟩, false⟩) (Int.toNat 3)) = k ∧
    IntKind.i64.wrap (IntKind.i64.wrap (byteAt (mPutS ⟨1, 1, 2, [], 0, ⟨k, ⟨c, w⟩, v, g⟩, false⟩) (Int.toNat 4)) + IntKind.i64.wrap (256 * IntKind.i64.wrap (byteAt (mPutS ⟨1, 1, 2, [], 0, ⟨k, ⟨c, w⟩, v, g⟩, false⟩) (Int.toNat 5)))) = c ∧
    IntKind.i64.wrap (byteAt (mPutS ⟨1, 1, 2, [], 0, ⟨k, ⟨c, w⟩, v, g⟩, false⟩) (Int.toNat 6)) = w ∧
    IntKind.i64.wrap (byteAt (mPutS ⟨1, 1, 2, [], 0, ⟨k, ⟨c, w⟩, v, g⟩, false⟩) (Int.toNat 7)) = v ∧
    byteAt (mPutS ⟨1, 1, 2, [], 0, ⟨k, ⟨c, w⟩, v, g⟩, false⟩) (Int.toNat 8) = (if g = true then 1 else 0) ∧
    IntKind.i64.wrap (byteAt (mPutS ⟨1, 1, 2, [], 0, ⟨k, ⟨c, w⟩, v, g⟩, false⟩) (Int.toNat 9)) = bits .and .i64 (sumL (b6 ⟨k, ⟨c, w⟩, v, g⟩)) 255 := by
  have h7 := item7_bytes h
  have hin := inB_itemBytes ⟨k, ⟨c, w⟩, v, g⟩
  have e := fun j => wi_at h j
  have b := fun j => getD_inB hin j
  simp only [item7, GItem.mk.injEq, GVer.mk.injEq] at h7
  obtain ⟨g0, ⟨g1, g3⟩, g4, g5⟩ := h7
  refine ⟨?_, ?_, ?_, ?_, ?_, ?_⟩
  · rw [show Int.toNat 3 = 0 + 3 from rfl, e, wb (b 0), g0]
  · rw [show Int.toNat 4 = 1 + 3 from rfl, show Int.toNat 5 = 2 + 3 from rfl, e, e, wb (b 1), wb (b 2), wrapI (n := 256 * _) (by have := b 2; omega) (by have := b 2; omega), wrapI (by have := b 1; have := b 2; omega) (by have := b 1; have := b 2; omega), g1]
  · rw [show Int.toNat 6 = 3 + 3 from rfl, e, wb (b 3), g3]
  · rw [show Int.toNat 7 = 4 + 3 from rfl, e, wb (b 4), g4]
  · rw [show Int.toNat 8 = 5 + 3 from rfl, e]
    rfl
  · rw [show Int.toNat 9 = 6 + 3 from rfl, e, wb (b 6), and255]
    show by8 (sumL (b6 ⟨k, ⟨c, w⟩, v, g⟩)) = _
    unfold by8
    rw [wu8]
theorem wi_sum {i : GItem} (h : itemB i = true) {k : Nat} (hk : k < 6) : IntKind.i64.wrap (sumL ((b6 i).take k) + IntKind.i64.wrap (byteAt (mPutS ⟨1, 1, 2, [], 0, i, false⟩) (3 + (k : Int)).toNat)) = sumL ((b6 i).take (k + 1)) := by
  have hb : InB (b6 i) := fun x hx => inB_itemBytes i x (List.mem_append.2 (.inl hx))
  have hs := sumL_take (show k < (b6 i).length from hk)
  have h1 := sumL_bd (inB_take hb k)
  have h3 : ((b6 i).take k).length = k := by rw [List.length_take]; exact Nat.min_eq_left (Nat.le_of_lt hk)
  have h2 := getD_inB hb k
  have e : (itemBytes i).getD k 0 = (b6 i).getD k 0 := by
    unfold itemBytes
    rw [List.getD_eq_getElem?_getD, List.getElem?_append_left hk, ← List.getD_eq_getElem?_getD]
  rw [show (3 + (k : Int)).toNat = k + 3 by omega, wi_at h, e, wb h2, hs, wrapI (by omega) (by omega)]
theorem cnt65535 (b : Int) : 1 ≤ IntKind.i64.wrap (1 + IntKind.i64.wrap ((IntKind.u64.wrap b).tmod 65535)) ∧ IntKind.i64.wrap (1 + IntKind.i64.wrap ((IntKind.u64.wrap b).tmod 65535)) ≤ 65535 := by
  have h := umod b 65535 (by decide) (by decide)
  rw [h.2.2, wrapI (by omega) (by omega)]
  omega
theorem wi_item (a b c d : Int) (g : Bool) : itemB ⟨bits .and .i64 a 255, ⟨IntKind.i64.wrap (1 + IntKind.i64.wrap ((IntKind.u64.wrap b).tmod 65535)), bits .and .i64 c 255⟩, if g = true then 0 else bits .and .i64 d 255, g⟩ = true := by
  have h := cnt65535 b
  have h1 := placeB_255 a
  have h2 := placeB_255 c
  have h3 := placeB_255 d
  cases g <;> simp only [itemB, verB, h1, h2, h3, h.1, h.2, Bool.false_eq_true, if_false, if_true, decide_true, Bool.and_true, Bool.not_false, Bool.not_true, Bool.true_or, Bool.or_true, Bool.true_and, Bool.false_or, Bool.false_and, Bool.and_self, show placeB 0 = true from rfl]
set_option maxHeartbeats 1000000 in
theorem k_WireItem : Known Try.prog tau 10 (S5 dInt dInt dInt dInt dBool fun a b c d e => okB true) := by
  refine known5 hmix tau_ok (ctx_cons k_Put (ctx_cons k_Num (ctx_cons k_awake13 ctx_nil))) (fn := Try.f10) (by kernel_rfl) [(14, [(0, 0), (1, 1), (2, 2), (3, 0), (4, 8), (5, 20), (6, 32), (7, 64), (8, 192), (9, 320), (10, 64), (11, 1088), (12, 2112), (13, 4160), (14, 8768), (15, 64), (16, 32832), (17, 65600), (18, 147520), (19, 262208), (20, 524352), (21, 1048576), (22, 3145728), (23, 5242880), (24, 1048576), (25, 17825792), (26, 34603008), (27, 76546048), (28, 135266304), (29, 269484032), (30, 536870912), (31, 1610612736), (32, 2684354560), (33, 536870912), (34, 9126805504), (35, 22011707392), (36, 34896609280), (37, 69256347648), (38, 137438953472), (39, 412316860416), (40, 687194767360), (41, 137438953472), (42, 3435973836800), (43, 4535485464576), (44, 8933531975680), (45, 17592186044416), (46, 52776558133248), (47, 87960930222080), (48, 158329674399744), (49, 299067162755072), (50, 562949953421312), (51, 1688849860263936), (52, 2814749767106560), (53, 562949953421312), (54, 9570149208162304), (55, 23080948090273792), (56, 36591746972385280), (57, 144115188075855871)])] (by kernel_rfl) _ _ _ _ _ _ fun a b c d g hfit => ⟨rfl,
    [(11, invN [14, 15, 48, 49, 50, 51, 52, 53, 54, 55, 56, 57] (fun i => i ≤ 6) (fun i => withS [(15, .int .i64 (3 + (i : Int))), (14, .int .i64 (sumL ((b6 ⟨bits .and .i64 a 255, ⟨IntKind.i64.wrap (1 + IntKind.i64.wrap ((IntKind.u64.wrap b).tmod 65535)), bits .and .i64 c 255⟩, if g = true then 0 else bits .and .i64 d 255, g⟩).take i)))]) (fun i => 6 - i))], ?_⟩
  clear hfit
  have hi := wi_item a b c d g
  cases g
  all_goals
    simp only [Bool.false_eq_true, if_false, if_true, ↓reduceIte] at hi
    have he := wi_err hi
    have hs := wi_sizeI hi
    have hf := wi_facts hi
    obtain ⟨f0, f1, f2, f3, f4, f5⟩ := hf
    (repeat' (first | ((with_reducible refine body_intro ?_); (first | refine seq_intro (fun Kv hN hX hR => ?_) | (conv => whnf))) | with_reducible refine body_stop (fun Kv hN hX hR => ?_) | with_reducible refine Stop.mk ?_ | with_reducible refine DrawJ.each ?_ | with_reducible exact SubJ.self _ | with_reducible refine SubJ.of ?_ | with_reducible refine seq_intro (fun Kv hN hX hR => ?_) | (with_reducible refine hN _ ?_; clear hN hX hR; clear Kv) | (with_reducible refine hX _ _ ?_; clear hN hX hR; clear Kv) | (with_reducible refine hR _ ?_; clear hN hX hR; clear Kv) | ((conv => whnf); first | with_reducible rfl | with_reducible exact True.intro | with_reducible refine (fun (_ : (_ : Prop)) => ?_) | with_reducible refine And.intro ?_ ?_ | (with_reducible refine hN _ ?_; clear hN hX hR; clear Kv) | (with_reducible refine hX _ _ ?_; clear hN hX hR; clear Kv) | (with_reducible refine hR _ ?_; clear hN hX hR; clear Kv) | with_reducible refine body_stop (fun Kv hN hX hR => ?_) | with_reducible refine Stop.mk ?_ | with_reducible refine DrawJ.each ?_ | with_reducible exact SubJ.self _ | with_reducible refine SubJ.of ?_))); all_goals (conv => whnf); all_goals (repeat (clear hN hX hR; clear Kv))
  all_goals first
    | (refine Ob.mk ?_
       decide)
    | (refine ⟨0, by omega, ?_⟩
       (repeat' (first | ((with_reducible refine body_intro ?_); (first | refine seq_intro (fun Kv hN hX hR => ?_) | (conv => whnf))) | with_reducible refine body_stop (fun Kv hN hX hR => ?_) | with_reducible refine Stop.mk ?_ | with_reducible refine DrawJ.each ?_ | with_reducible exact SubJ.self _ | with_reducible refine SubJ.of ?_ | with_reducible refine seq_intro (fun Kv hN hX hR => ?_) | (with_reducible refine hN _ ?_; clear hN hX hR; clear Kv) | (with_reducible refine hX _ _ ?_; clear hN hX hR; clear Kv) | (with_reducible refine hR _ ?_; clear hN hX hR; clear Kv) | ((conv => whnf); first | with_reducible rfl | with_reducible exact True.intro | with_reducible intro _ | with_reducible refine And.intro ?_ ?_ | (with_reducible refine hN _ ?_; clear hN hX hR; clear Kv) | (with_reducible refine hX _ _ ?_; clear hN hX hR; clear Kv) | (with_reducible refine hR _ ?_; clear hN hX hR; clear Kv) | with_reducible refine body_stop (fun Kv hN hX hR => ?_) | with_reducible refine Stop.mk ?_ | with_reducible refine DrawJ.each ?_ | with_reducible exact SubJ.self _ | with_reducible refine SubJ.of ?_))); all_goals (conv => whnf); all_goals (repeat (clear hN hX hR; clear Kv))
       all_goals rfl)
    | (simp only [Bool.not_true, Bool.not_false, Bool.false_eq_true, reduceCtorEq, he, hs, decide_true, decide_false, ↓reduceIte] at *
       done)
    | (intro k hk
       (repeat' (first | ((with_reducible refine body_intro ?_); (first | refine seq_intro (fun Kv hN hX hR => ?_) | (conv => whnf))) | with_reducible refine body_stop (fun Kv hN hX hR => ?_) | with_reducible refine Stop.mk ?_ | with_reducible refine DrawJ.each ?_ | with_reducible exact SubJ.self _ | with_reducible refine SubJ.of ?_ | with_reducible refine seq_intro (fun Kv hN hX hR => ?_) | (with_reducible refine hN _ ?_; clear hN hX hR; clear Kv) | (with_reducible refine hX _ _ ?_; clear hN hX hR; clear Kv) | (with_reducible refine hR _ ?_; clear hN hX hR; clear Kv) | ((conv => whnf); first | with_reducible rfl | with_reducible exact True.intro | with_reducible intro _ | with_reducible refine And.intro ?_ ?_ | (with_reducible refine hN _ ?_; clear hN hX hR; clear Kv) | (with_reducible refine hX _ _ ?_; clear hN hX hR; clear Kv) | (with_reducible refine hR _ ?_; clear hN hX hR; clear Kv) | with_reducible refine body_stop (fun Kv hN hX hR => ?_) | with_reducible refine Stop.mk ?_ | with_reducible refine DrawJ.each ?_ | with_reducible exact SubJ.self _ | with_reducible refine SubJ.of ?_))); all_goals (conv => whnf); all_goals (repeat (clear hN hX hR; clear Kv)))
  all_goals first
    | (refine Ob.mk ?_
       first
         | (have h : decide (3 + (k : Int) < 9) = true := by with_reducible assumption
            have h := of_decide_eq_true h
            rw [hs]
            omega)
         | (rw [hs]
            decide))
    | (have h : decide (3 + (k : Int) < 9) = true := by with_reducible assumption
       have h := of_decide_eq_true h
       refine ⟨k + 1, by omega, by show 6 - (k + 1) < 6 - k; omega, ?_⟩
       have h6 : k < 6 := by omega
       (repeat' (first | ((with_reducible refine body_intro ?_); (first | refine seq_intro (fun Kv hN hX hR => ?_) | (conv => whnf))) | with_reducible refine body_stop (fun Kv hN hX hR => ?_) | with_reducible refine Stop.mk ?_ | with_reducible refine DrawJ.each ?_ | with_reducible exact SubJ.self _ | with_reducible refine SubJ.of ?_ | with_reducible refine seq_intro (fun Kv hN hX hR => ?_) | (with_reducible refine hN _ ?_; clear hN hX hR; clear Kv) | (with_reducible refine hX _ _ ?_; clear hN hX hR; clear Kv) | (with_reducible refine hR _ ?_; clear hN hX hR; clear Kv) | ((conv => whnf); first | with_reducible rfl | with_reducible exact True.intro | with_reducible intro _ | with_reducible refine And.intro ?_ ?_ | (with_reducible refine hN _ ?_; clear hN hX hR; clear Kv) | (with_reducible refine hX _ _ ?_; clear hN hX hR; clear Kv) | (with_reducible refine hR _ ?_; clear hN hX hR; clear Kv) | with_reducible refine body_stop (fun Kv hN hX hR => ?_) | with_reducible refine Stop.mk ?_ | with_reducible refine DrawJ.each ?_ | with_reducible exact SubJ.self _ | with_reducible refine SubJ.of ?_))); all_goals (conv => whnf); all_goals (repeat (clear hN hX hR; clear Kv))
       all_goals first
         | exact wi_sum hi h6
         | (rw [wrapI (by omega) (by omega)]
            omega)
         | rfl)
    | (have h : decide (3 + (k : Int) < 9) = false := by with_reducible assumption
       have h := of_decide_eq_false h
       have hk6 : k = 6 := by omega
       subst hk6
       first
         | exact decide_eq_true f5
         | (simp only [f0, f1, f2, f3, f4, f5, Bool.not_true, Bool.not_false, Bool.false_eq_true, Bool.true_eq_false, beq_self_eq_true, Int.reduceLE, show decide ((0 : Int) = 1) = false from rfl, reduceCtorEq, decide_true, decide_false, ↓reduceIte] at *
            done))
end Go.Proofs.Ytmgccphapkmmeaa

/- Chapter 13: WireForms. -/
namespace Go.Proofs.Ytmgccphapkmmeaa
open Go.RowKit

/-- Is it no message's row of bytes? -/
def badB (l : List Int) : Bool := !(decide (3 < l.length) && (mayB (parse l) && decide (msgBytes (parse l) = l)))
theorem get_badB {l : List Int} (hi : InB l) (h : badB l = true) : mGet (bs l) = (msg0, 1300) := by
  rw [mGet_def, bytesL_bs hi, bs_size]
  rw [if_neg]
  rintro ⟨h1, h2, h3⟩
  simp [badB, h1, h2, h3] at h
theorem extract_bs (l : List Int) (a b : Nat) : (bs l).extract a b = bs ((l.take b).drop a) := by
  apply ba_ext
  have key : ∀ (l : List Int) (n : Nat), bytesOf (l.take n) = (bytesOf l).take n := by
    intro l
    induction l with
    | nil => intro n; simp [bytesOf]
    | cons x l ih => intro n; cases n <;> simp [bytesOf, ih]
  have key2 : ∀ (l : List Int) (n : Nat), bytesOf (l.drop n) = (bytesOf l).drop n := by
    intro l
    induction l with
    | nil => intro n; simp [bytesOf]
    | cons x l ih => intro n; cases n <;> simp [bytesOf, ih]
  simp only [bs, key, key2, ByteArray.data_extract]
  apply Array.toList_inj.1
  simp [Array.toList_extract, List.extract_eq_take_drop, List.drop_take]
def L13 : List Int := [1, 1, 2, 5, 1, 0, 2, 3, 0, 11]
def forms13 : List ByteArray := [⟨#[]⟩, ⟨#[0, 1, 2]⟩, ⟨#[4, 1, 2, 5]⟩, ⟨#[0, 1, 1, 0]⟩, ⟨#[0, 1, 2, 1]⟩, ⟨#[0, 1, 2, 1, 5, 5]⟩, ⟨#[1, 1, 2, 5]⟩, ⟨#[1, 1, 2, 5, 1, 0, 2, 3, 0, 12]⟩, ⟨#[1, 1, 2, 5, 1, 0, 2, 3, 1, 12]⟩, ⟨#[1, 1, 2, 5, 0, 0, 2, 3, 0, 10]⟩, ⟨#[2, 1, 2, 5, 0]⟩, ⟨#[3, 1, 2, 5]⟩, ⟨#[3, 1, 2, 5, 1]⟩, ⟨#[3, 1, 2, 5, 2]⟩, ⟨#[3, 1, 2, 5, 0, 0]⟩, ⟨#[3, 1, 2, 6, 1, 5, 1, 0, 2, 3, 0, 11]⟩]
theorem forms13_bad : ∀ n, n < 16 → (∀ x ∈ bytesL (forms13.getD n ByteArray.empty), 0 ≤ x ∧ x < 256) ∧ badB (bytesL (forms13.getD n ByteArray.empty)) = true ∧ (forms13.getD n ByteArray.empty).size ≤ 12 := by decide +kernel
theorem forms13_get (a : Int) : mGet (forms13.getD (bits .and .i64 a 15).toNat ByteArray.empty) = (msg0, 1300) ∧ (forms13.getD (bits .and .i64 a 15).toNat ByteArray.empty).size ≤ 12 ∧ 0 ≤ bits .and .i64 a 15 ∧ bits .and .i64 a 15 < 16 := by
  rw [and15]
  have h := forms13_bad (a % 16).toNat (by omega)
  refine ⟨?_, h.2.2, by omega, by omega⟩
  rw [← bs_bytesL (forms13.getD (a % 16).toNat ByteArray.empty)]
  exact get_badB h.1 h.2.1
def chg13 (k d : Nat) : List Int := (L13.take (3 + k) ++ [bits .xor .u8 (L13.getD (3 + k) 0) d]) ++ L13.drop (4 + k)
theorem chg13_bad : ∀ k, k < 7 → ∀ d, d < 128 → (∀ x ∈ chg13 k (d + 1), 0 ≤ x ∧ x < 256) ∧ badB (chg13 k (d + 1)) = true ∧ (chg13 k (d + 1)).length = 10 := by decide +kernel
theorem w13_item : itemB ⟨5, ⟨1, 2⟩, 3, false⟩ = true := by decide
theorem w13_put : mPutS ⟨1, 1, 2, [], 0, ⟨5, ⟨1, 2⟩, 3, false⟩, false⟩ = bs L13 := by rw [wi_put w13_item]; rfl
theorem w13_err : mPutE ⟨1, 1, 2, [], 0, ⟨5, ⟨1, 2⟩, 3, false⟩, false⟩ = 0 := wi_err w13_item
theorem w13_x : mGet (bs L13 ++ ⟨#[120]⟩) = (msg0, 1300) := by
  have : bs L13 ++ ⟨#[120]⟩ = bs (L13 ++ [120]) := (bs_app L13 [120])
  rw [this]
  exact get_badB (show ∀ x ∈ L13 ++ [120], 0 ≤ x ∧ x < 256 by decide) (by decide +kernel)
theorem w13_ask (b : Int) : mPutE ⟨2, 1, 2, [], IntKind.i64.wrap (255 + IntKind.i64.wrap (1 + bits .and .i64 b 127)), ⟨0, ⟨0, 0⟩, 0, false⟩, false⟩ = 1300 := by
  rw [mPutE_def, if_neg]
  rw [and127, wrapI (n := 1 + _) (by omega) (by omega), wrapI (by omega) (by omega)]
  simp [mayB, bodyB, placeB]
  omega
theorem w13_k (a : Int) : ∃ k, k < 7 ∧ IntKind.i64.wrap (3 + IntKind.i64.wrap ((IntKind.u64.wrap a).tmod 7)) = ((3 + k : Nat) : Int) := by
  have h := umod a 7 (by decide) (by decide)
  refine ⟨((IntKind.u64.wrap a).tmod 7).toNat, by omega, ?_⟩
  rw [h.2.2, wrapI (by omega) (by omega)]
  omega
theorem w13_d (b : Int) : ∃ d, d < 128 ∧ IntKind.u8.wrap (IntKind.i64.wrap (1 + bits .and .i64 b 127)) = ((d + 1 : Nat) : Int) := by
  refine ⟨(b % 128).toNat, by omega, ?_⟩
  rw [and127, wrapI (by omega) (by omega), wu8]
  omega
theorem L13_at (k : Nat) (hk : k < 7) : byteAt (bs L13) (3 + k) = L13.getD (3 + k) 0 := by
  rw [byteAt_bytesL, bytesL_bs (show ∀ x ∈ L13, 0 ≤ x ∧ x < 256 by decide)]
set_option maxHeartbeats 4000000 in
set_option maxRecDepth 20000 in
theorem k_WireForms : Known Try.prog tau 7 (S2 dInt dInt fun a b => okB true) := by
  refine known2 hmix tau_ok (ctx_cons k_Put (ctx_cons k_Get (ctx_cons k_Num (ctx_cons k_awake13 ctx_nil)))) (fn := Try.f7) (by kernel_rfl) [(10, [(0, 0), (1, 0), (2, 3), (3, 0), (4, 0), (5, 24), (6, 0), (7, 64), (8, 160), (9, 256), (10, 512), (11, 1028), (12, 0), (13, 0), (14, 8192), (15, 20480), (16, 34816), (17, 65536), (18, 131072), (19, 262144), (20, 262144), (21, 0), (22, 3145727), (23, 8388607)])] (by kernel_rfl) _ _ _ fun a b hfit => ⟨rfl, [], ?_⟩
  clear hfit
  have hf := forms13_get a
  obtain ⟨k, hk, ek⟩ := w13_k a
  obtain ⟨d, hd, ed⟩ := w13_d b
  have hc := chg13_bad k hk d hd
  have hg := get_badB hc.1 hc.2.1
  have ea := L13_at k hk
  have e1 : ((3 + k : Nat) : Int).toNat = 3 + k := by omega
  have e2 : IntKind.i64.wrap (((3 + k : Nat) : Int) + 1) = ((4 + k : Nat) : Int) := by rw [wrapI (by omega) (by omega)]; omega
  have e3 : ((4 + k : Nat) : Int).toNat = 4 + k := by omega
  have es : (bs L13).size = 10 := rfl
  have e5 : (bs L13).extract (Int.toNat 0) (3 + k) ++ ⟨(bytesOf [bits .xor .u8 (L13.getD (3 + k) 0) ((d + 1 : Nat) : Int)]).toArray⟩ ++ (bs L13).extract (4 + k) ((bs L13).size : Int).toNat = bs (chg13 k (d + 1)) := by
    show (bs L13).extract 0 (3 + k) ++ bs [bits .xor .u8 (L13.getD (3 + k) 0) ((d + 1 : Nat) : Int)] ++ (bs L13).extract (4 + k) 10 = bs (chg13 k (d + 1))
    rw [extract_bs, extract_bs, bs_app, bs_app]
    congr 1
  have s0 : ((bs L13).extract (Int.toNat 0) (3 + k)).size = 3 + k := by
    show ((bs L13).extract 0 (3 + k)).size = 3 + k
    rw [extract_bs, bs_size, List.drop_zero, List.length_take]
    exact Nat.min_eq_left (by show 3 + k ≤ 10; omega)
  have s1 : ((bs L13).extract (Int.toNat 0) (3 + k)).size + (⟨(bytesOf [bits .xor .u8 (L13.getD (3 + k) 0) ((d + 1 : Nat) : Int)]).toArray⟩ : ByteArray).size = 4 + k := by
    rw [s0]
    show 3 + k + 1 = 4 + k
    omega
  have s2 : ((bs L13).extract (Int.toNat 0) (3 + k) ++ ⟨(bytesOf [bits .xor .u8 (L13.getD (3 + k) 0) ((d + 1 : Nat) : Int)]).toArray⟩).size + ((bs L13).extract (4 + k) ((bs L13).size : Int).toNat).size = 10 := by
    rw [← ByteArray.size_append, e5, bs_size, hc.2.2]
  have s3 : (bs (chg13 k (d + 1))).size = 10 := by rw [bs_size, hc.2.2]
  have s4 : (bs L13 ++ ⟨#[120]⟩).size = 11 := rfl
  have s5 : (bs L13).size + (⟨#[120]⟩ : ByteArray).size = 11 := rfl
  simp only [forms13] at hf
  have hx := w13_x
  clear hc
  (repeat' (first | ((with_reducible refine body_intro ?_); (first | refine seq_intro (fun Kv hN hX hR => ?_) | (conv => whnf))) | with_reducible refine body_stop (fun Kv hN hX hR => ?_) | with_reducible refine Stop.mk ?_ | with_reducible refine DrawJ.each ?_ | with_reducible exact SubJ.self _ | with_reducible refine SubJ.of ?_ | with_reducible refine seq_intro (fun Kv hN hX hR => ?_) | (with_reducible refine hN _ ?_; clear hN hX hR; clear Kv) | (with_reducible refine hX _ _ ?_; clear hN hX hR; clear Kv) | (with_reducible refine hR _ ?_; clear hN hX hR; clear Kv) | ((conv => whnf); first | with_reducible rfl | with_reducible exact True.intro | with_reducible intro _ | with_reducible refine And.intro ?_ ?_ | (with_reducible refine hN _ ?_; clear hN hX hR; clear Kv) | (with_reducible refine hX _ _ ?_; clear hN hX hR; clear Kv) | (with_reducible refine hR _ ?_; clear hN hX hR; clear Kv) | with_reducible refine body_stop (fun Kv hN hX hR => ?_) | with_reducible refine Stop.mk ?_ | with_reducible refine DrawJ.each ?_ | with_reducible exact SubJ.self _ | with_reducible refine SubJ.of ?_))); all_goals (conv => whnf); all_goals (repeat (clear hN hX hR; clear Kv))
  all_goals (try simp only [w13_put, w13_err, ek, e1, e2, e3, ed, ea, e5, hf.1, hg, hx] at *)
  all_goals first
    | (refine Ob.mk ?_; exact ⟨hf.2.2.1, hf.2.2.2⟩)
    | (refine Ob.mk ?_; exact Nat.le_trans hf.2.1 (by decide))
    | (refine Ob.mk ?_; rw [es]; omega)
    | (refine Ob.mk ?_; rw [s1]; omega)
    | (refine Ob.mk ?_; rw [s2]; omega)
    | (refine Ob.mk ?_; rw [s3]; omega)
    | (refine Ob.mk ?_; rw [s4]; omega)
    | (refine Ob.mk ?_; rw [s5]; omega)
    | (refine Ob.mk ?_; decide)
    | (exact decide_eq_true (w13_ask b))
    | (exfalso; simp only [decide_true, decide_false, Bool.not_true, Bool.not_false, Bool.false_eq_true, reduceCtorEq, es, Bool.true_eq_false, show ((10 : Nat) : Int) = 10 from rfl] at *; done)
end Go.Proofs.Ytmgccphapkmmeaa
