/- The type table of the program, for the executor: written by wip/gen.py. -/
import Derived.Test.YtmgccphapkmmeaaVDec
import Derived.Test.YtmgccphapkmmeaaProg
import Derived.Tactics
import Derived.Tactics2
import Derived.StillTactics
import Derived.Laws.Pointers
import Derived.Laws.Small
import Derived.Laws.StructEq
import Derived.Laws.Tables
import Derived.Laws.Cover2
import Derived.KernelRfl
namespace Go.Proofs.Ytmgccphapkmmeaa
open Go.RowKit

def tauI : Tr TI := .node 25 (.node 12 (.node 4 (.node 3 (.leaf 2 (⟨.int .i64, 1, 8, [.int .i64 0]⟩)) (.leaf 3 (⟨.int .i64, 1, 8, [.int .i64 0]⟩))) (.node 5 (.leaf 4 (⟨.bool, 1, 1, [.bool false]⟩)) (.node 9 (.leaf 5 (⟨.int .u8, 1, 1, [.int .u8 0]⟩)) (.leaf 9 (⟨.str, 1, 16, [.str ByteArray.empty]⟩))))) (.node 22 (.node 21 (.leaf 12 (⟨.int .u64, 1, 8, [.int .u64 0]⟩)) (.leaf 21 (⟨.int .i32, 1, 4, [.int .i32 0]⟩))) (.node 23 (.leaf 22 (⟨.slice 3, 1, 24, [.nilS (mkEmpty 0)]⟩)) (.node 24 (.leaf 23 (⟨.struct [(0, 3), (1, 3)], 2, 16, [.int .i64 0, .int .i64 0]⟩)) (.leaf 24 (⟨.struct [(0, 3), (1, 3)], 2, 16, [.int .i64 0, .int .i64 0]⟩)))))) (.node 35 (.node 27 (.node 26 (.leaf 25 (⟨.struct [(0, 3), (1, 24), (3, 3), (4, 4)], 5, 40, [.int .i64 0, .int .i64 0, .int .i64 0, .int .i64 0, .bool false]⟩)) (.leaf 26 (⟨.struct [(0, 3), (1, 24), (3, 3), (4, 4)], 5, 40, [.int .i64 0, .int .i64 0, .int .i64 0, .int .i64 0, .bool false]⟩))) (.node 28 (.leaf 27 (⟨.struct [(0, 3), (1, 3), (2, 3), (3, 22), (4, 3), (5, 26), (10, 4)], 11, 104, [.int .i64 0, .int .i64 0, .int .i64 0, .nilS (mkEmpty 0), .int .i64 0, .int .i64 0, .int .i64 0, .int .i64 0, .int .i64 0, .bool false, .bool false]⟩)) (.node 33 (.leaf 28 (⟨.struct [(0, 3), (1, 3), (2, 3), (3, 22), (4, 3), (5, 26), (10, 4)], 11, 104, [.int .i64 0, .int .i64 0, .int .i64 0, .nilS (mkEmpty 0), .int .i64 0, .int .i64 0, .int .i64 0, .int .i64 0, .int .i64 0, .bool false, .bool false]⟩)) (.leaf 33 (⟨.int .i64, 1, 8, [.int .i64 0]⟩))))) (.node 50 (.node 36 (.leaf 35 (⟨.slice 28, 1, 24, [.nilS (mkEmpty 7)]⟩)) (.node 49 (.leaf 36 (⟨.int .u64, 1, 8, [.int .u64 0]⟩)) (.leaf 49 (⟨.slice 9, 1, 24, [.nilS (mkEmpty 2)]⟩)))) (.node 66 (.leaf 50 (⟨.slice 5, 1, 24, [.nilS (mkEmpty 1)]⟩)) (.node 93 (.leaf 66 (⟨.arr 12 4, 12, 12, flatZeros [.bool false] 12⟩)) (.leaf 93 (⟨.int .u32, 1, 4, [.int .u32 0]⟩))))))
def tauK : Tr Nat := .node 9 (.node 5 (.leaf 3 (0)) (.leaf 5 (1))) (.node 26 (.leaf 9 (2)) (.node 28 (.leaf 26 (4)) (.leaf 28 (7))))
def tauE : Tr Nat := .node 2 (.node 1 (.leaf 0 (3)) (.leaf 1 (5))) (.node 4 (.leaf 2 (9)) (.node 7 (.leaf 4 (26)) (.leaf 7 (28))))
def tauS : Tr (List Nat) := .node 26 (.leaf 24 ([0, 0])) (.leaf 26 ([0, 0, 0, 0, 1]))
def tau : Tys := mkTys tauI tauK tauE tauS
theorem eqv24 (n : Nat) (x0 y0 : Int) (x1 y1 : Int) (w : World) : (Op.equalIn (n + 2) 24 (.agg #[.int .i64 x0, .int .i64 x1]) (.agg #[.int .i64 y0, .int .i64 y1])).run Try.prog w = .ok (decide (x0 = y0) && (decide (x1 = y1))) w := by
  have u3 := Try.underlying3; have a3 := Try.isAgg3; have z3 := Try.sizeOf3
  have hS : Try.prog.underlying 24 = some (.struct (Try.prog.fieldsOf 24)) := by kernel_rfl
  have hp : Try.prog.stoodInHeld 24 = false := by kernel_rfl
  rw [run_equalIn_agg w (n + 1) 24 _ _ hS hp]
  simp only [Program.fieldsOf, Try.underlying24]
  go_simp
  by_cases h0 : x0 = y0 <;> by_cases h1 : x1 = y1 <;> simp [h0, h1]
theorem eqk24 : EqOk Try.prog 24 [0, 0] := by
  intro E R w a b us vs e g0 ha0 hb0
  obtain ⟨x0, y0, a0, b0, e0, rfl, rfl, g1, rfl⟩ := eqCells_int g0
  obtain ⟨_, us0, rfl, rfl, ha1⟩ := ha0.inv_cons
  obtain ⟨_, vs0, rfl, rfl, hb1⟩ := hb0.inv_cons
  obtain ⟨x1, y1, a1, b1, e1, rfl, rfl, g2, rfl⟩ := eqCells_int g1
  obtain ⟨_, us1, rfl, rfl, ha2⟩ := ha1.inv_cons
  obtain ⟨_, vs1, rfl, rfl, hb2⟩ := hb1.inv_cons
  obtain ⟨rfl, rfl, rfl⟩ := eqCells_nil g2
  obtain rfl := ha2.inv_nil
  obtain rfl := hb2.inv_nil
  refine ⟨fun op x y => run_eqGuard_agg w op 24 x y _ _ (by kernel_rfl), ?_⟩
  have := eqv24 9998 x0 y0 x1 y1 w
  simpa [Op.equal, Op.maxDepth] using this
theorem eqv26 (n : Nat) (x0 y0 : Int) (x1 y1 : Int) (x2 y2 : Int) (x3 y3 : Int) (x4 y4 : Bool) (w : World) : (Op.equalIn (n + 3) 26 (.agg #[.int .i64 x0, .int .i64 x1, .int .i64 x2, .int .i64 x3, .bool x4]) (.agg #[.int .i64 y0, .int .i64 y1, .int .i64 y2, .int .i64 y3, .bool y4])).run Try.prog w = .ok (decide (x0 = y0) && (decide (x1 = y1) && (decide (x2 = y2) && (decide (x3 = y3) && ((x4 == y4)))))) w := by
  have u3 := Try.underlying3; have a3 := Try.isAgg3; have z3 := Try.sizeOf3
  have u4 := Try.underlying4; have a4 := Try.isAgg4; have z4 := Try.sizeOf4
  have u24 := Try.underlying24; have a24 := Try.isAgg24; have z24 := Try.sizeOf24
  have q24 : ∀ (x0 y0 : Int) (x1 y1 : Int) (w : World), (Op.equalIn (n + 2) 24 (.agg #[.int .i64 x0, .int .i64 x1]) (.agg #[.int .i64 y0, .int .i64 y1])).run Try.prog w = .ok (decide (x0 = y0) && (decide (x1 = y1))) w := eqv24 n
  have hS : Try.prog.underlying 26 = some (.struct (Try.prog.fieldsOf 26)) := by kernel_rfl
  have hp : Try.prog.stoodInHeld 26 = false := by kernel_rfl
  rw [run_equalIn_agg w (n + 2) 26 _ _ hS hp]
  simp only [Program.fieldsOf, Try.underlying26]
  go_simp
  by_cases h0 : x0 = y0 <;> by_cases h1 : x1 = y1 <;> by_cases h2 : x2 = y2 <;> by_cases h3 : x3 = y3 <;> by_cases h4 : x4 = y4 <;> simp [h0, h1, h2, h3, h4]
theorem eqk26 : EqOk Try.prog 26 [0, 0, 0, 0, 1] := by
  intro E R w a b us vs e g0 ha0 hb0
  obtain ⟨x0, y0, a0, b0, e0, rfl, rfl, g1, rfl⟩ := eqCells_int g0
  obtain ⟨_, us0, rfl, rfl, ha1⟩ := ha0.inv_cons
  obtain ⟨_, vs0, rfl, rfl, hb1⟩ := hb0.inv_cons
  obtain ⟨x1, y1, a1, b1, e1, rfl, rfl, g2, rfl⟩ := eqCells_int g1
  obtain ⟨_, us1, rfl, rfl, ha2⟩ := ha1.inv_cons
  obtain ⟨_, vs1, rfl, rfl, hb2⟩ := hb1.inv_cons
  obtain ⟨x2, y2, a2, b2, e2, rfl, rfl, g3, rfl⟩ := eqCells_int g2
  obtain ⟨_, us2, rfl, rfl, ha3⟩ := ha2.inv_cons
  obtain ⟨_, vs2, rfl, rfl, hb3⟩ := hb2.inv_cons
  obtain ⟨x3, y3, a3, b3, e3, rfl, rfl, g4, rfl⟩ := eqCells_int g3
  obtain ⟨_, us3, rfl, rfl, ha4⟩ := ha3.inv_cons
  obtain ⟨_, vs3, rfl, rfl, hb4⟩ := hb3.inv_cons
  obtain ⟨sx4, sy4, x4, y4, a4, b4, e4, rfl, rfl, hx4, hy4, g5, rfl⟩ := eqCells_bool g4
  obtain ⟨_, us4, rfl, hu4, ha5⟩ := ha4.inv_cons
  obtain ⟨_, vs4, rfl, hv4, hb5⟩ := hb4.inv_cons
  obtain rfl := asBool_vd hx4 (vd_of_vd1 hu4)
  obtain rfl := asBool_vd hy4 (vd_of_vd1 hv4)
  obtain ⟨rfl, rfl, rfl⟩ := eqCells_nil g5
  obtain rfl := ha5.inv_nil
  obtain rfl := hb5.inv_nil
  refine ⟨fun op x y => run_eqGuard_agg w op 26 x y _ _ (by kernel_rfl), ?_⟩
  have := eqv26 9997 x0 y0 x1 y1 x2 y2 x3 y3 x4 y4 w
  simpa [Op.equal, Op.maxDepth] using this
theorem tauS_ok : ∀ T sh, tauS.get T = some sh → EqOk Try.prog T sh := by
  intro T sh h
  have hk : tauS.all (fun T sh => (Nat.beq T 24 && sh == [0, 0]) || (Nat.beq T 26 && sh == [0, 0, 0, 0, 1])) = true := by decide
  have := Tr.get_all hk T sh h
  simp only [Bool.or_eq_true, Bool.and_eq_true, beq_iff_eq] at this
  rcases this with h | h
  · obtain ⟨g, rfl⟩ := h; obtain rfl := Nat.eq_of_beq_eq_true g; exact eqk24
  · obtain ⟨g, rfl⟩ := h; obtain rfl := Nat.eq_of_beq_eq_true g; exact eqk26
theorem tau_ok : TysOk Try.prog tau := tys_ok (by kernel_rfl) (by kernel_rfl) tauS_ok
end Go.Proofs.Ytmgccphapkmmeaa
