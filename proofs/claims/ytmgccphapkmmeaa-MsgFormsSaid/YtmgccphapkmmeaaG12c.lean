/- Chapter 12: MsgForms. -/
import Derived.Test.YtmgccphapkmmeaaG12b
namespace Go.Proofs.Ytmgccphapkmmeaa
open Go.RowKit

def forms12 (d : Int) : List GMsg :=
  [⟨IntKind.i64.wrap (0 - d), 1, 2, [], 0, ⟨0, ⟨0, 0⟩, 0, false⟩, false⟩, ⟨IntKind.i64.wrap (3 + d), 1, 2, [], 0, ⟨0, ⟨0, 0⟩, 0, false⟩, false⟩,
   ⟨0, IntKind.i64.wrap (0 - d), 2, [], 0, ⟨0, ⟨0, 0⟩, 0, false⟩, false⟩, ⟨0, 1, IntKind.i64.wrap (255 + d), [], 0, ⟨0, ⟨0, 0⟩, 0, false⟩, false⟩,
   ⟨0, 7, 7, [], 0, ⟨0, ⟨0, 0⟩, 0, false⟩, false⟩, ⟨0, 1, 2, List.replicate (IntKind.i64.wrap (16 + d)).toNat 0, 0, ⟨0, ⟨0, 0⟩, 0, false⟩, false⟩,
   ⟨0, 1, 2, [IntKind.i64.wrap (0 - d)], 0, ⟨0, ⟨0, 0⟩, 0, false⟩, false⟩, ⟨0, 1, 2, [], d, ⟨0, ⟨0, 0⟩, 0, false⟩, false⟩,
   ⟨0, 1, 2, [], 0, ⟨0, ⟨0, 0⟩, 0, false⟩, true⟩, ⟨0, 1, 2, [], 0, ⟨5, ⟨1, 2⟩, 3, false⟩, false⟩,
   ⟨1, 1, 2, [], 0, ⟨0, ⟨0, 0⟩, 0, false⟩, false⟩, ⟨1, 1, 2, [], 5, ⟨5, ⟨1, 2⟩, 3, false⟩, false⟩, ⟨1, 1, 2, [3], 0, ⟨5, ⟨1, 2⟩, 3, false⟩, false⟩,
   ⟨2, 1, 2, [], IntKind.i64.wrap (255 + d), ⟨0, ⟨0, 0⟩, 0, false⟩, false⟩, ⟨2, 1, 2, [], 0, ⟨5, ⟨1, 2⟩, 3, false⟩, false⟩,
   ⟨3, 1, 2, [], 5, ⟨5, ⟨1, 2⟩, 3, false⟩, false⟩, ⟨3, 1, 2, [], 5, ⟨0, ⟨0, 0⟩, 0, false⟩, true⟩, ⟨3, 1, 2, [], IntKind.i64.wrap (0 - d), ⟨0, ⟨0, 0⟩, 0, false⟩, false⟩]
theorem forms12_bad {d : Int} (h1 : 1 ≤ d) (h2 : d ≤ 1024) : ∀ m ∈ forms12 d, mayB m = false := by
  have e1 : IntKind.i64.wrap (0 - d) = 0 - d := wrapI (by omega) (by omega)
  have e2 : IntKind.i64.wrap (3 + d) = 3 + d := wrapI (by omega) (by omega)
  have e3 : IntKind.i64.wrap (255 + d) = 255 + d := wrapI (by omega) (by omega)
  have e4 : IntKind.i64.wrap (16 + d) = 16 + d := wrapI (by omega) (by omega)
  intro m hm
  simp only [forms12, e1, e2, e3, e4, List.mem_cons, List.not_mem_nil, or_false] at hm
  rcases hm with rfl | rfl | rfl | rfl | rfl | rfl | rfl | rfl | rfl | rfl | rfl | rfl | rfl | rfl | rfl | rfl | rfl | rfl <;>
    simp [mayB, bodyB, noneB, item0B, itemB, verB, placeB] <;> omega
theorem forms12_at {d : Int} (h1 : 1 ≤ d) (h2 : d ≤ 1024) {k : Nat} (hk : k < 18) : mayB ((forms12 d).getD k default) = false :=
  forms12_bad h1 h2 _ (getD_mem (by simpa [forms12] using hk))
theorem d1023 (y : Int) : 1 ≤ IntKind.i64.wrap (1 + bits .and .i64 y 1023) ∧ IntKind.i64.wrap (1 + bits .and .i64 y 1023) ≤ 1024 := by
  rw [and1023, wi64]
  omega
set_option maxRecDepth 20000 in
set_option maxHeartbeats 4000000 in
theorem k_MsgForms : Known Try.prog tau 4 (S2 dInt dInt fun a b => okB true) := by
  refine known2 hmix tau_ok (ctx_cons k_MsgMay (ctx_cons k_Num (ctx_cons k_awake12 ctx_nil))) (fn := Try.f4) (by kernel_rfl) [(5, [(0, 0), (1, 1), (2, 2), (3, 0), (4, 8), (5, 16), (6, 0), (7, 64), (8, 128), (9, 0), (10, 512), (11, 1024), (12, 0), (13, 0), (14, 8192), (15, 16384), (16, 32768), (17, 0), (18, 131072), (19, 262144), (20, 524288), (21, 0), (22, 2097152), (23, 0), (24, 0), (25, 16777216), (26, 0), (27, 0), (28, 134217728), (29, 0), (30, 0), (31, 1610612736), (32, 0), (33, 4294967296), (34, 8589934592), (35, 0), (36, 34359738368), (37, 0), (38, 137438953472), (39, 0), (40, 0), (41, 1099511627776), (42, 2199023255552), (43, 5311109863716), (44, 17592186044415)])] (by kernel_rfl) _ _ _ fun x y hfit => ⟨rfl, [], ?_⟩
  clear hfit
  have hd := d1023 y
  have hx := umod x 18 (by decide) (by decide)
  (repeat' ((conv => whnf); first | with_reducible rfl | with_reducible exact True.intro | with_reducible intro _ | with_reducible refine And.intro ?_ ?_)); all_goals (conv => whnf)
  all_goals rename_i h
  all_goals first
    | rfl
    | exact Ob.mk (by decide)
    | exact Ob.mk ⟨by rw [hx.2.2]; exact hx.1, by rw [hx.2.2]; exact hx.2.1⟩
    | (refine Ob.mk ?_
       have e4 : IntKind.i64.wrap (16 + IntKind.i64.wrap (1 + bits .and .i64 y 1023)) = 16 + IntKind.i64.wrap (1 + bits .and .i64 y 1023) := wrapI (by omega) (by omega)
       rw [e4]
       simp only [kdBytes]
       omega)
    | (exfalso
       have hb : (!mayB ((forms12 (IntKind.i64.wrap (1 + bits .and .i64 y 1023))).getD (IntKind.i64.wrap ((IntKind.u64.wrap x).tmod 18)).toNat default)) = false := h
       rw [forms12_at hd.1 hd.2 (by rw [hx.2.2]; omega)] at hb
       simp at hb)
    | simp at h
end Go.Proofs.Ytmgccphapkmmeaa
