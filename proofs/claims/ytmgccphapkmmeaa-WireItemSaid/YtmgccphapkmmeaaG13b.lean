/- Chapter 13: the laws' functions, on. -/
import Derived.Test.YtmgccphapkmmeaaG13a
import Derived.Test.YtmgccphapkmmeaaG12b
namespace Go.Proofs.Ytmgccphapkmmeaa
open Go.RowKit

theorem wi_may {i : GItem} (h : itemB i = true) : mayB ⟨1, 1, 2, [], 0, i, false⟩ = true := by simp [mayB, bodyB, noneB, placeB, h, item0B]
theorem wi_err {i : GItem} (h : itemB i = true) : mPutE ⟨1, 1, 2, [], 0, i, false⟩ = 0 := by rw [mPutE_def, if_pos (wi_may h)]
theorem wi_put {i : GItem} (h : itemB i = true) : mPutS ⟨1, 1, 2, [], 0, i, false⟩ = bs (1 :: 1 :: 2 :: itemBytes i) := by
  rw [mPutS_def, if_pos (wi_may h)]
  simp [msgBytes, msgHead, msgRest, show by8 1 = 1 by decide, show by8 2 = 2 by decide]
theorem wi_in (i : GItem) : InB (1 :: 1 :: 2 :: itemBytes i) := by
  intro x hx
  simp only [List.mem_cons] at hx
  rcases hx with rfl | rfl | rfl | hx
  · decide
  · decide
  · decide
  · exact inB_itemBytes i x hx
theorem wi_at {i : GItem} (h : itemB i = true) (k : Nat) : byteAt (mPutS ⟨1, 1, 2, [], 0, i, false⟩) (k + 3) = (itemBytes i).getD k 0 := by
  rw [byteAt_bytesL, wi_put h, bytesL_bs (wi_in i)]
  rfl
theorem wi_size {i : GItem} (h : itemB i = true) : (mPutS ⟨1, 1, 2, [], 0, i, false⟩).size = 10 := by rw [wi_put h, bs_size]; rfl
theorem wi_sizeI {i : GItem} (h : itemB i = true) : ((mPutS ⟨1, 1, 2, [], 0, i, false⟩).size : Int) = 10 := by rw [wi_size h]; rfl
theorem wb {n : Int} (h : 0 ≤ n ∧ n < 256) : IntKind.i64.wrap n = n := wrapI (by omega) (by omega)
/-- What a put item's bytes are. -/
theorem wi_facts {k c w v : Int} {g : Bool} (h : itemB ⟨k, ⟨c, w⟩, v, g⟩ = true) :
    IntKind.i64.wrap (byteAt (mPutS ⟨1, 1, 2, [], 0, ⟨k, ⟨c, w⟩, v, g⟩, false⟩) (Int.toNat 3)) = k ∧
    IntKind.i64.wrap (IntKind.i64.wrap (byteAt (mPutS ⟨1, 1, 2, [], 0, ⟨k, ⟨c, w⟩, v, g⟩, false⟩) (Int.toNat 4)) + IntKind.i64.wrap (256 * IntKind.i64.wrap (byteAt (mPutS ⟨1, 1, 2, [], 0, ⟨k, ⟨c, w⟩, v, g⟩, false⟩) (Int.toNat 5)))) = c ∧
    IntKind.i64.wrap (byteAt (mPutS ⟨1, 1, 2, [], 0, ⟨k, ⟨c, w⟩, v, g⟩, false⟩) (Int.toNat 6)) = w ∧
    IntKind.i64.wrap (byteAt (mPutS ⟨1, 1, 2, [], 0, ⟨k, ⟨c, w⟩, v, g⟩, false⟩) (Int.toNat 7)) = v ∧
    byteAt (mPutS ⟨1, 1, 2, [], 0, ⟨k, ⟨c, w⟩, v, g⟩, false⟩) (Int.toNat 8) = (if g = true then 1 else 0) ∧
    IntKind.i64.wrap (byteAt (mPutS ⟨1, 1, 2, [], 0, ⟨k, ⟨c, w⟩, v, g⟩, false⟩) (Int.toNat 9)) = bits .and .i64 (sumL (b6 ⟨k, ⟨c, w⟩, v, g⟩)) 255 := by
  have h7 := item7_bytes h
  have hin := inB_itemBytes ⟨k, ⟨c, w⟩, v, g⟩
  have e := fun j => wi_at h j
  have b := fun j => getD_inB hin j
  simp only [item7, GItem.mk.injEq, GVer.mk.injEq] at h7
  obtain ⟨g0, ⟨g1, g3⟩, g4, g5⟩ := h7
  refine ⟨?_, ?_, ?_, ?_, ?_, ?_⟩
  · rw [show Int.toNat 3 = 0 + 3 from rfl, e, wb (b 0), g0]
  · rw [show Int.toNat 4 = 1 + 3 from rfl, show Int.toNat 5 = 2 + 3 from rfl, e, e, wb (b 1), wb (b 2), wrapI (n := 256 * _) (by have := b 2; omega) (by have := b 2; omega), wrapI (by have := b 1; have := b 2; omega) (by have := b 1; have := b 2; omega), g1]
  · rw [show Int.toNat 6 = 3 + 3 from rfl, e, wb (b 3), g3]
  · rw [show Int.toNat 7 = 4 + 3 from rfl, e, wb (b 4), g4]
  · rw [show Int.toNat 8 = 5 + 3 from rfl, e]
    rfl
  · rw [show Int.toNat 9 = 6 + 3 from rfl, e, wb (b 6), and255]
    show by8 (sumL (b6 ⟨k, ⟨c, w⟩, v, g⟩)) = _
    unfold by8
    rw [wu8]
theorem wi_sum {i : GItem} (h : itemB i = true) {k : Nat} (hk : k < 6) : IntKind.i64.wrap (sumL ((b6 i).take k) + IntKind.i64.wrap (byteAt (mPutS ⟨1, 1, 2, [], 0, i, false⟩) (3 + (k : Int)).toNat)) = sumL ((b6 i).take (k + 1)) := by
  have hb : InB (b6 i) := fun x hx => inB_itemBytes i x (List.mem_append.2 (.inl hx))
  have hs := sumL_take (show k < (b6 i).length from hk)
  have h1 := sumL_bd (inB_take hb k)
  have h3 : ((b6 i).take k).length = k := by rw [List.length_take]; exact Nat.min_eq_left (Nat.le_of_lt hk)
  have h2 := getD_inB hb k
  have e : (itemBytes i).getD k 0 = (b6 i).getD k 0 := by
    unfold itemBytes
    rw [List.getD_eq_getElem?_getD, List.getElem?_append_left hk, ← List.getD_eq_getElem?_getD]
  rw [show (3 + (k : Int)).toNat = k + 3 by omega, wi_at h, e, wb h2, hs, wrapI (by omega) (by omega)]
theorem cnt65535 (b : Int) : 1 ≤ IntKind.i64.wrap (1 + IntKind.i64.wrap ((IntKind.u64.wrap b).tmod 65535)) ∧ IntKind.i64.wrap (1 + IntKind.i64.wrap ((IntKind.u64.wrap b).tmod 65535)) ≤ 65535 := by
  have h := umod b 65535 (by decide) (by decide)
  rw [h.2.2, wrapI (by omega) (by omega)]
  omega
theorem wi_item (a b c d : Int) (g : Bool) : itemB ⟨bits .and .i64 a 255, ⟨IntKind.i64.wrap (1 + IntKind.i64.wrap ((IntKind.u64.wrap b).tmod 65535)), bits .and .i64 c 255⟩, if g = true then 0 else bits .and .i64 d 255, g⟩ = true := by
  have h := cnt65535 b
  have h1 := placeB_255 a
  have h2 := placeB_255 c
  have h3 := placeB_255 d
  cases g <;> simp only [itemB, verB, h1, h2, h3, h.1, h.2, Bool.false_eq_true, if_false, if_true, decide_true, Bool.and_true, Bool.not_false, Bool.not_true, Bool.true_or, Bool.or_true, Bool.true_and, Bool.false_or, Bool.false_and, Bool.and_self, show placeB 0 = true from rfl]
set_option maxHeartbeats 1000000 in
theorem k_WireItem : Known Try.prog tau 10 (S5 dInt dInt dInt dInt dBool fun a b c d e => okB true) := by
  refine known5 hmix tau_ok (ctx_cons k_Put (ctx_cons k_Num (ctx_cons k_awake13 ctx_nil))) (fn := Try.f10) (by kernel_rfl) [(14, [(0, 0), (1, 1), (2, 2), (3, 0), (4, 8), (5, 20), (6, 32), (7, 64), (8, 192), (9, 320), (10, 64), (11, 1088), (12, 2112), (13, 4160), (14, 8768), (15, 64), (16, 32832), (17, 65600), (18, 147520), (19, 262208), (20, 524352), (21, 1048576), (22, 3145728), (23, 5242880), (24, 1048576), (25, 17825792), (26, 34603008), (27, 76546048), (28, 135266304), (29, 269484032), (30, 536870912), (31, 1610612736), (32, 2684354560), (33, 536870912), (34, 9126805504), (35, 22011707392), (36, 34896609280), (37, 69256347648), (38, 137438953472), (39, 412316860416), (40, 687194767360), (41, 137438953472), (42, 3435973836800), (43, 4535485464576), (44, 8933531975680), (45, 17592186044416), (46, 52776558133248), (47, 87960930222080), (48, 158329674399744), (49, 299067162755072), (50, 562949953421312), (51, 1688849860263936), (52, 2814749767106560), (53, 562949953421312), (54, 9570149208162304), (55, 23080948090273792), (56, 36591746972385280), (57, 144115188075855871)])] (by kernel_rfl) _ _ _ _ _ _ fun a b c d g hfit => ⟨rfl,
    [(11, invN [14, 15, 48, 49, 50, 51, 52, 53, 54, 55, 56, 57] (fun i => i ≤ 6) (fun i => withS [(15, .int .i64 (3 + (i : Int))), (14, .int .i64 (sumL ((b6 ⟨bits .and .i64 a 255, ⟨IntKind.i64.wrap (1 + IntKind.i64.wrap ((IntKind.u64.wrap b).tmod 65535)), bits .and .i64 c 255⟩, if g = true then 0 else bits .and .i64 d 255, g⟩).take i)))]) (fun i => 6 - i))], ?_⟩
  clear hfit
  have hi := wi_item a b c d g
  cases g
  all_goals
    simp only [Bool.false_eq_true, if_false, if_true, ↓reduceIte] at hi
    have he := wi_err hi
    have hs := wi_sizeI hi
    have hf := wi_facts hi
    obtain ⟨f0, f1, f2, f3, f4, f5⟩ := hf
    (repeat' (first | ((with_reducible refine body_intro ?_); (first | refine seq_intro (fun Kv hN hX hR => ?_) | (conv => whnf))) | with_reducible refine Stop.mk ?_ | with_reducible refine seq_intro (fun Kv hN hX hR => ?_) | (with_reducible refine hN _ ?_; clear hN hX hR; clear Kv) | (with_reducible refine hX _ _ ?_; clear hN hX hR; clear Kv) | (with_reducible refine hR _ ?_; clear hN hX hR; clear Kv) | ((conv => whnf); first | with_reducible rfl | with_reducible exact True.intro | with_reducible refine (fun (_ : (_ : Prop)) => ?_) | with_reducible refine And.intro ?_ ?_ | (with_reducible refine hN _ ?_; clear hN hX hR; clear Kv) | (with_reducible refine hX _ _ ?_; clear hN hX hR; clear Kv) | (with_reducible refine hR _ ?_; clear hN hX hR; clear Kv) | with_reducible refine Stop.mk ?_))); all_goals (conv => whnf); all_goals (repeat (clear hN hX hR; clear Kv))
  all_goals first
    | (refine Ob.mk ?_
       decide)
    | (refine ⟨0, by omega, ?_⟩
       (repeat' (first | ((with_reducible refine body_intro ?_); (first | refine seq_intro (fun Kv hN hX hR => ?_) | (conv => whnf))) | with_reducible refine Stop.mk ?_ | with_reducible refine seq_intro (fun Kv hN hX hR => ?_) | (with_reducible refine hN _ ?_; clear hN hX hR; clear Kv) | (with_reducible refine hX _ _ ?_; clear hN hX hR; clear Kv) | (with_reducible refine hR _ ?_; clear hN hX hR; clear Kv) | ((conv => whnf); first | with_reducible rfl | with_reducible exact True.intro | with_reducible intro _ | with_reducible refine And.intro ?_ ?_ | (with_reducible refine hN _ ?_; clear hN hX hR; clear Kv) | (with_reducible refine hX _ _ ?_; clear hN hX hR; clear Kv) | (with_reducible refine hR _ ?_; clear hN hX hR; clear Kv) | with_reducible refine Stop.mk ?_))); all_goals (conv => whnf); all_goals (repeat (clear hN hX hR; clear Kv))
       all_goals rfl)
    | (simp only [Bool.not_true, Bool.not_false, Bool.false_eq_true, reduceCtorEq, he, hs, decide_true, decide_false, ↓reduceIte] at *
       done)
    | (intro k hk
       (repeat' (first | ((with_reducible refine body_intro ?_); (first | refine seq_intro (fun Kv hN hX hR => ?_) | (conv => whnf))) | with_reducible refine Stop.mk ?_ | with_reducible refine seq_intro (fun Kv hN hX hR => ?_) | (with_reducible refine hN _ ?_; clear hN hX hR; clear Kv) | (with_reducible refine hX _ _ ?_; clear hN hX hR; clear Kv) | (with_reducible refine hR _ ?_; clear hN hX hR; clear Kv) | ((conv => whnf); first | with_reducible rfl | with_reducible exact True.intro | with_reducible intro _ | with_reducible refine And.intro ?_ ?_ | (with_reducible refine hN _ ?_; clear hN hX hR; clear Kv) | (with_reducible refine hX _ _ ?_; clear hN hX hR; clear Kv) | (with_reducible refine hR _ ?_; clear hN hX hR; clear Kv) | with_reducible refine Stop.mk ?_))); all_goals (conv => whnf); all_goals (repeat (clear hN hX hR; clear Kv)))
  all_goals first
    | (refine Ob.mk ?_
       first
         | (have h : decide (3 + (k : Int) < 9) = true := by with_reducible assumption
            have h := of_decide_eq_true h
            rw [hs]
            omega)
         | (rw [hs]
            decide))
    | (have h : decide (3 + (k : Int) < 9) = true := by with_reducible assumption
       have h := of_decide_eq_true h
       refine ⟨k + 1, by omega, by show 6 - (k + 1) < 6 - k; omega, ?_⟩
       have h6 : k < 6 := by omega
       (repeat' (first | ((with_reducible refine body_intro ?_); (first | refine seq_intro (fun Kv hN hX hR => ?_) | (conv => whnf))) | with_reducible refine Stop.mk ?_ | with_reducible refine seq_intro (fun Kv hN hX hR => ?_) | (with_reducible refine hN _ ?_; clear hN hX hR; clear Kv) | (with_reducible refine hX _ _ ?_; clear hN hX hR; clear Kv) | (with_reducible refine hR _ ?_; clear hN hX hR; clear Kv) | ((conv => whnf); first | with_reducible rfl | with_reducible exact True.intro | with_reducible intro _ | with_reducible refine And.intro ?_ ?_ | (with_reducible refine hN _ ?_; clear hN hX hR; clear Kv) | (with_reducible refine hX _ _ ?_; clear hN hX hR; clear Kv) | (with_reducible refine hR _ ?_; clear hN hX hR; clear Kv) | with_reducible refine Stop.mk ?_))); all_goals (conv => whnf); all_goals (repeat (clear hN hX hR; clear Kv))
       all_goals first
         | exact wi_sum hi h6
         | (rw [wrapI (by omega) (by omega)]
            omega)
         | rfl)
    | (have h : decide (3 + (k : Int) < 9) = false := by with_reducible assumption
       have h := of_decide_eq_false h
       have hk6 : k = 6 := by omega
       subst hk6
       first
         | exact decide_eq_true f5
         | (simp only [f0, f1, f2, f3, f4, f5, Bool.not_true, Bool.not_false, Bool.false_eq_true, Bool.true_eq_false, beq_self_eq_true, Int.reduceLE, show decide ((0 : Int) = 1) = false from rfl, reduceCtorEq, decide_true, decide_false, ↓reduceIte] at *
            done))
end Go.Proofs.Ytmgccphapkmmeaa
