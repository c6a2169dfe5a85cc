/- Contracts: a message out of its bytes: as the document's answer reads it. -/
import Derived.Test.YtmgccphapkmmeaaF13e
namespace Go.Proofs.Ytmgccphapkmmeaa
open Go.RowKit

theorem eta_item (X : GItem) : (⟨X.key, ⟨X.ver.count, X.ver.writer⟩, X.value, X.gone⟩ : GItem) = X := rfl
theorem rowR (s : ByteArray) (k : Nat) : byteAt s (4 + k) = ((bytesL s).drop 4).getD k 0 := by rw [byteAt_bytesL, getD_drop]
theorem getR_short {s : ByteArray} (h : decide ((s.size : Int) < 4) = true) : mGet s = (msg0, 1300) := by
  have h : (s.size : Int) < 4 := of_decide_eq_true h
  rw [mGet_def]
  rw [if_neg (by omega)]
theorem getR_bad1 {s : ByteArray} {M : GMsg} (hM : M = parseR (bytesL s)) (h : (!decide (mPutE M = 0)) = true) : mGet s = (msg0, 1300) := by
  subst hM
  rw [mGet_eq]
  rw [if_neg]
  rintro ⟨_, h1, _⟩
  simp [mPutE_def, h1] at h
theorem getR_bad2 {s : ByteArray} {M : GMsg} (hM : M = parseR (bytesL s)) (h : (!((mPutS M).toList == s.toList)) = true) : mGet s = (msg0, 1300) := by
  subst hM
  rw [mGet_eq]
  rw [if_neg]
  rintro ⟨_, h1, h2⟩
  rw [str_beq] at h
  have : mPutS (parseR (bytesL s)) = s := by
    rw [mPutS_def]
    rw [if_pos h1, h2, bs_bytesL]
  simp [this] at h
theorem getR_good {s : ByteArray} {M : GMsg} (hM : M = parseR (bytesL s)) (h0 : decide ((s.size : Int) < 4) = false) (h : (!decide (mPutE M = 0)) = false) (h' : (!((mPutS M).toList == s.toList)) = false) : mGet s = (M, 0) := by
  subst hM
  have h0 : ¬ (s.size : Int) < 4 := of_decide_eq_false h0
  have h : mPutE (parseR (bytesL s)) = 0 := by simpa using h
  rw [str_beq] at h'
  have h' : mPutS (parseR (bytesL s)) = s := by simpa using h'
  have hm : mayB (parseR (bytesL s)) = true := by
    rcases putE_cases (parseR (bytesL s)) with h1 | h1
    · exact h1.2.1
    · rw [h1.1] at h; simp at h
  rw [mGet_eq]
  rw [if_pos]
  refine ⟨by omega, hm, ?_⟩
  rw [mPutS_def] at h'
  rw [if_pos hm] at h'
  exact (bs_eq_iff (inB_msgBytes _) s).1 h'
theorem kR_iff {s : ByteArray} {n : Int} {b : Bool} (h : decide (IntKind.i64.wrap (byteAt s (Int.toNat 0)) = n) = b) : decide ((bytesL s).getD 0 0 = n) = b := by rw [← wrap_byte]; exact h
theorem ex5 (s : ByteArray) : bytesL (s.extract 5 s.size) = (bytesL s).drop 5 := bytesL_extract s 5
theorem rm1 {s : ByteArray} (h0 : decide (IntKind.i64.wrap (byteAt s (Int.toNat 0)) = 0) = false) (h1 : decide (IntKind.i64.wrap (byteAt s (Int.toNat 0)) = 1) = true) (h2 : decide ((s.size : Int) = 10) = true) :
    (⟨IntKind.i64.wrap (byteAt s 0), IntKind.i64.wrap (byteAt s 1), IntKind.i64.wrap (byteAt s 2), [], 0, getItem6 (s.extract 3 s.size), false⟩ : GMsg) = parseR (bytesL s) := by
  have h0 := of_decide_eq_false (kR_iff h0)
  have h1 := of_decide_eq_true (kR_iff h1)
  have h2 := of_decide_eq_true h2
  unfold parseR getItem6
  rw [if_neg h0, if_pos h1, if_pos (by rw [ex_size]; omega), if_pos (by rw [bytesL_len]; omega), rd, rd, rd, ex3]
theorem rm1' {s : ByteArray} (h0 : decide (IntKind.i64.wrap (byteAt s (Int.toNat 0)) = 0) = false) (h1 : decide (IntKind.i64.wrap (byteAt s (Int.toNat 0)) = 1) = true) (h2 : decide ((s.size : Int) = 10) = false) :
    (⟨IntKind.i64.wrap (byteAt s 0), IntKind.i64.wrap (byteAt s 1), IntKind.i64.wrap (byteAt s 2), [], 0, item0, false⟩ : GMsg) = parseR (bytesL s) := by
  have h0 := of_decide_eq_false (kR_iff h0)
  have h1 := of_decide_eq_true (kR_iff h1)
  have h2 := of_decide_eq_false h2
  unfold parseR
  rw [if_neg h0, if_pos h1, if_neg (by rw [bytesL_len]; omega), rd, rd, rd]
theorem rm2 {s : ByteArray} (h0 : decide (IntKind.i64.wrap (byteAt s (Int.toNat 0)) = 0) = false) (h1 : decide (IntKind.i64.wrap (byteAt s (Int.toNat 0)) = 1) = false) (h2 : decide (IntKind.i64.wrap (byteAt s (Int.toNat 0)) = 2) = true) :
    (⟨IntKind.i64.wrap (byteAt s 0), IntKind.i64.wrap (byteAt s 1), IntKind.i64.wrap (byteAt s 2), [], IntKind.i64.wrap (byteAt s 3), item0, false⟩ : GMsg) = parseR (bytesL s) := by
  have h0 := of_decide_eq_false (kR_iff h0)
  have h1 := of_decide_eq_false (kR_iff h1)
  have h2 := of_decide_eq_true (kR_iff h2)
  unfold parseR
  rw [if_neg h0, if_neg h1, if_pos h2, rd, rd, rd, rd]
theorem rm3 {s : ByteArray} (h0 : decide (IntKind.i64.wrap (byteAt s (Int.toNat 0)) = 0) = false) (h1 : decide (IntKind.i64.wrap (byteAt s (Int.toNat 0)) = 1) = false) (h2 : decide (IntKind.i64.wrap (byteAt s (Int.toNat 0)) = 2) = false) (h3 : decide ((s.size : Int) = 12) = true) :
    (⟨IntKind.i64.wrap (byteAt s 0), IntKind.i64.wrap (byteAt s 1), IntKind.i64.wrap (byteAt s 2), [], IntKind.i64.wrap (byteAt s 3), getItem6 (s.extract 5 s.size), true⟩ : GMsg) = parseR (bytesL s) := by
  have h0 := of_decide_eq_false (kR_iff h0)
  have h1 := of_decide_eq_false (kR_iff h1)
  have h2 := of_decide_eq_false (kR_iff h2)
  have h3 := of_decide_eq_true h3
  unfold parseR getItem6
  rw [if_neg h0, if_neg h1, if_neg h2, if_pos (by rw [ex_size]; omega), if_pos (by rw [bytesL_len]; omega), rd, rd, rd, rd, ex5]
theorem rm3' {s : ByteArray} (h0 : decide (IntKind.i64.wrap (byteAt s (Int.toNat 0)) = 0) = false) (h1 : decide (IntKind.i64.wrap (byteAt s (Int.toNat 0)) = 1) = false) (h2 : decide (IntKind.i64.wrap (byteAt s (Int.toNat 0)) = 2) = false) (h3 : decide ((s.size : Int) = 12) = false) :
    (⟨IntKind.i64.wrap (byteAt s 0), IntKind.i64.wrap (byteAt s 1), IntKind.i64.wrap (byteAt s 2), [], IntKind.i64.wrap (byteAt s 3), item0, false⟩ : GMsg) = parseR (bytesL s) := by
  have h0 := of_decide_eq_false (kR_iff h0)
  have h1 := of_decide_eq_false (kR_iff h1)
  have h2 := of_decide_eq_false (kR_iff h2)
  have h3 := of_decide_eq_false h3
  unfold parseR
  rw [if_neg h0, if_neg h1, if_neg h2, if_neg (by rw [bytesL_len]; omega), rd, rd, rd, rd]
theorem rm0 {s : ByteArray} (h0 : decide (IntKind.i64.wrap (byteAt s (Int.toNat 0)) = 0) = true) {l : List Int} (hl : l = (bytesL s).drop 4) :
    (⟨IntKind.i64.wrap (byteAt s 0), IntKind.i64.wrap (byteAt s 1), IntKind.i64.wrap (byteAt s 2), l, 0, item0, false⟩ : GMsg) = parseR (bytesL s) := by
  have h0 := of_decide_eq_true (kR_iff h0)
  unfold parseR
  rw [if_pos h0, rd, rd, rd, hl]
theorem qrm1 {s : ByteArray} (h0 : decide (IntKind.i64.wrap (byteAt s (Int.toNat 0)) = 0) = false) (h1 : decide (IntKind.i64.wrap (byteAt s (Int.toNat 0)) = 1) = true) (h2 : decide ((s.size : Int) = 10) = true) :
    (⟨IntKind.i64.wrap (byteAt s (Int.toNat 0)), IntKind.i64.wrap (byteAt s (Int.toNat 1)), IntKind.i64.wrap (byteAt s (Int.toNat 2)), [], 0, ⟨(getItem6 (s.extract (Int.toNat 3) (s.size : Int).toNat)).key, ⟨(getItem6 (s.extract (Int.toNat 3) (s.size : Int).toNat)).ver.count, (getItem6 (s.extract (Int.toNat 3) (s.size : Int).toNat)).ver.writer⟩, (getItem6 (s.extract (Int.toNat 3) (s.size : Int).toNat)).value, (getItem6 (s.extract (Int.toNat 3) (s.size : Int).toNat)).gone⟩, false⟩ : GMsg) = parseR (bytesL s) := by
  have h := rm1 h0 h1 h2
  rw [show s.extract (Int.toNat 3) (s.size : Int).toNat = s.extract 3 s.size from rfl, eta_item]
  exact h
theorem qrm1' {s : ByteArray} (h0 : decide (IntKind.i64.wrap (byteAt s (Int.toNat 0)) = 0) = false) (h1 : decide (IntKind.i64.wrap (byteAt s (Int.toNat 0)) = 1) = true) (h2 : decide ((s.size : Int) = 10) = false) :
    (⟨IntKind.i64.wrap (byteAt s (Int.toNat 0)), IntKind.i64.wrap (byteAt s (Int.toNat 1)), IntKind.i64.wrap (byteAt s (Int.toNat 2)), [], 0, ⟨0, ⟨0, 0⟩, 0, false⟩, false⟩ : GMsg) = parseR (bytesL s) := rm1' h0 h1 h2
theorem qrm2 {s : ByteArray} (h0 : decide (IntKind.i64.wrap (byteAt s (Int.toNat 0)) = 0) = false) (h1 : decide (IntKind.i64.wrap (byteAt s (Int.toNat 0)) = 1) = false) (h2 : decide (IntKind.i64.wrap (byteAt s (Int.toNat 0)) = 2) = true) :
    (⟨IntKind.i64.wrap (byteAt s (Int.toNat 0)), IntKind.i64.wrap (byteAt s (Int.toNat 1)), IntKind.i64.wrap (byteAt s (Int.toNat 2)), [], IntKind.i64.wrap (byteAt s (Int.toNat 3)), ⟨0, ⟨0, 0⟩, 0, false⟩, false⟩ : GMsg) = parseR (bytesL s) := rm2 h0 h1 h2
theorem qrm3 {s : ByteArray} (h0 : decide (IntKind.i64.wrap (byteAt s (Int.toNat 0)) = 0) = false) (h1 : decide (IntKind.i64.wrap (byteAt s (Int.toNat 0)) = 1) = false) (h2 : decide (IntKind.i64.wrap (byteAt s (Int.toNat 0)) = 2) = false) (h3 : decide ((s.size : Int) = 12) = true) :
    (⟨IntKind.i64.wrap (byteAt s (Int.toNat 0)), IntKind.i64.wrap (byteAt s (Int.toNat 1)), IntKind.i64.wrap (byteAt s (Int.toNat 2)), [], IntKind.i64.wrap (byteAt s (Int.toNat 3)), ⟨(getItem6 (s.extract (Int.toNat 5) (s.size : Int).toNat)).key, ⟨(getItem6 (s.extract (Int.toNat 5) (s.size : Int).toNat)).ver.count, (getItem6 (s.extract (Int.toNat 5) (s.size : Int).toNat)).ver.writer⟩, (getItem6 (s.extract (Int.toNat 5) (s.size : Int).toNat)).value, (getItem6 (s.extract (Int.toNat 5) (s.size : Int).toNat)).gone⟩, true⟩ : GMsg) = parseR (bytesL s) := by
  have h := rm3 h0 h1 h2 h3
  rw [show s.extract (Int.toNat 5) (s.size : Int).toNat = s.extract 5 s.size from rfl, eta_item]
  exact h
theorem qrm3' {s : ByteArray} (h0 : decide (IntKind.i64.wrap (byteAt s (Int.toNat 0)) = 0) = false) (h1 : decide (IntKind.i64.wrap (byteAt s (Int.toNat 0)) = 1) = false) (h2 : decide (IntKind.i64.wrap (byteAt s (Int.toNat 0)) = 2) = false) (h3 : decide ((s.size : Int) = 12) = false) :
    (⟨IntKind.i64.wrap (byteAt s (Int.toNat 0)), IntKind.i64.wrap (byteAt s (Int.toNat 1)), IntKind.i64.wrap (byteAt s (Int.toNat 2)), [], IntKind.i64.wrap (byteAt s (Int.toNat 3)), ⟨0, ⟨0, 0⟩, 0, false⟩, false⟩ : GMsg) = parseR (bytesL s) := rm3' h0 h1 h2 h3
theorem qrm0 {s : ByteArray} (h0 : decide (IntKind.i64.wrap (byteAt s (Int.toNat 0)) = 0) = true) {l : List Int} (hl : l = (bytesL s).drop 4) :
    (⟨IntKind.i64.wrap (byteAt s (Int.toNat 0)), IntKind.i64.wrap (byteAt s (Int.toNat 1)), IntKind.i64.wrap (byteAt s (Int.toNat 2)), l, 0, ⟨0, ⟨0, 0⟩, 0, false⟩, false⟩ : GMsg) = parseR (bytesL s) := rm0 h0 hl
set_option maxHeartbeats 4000000 in
theorem k_GetMsg : Known Try.prog tau 24 (S1 dStr oGet) := by
  refine knownX1 hmix tau_ok (fn := Try.f24) (by kernel_rfl) [(3, [(0, 0), (1, 1), (2, 2), (3, 0), (4, 8), (5, 16), (6, 0), (7, 64), (8, 128), (9, 292), (10, 0), (11, 2047)]), (13, [(0, 0), (1, 1), (2, 0), (3, 0), (4, 12), (5, 16), (6, 32), (7, 66), (8, 255), (9, 511)])] (by kernel_rfl) _ _ fun s hfit hsz => ⟨rfl, _, (ctx_cons k_PutMsg (ctx_cons k_getItem ctx_nil)),
    [(11, invX Nat [5, 38, 39, 40, 41, 42, 43, 44, 45, 46, 47, 48, 49, 50, 51, 52] [] (fun i => i ≤ (bytesL s).length - 4) (fun i => match i with
      | 0 => withS [(5, .int .i64 4)]
      | i + 1 => fun st => withS [(5, .int .i64 (4 + ((i + 1 : Nat) : Int)))] (withBC 4 3 (.own 51) (withR [(51, .own (.ints (((bytesL s).drop 4).take (i + 1))))] st))) (fun i => (bytesL s).length - i))], ?_⟩
  clear hfit
  (repeat' (first | ((with_reducible refine body_intro ?_); (first | refine seq_intro (fun Kv hN hX hR => ?_) | (conv => whnf))) | with_reducible refine Stop.mk ?_ | with_reducible refine seq_intro (fun Kv hN hX hR => ?_) | (with_reducible refine hN _ ?_; clear hN hX hR; clear Kv) | (with_reducible refine hX _ _ ?_; clear hN hX hR; clear Kv) | (with_reducible refine hR _ ?_; clear hN hX hR; clear Kv) | ((conv => whnf); first | with_reducible rfl | with_reducible exact True.intro | with_reducible refine (fun (_ : (_ : Prop)) => ?_) | with_reducible refine And.intro ?_ ?_ | (with_reducible refine hN _ ?_; clear hN hX hR; clear Kv) | (with_reducible refine hX _ _ ?_; clear hN hX hR; clear Kv) | (with_reducible refine hR _ ?_; clear hN hX hR; clear Kv) | with_reducible refine Stop.mk ?_))); all_goals (conv => whnf); all_goals (repeat (clear hN hX hR; clear Kv))
  all_goals first
    | (refine Ob.mk ?_
       have h0 : decide ((s.size : Int) < 4) = false := by with_reducible assumption
       have h0 : ¬ (s.size : Int) < 4 := of_decide_eq_false h0
       omega)
    | (rw [getR_short (by with_reducible assumption)] <;> rfl)
    | (rw [getR_bad1 (qrm1 (by with_reducible assumption) (by with_reducible assumption) (by with_reducible assumption)) (by with_reducible assumption)] <;> rfl)
    | (rw [getR_bad2 (qrm1 (by with_reducible assumption) (by with_reducible assumption) (by with_reducible assumption)) (by with_reducible assumption)] <;> rfl)
    | (rw [getR_good (qrm1 (by with_reducible assumption) (by with_reducible assumption) (by with_reducible assumption)) (by with_reducible assumption) (by with_reducible assumption) (by with_reducible assumption)] <;> rfl)
    | (rw [getR_bad1 (qrm1' (by with_reducible assumption) (by with_reducible assumption) (by with_reducible assumption)) (by with_reducible assumption)] <;> rfl)
    | (rw [getR_bad2 (qrm1' (by with_reducible assumption) (by with_reducible assumption) (by with_reducible assumption)) (by with_reducible assumption)] <;> rfl)
    | (rw [getR_good (qrm1' (by with_reducible assumption) (by with_reducible assumption) (by with_reducible assumption)) (by with_reducible assumption) (by with_reducible assumption) (by with_reducible assumption)] <;> rfl)
    | (rw [getR_bad1 (qrm2 (by with_reducible assumption) (by with_reducible assumption) (by with_reducible assumption)) (by with_reducible assumption)] <;> rfl)
    | (rw [getR_bad2 (qrm2 (by with_reducible assumption) (by with_reducible assumption) (by with_reducible assumption)) (by with_reducible assumption)] <;> rfl)
    | (rw [getR_good (qrm2 (by with_reducible assumption) (by with_reducible assumption) (by with_reducible assumption)) (by with_reducible assumption) (by with_reducible assumption) (by with_reducible assumption)] <;> rfl)
    | (rw [getR_bad1 (qrm3 (by with_reducible assumption) (by with_reducible assumption) (by with_reducible assumption) (by with_reducible assumption)) (by with_reducible assumption)] <;> rfl)
    | (rw [getR_bad2 (qrm3 (by with_reducible assumption) (by with_reducible assumption) (by with_reducible assumption) (by with_reducible assumption)) (by with_reducible assumption)] <;> rfl)
    | (rw [getR_good (qrm3 (by with_reducible assumption) (by with_reducible assumption) (by with_reducible assumption) (by with_reducible assumption)) (by with_reducible assumption) (by with_reducible assumption) (by with_reducible assumption)] <;> rfl)
    | (rw [getR_bad1 (qrm3' (by with_reducible assumption) (by with_reducible assumption) (by with_reducible assumption) (by with_reducible assumption)) (by with_reducible assumption)] <;> rfl)
    | (rw [getR_bad2 (qrm3' (by with_reducible assumption) (by with_reducible assumption) (by with_reducible assumption) (by with_reducible assumption)) (by with_reducible assumption)] <;> rfl)
    | (rw [getR_good (qrm3' (by with_reducible assumption) (by with_reducible assumption) (by with_reducible assumption) (by with_reducible assumption)) (by with_reducible assumption) (by with_reducible assumption) (by with_reducible assumption)] <;> rfl)
    | (refine ⟨0, by omega, ?_⟩
       (repeat' (first | ((with_reducible refine body_intro ?_); (first | refine seq_intro (fun Kv hN hX hR => ?_) | (conv => whnf))) | with_reducible refine Stop.mk ?_ | with_reducible refine seq_intro (fun Kv hN hX hR => ?_) | (with_reducible refine hN _ ?_; clear hN hX hR; clear Kv) | (with_reducible refine hX _ _ ?_; clear hN hX hR; clear Kv) | (with_reducible refine hR _ ?_; clear hN hX hR; clear Kv) | ((conv => whnf); first | with_reducible rfl | with_reducible exact True.intro | with_reducible intro _ | with_reducible refine And.intro ?_ ?_ | (with_reducible refine hN _ ?_; clear hN hX hR; clear Kv) | (with_reducible refine hX _ _ ?_; clear hN hX hR; clear Kv) | (with_reducible refine hR _ ?_; clear hN hX hR; clear Kv) | with_reducible refine Stop.mk ?_))); all_goals (conv => whnf); all_goals (repeat (clear hN hX hR; clear Kv))
       all_goals rfl)
    | (have h : decide ((s.size : Int) = 12) = true := by with_reducible assumption
       have h := of_decide_eq_true h
       refine Ob.mk ?_
       omega)
    | (have h : decide ((s.size : Int) = 12) = true := by with_reducible assumption
       have h := of_decide_eq_true h
       refine Ob.mk ?_
       rw [show s.extract (Int.toNat 5) (s.size : Int).toNat = s.extract 5 s.size from rfl, ex_size]
       omega)
    | (have h : decide ((s.size : Int) = 10) = true := by with_reducible assumption
       have h := of_decide_eq_true h
       refine Ob.mk ?_
       rw [show s.extract (Int.toNat 3) (s.size : Int).toNat = s.extract 3 s.size from rfl, ex_size]
       omega)
    | skip
  intro i hi
  rcases i with _ | i
  all_goals
    have hB := inB_drop (inB_bytesL s) 4
    have hLen : ((bytesL s).drop 4).length = s.size - 4 := by rw [List.length_drop, bytesL_len]
    have hL := bytesL_len s
    (repeat' (first | ((with_reducible refine body_intro ?_); (first | refine seq_intro (fun Kv hN hX hR => ?_) | (conv => whnf))) | with_reducible refine Stop.mk ?_ | with_reducible refine seq_intro (fun Kv hN hX hR => ?_) | (with_reducible refine hN _ ?_; clear hN hX hR; clear Kv) | (with_reducible refine hX _ _ ?_; clear hN hX hR; clear Kv) | (with_reducible refine hR _ ?_; clear hN hX hR; clear Kv) | ((conv => whnf); first | with_reducible rfl | with_reducible exact True.intro | with_reducible intro _ | with_reducible refine And.intro ?_ ?_ | (with_reducible refine hN _ ?_; clear hN hX hR; clear Kv) | (with_reducible refine hX _ _ ?_; clear hN hX hR; clear Kv) | (with_reducible refine hR _ ?_; clear hN hX hR; clear Kv) | with_reducible refine Stop.mk ?_))); all_goals (conv => whnf); all_goals (repeat (clear hN hX hR; clear Kv))
  all_goals first
    | (refine Ob.mk ⟨by omega, of_decide_eq_true (by with_reducible assumption)⟩
       done)
    | (refine Ob.mk ?_
       simp [Rw.len, Rw.bts, Rw.kd, kdBytes]
       try omega
       done)
    | (have h : decide (4 < (s.size : Int)) = false := by with_reducible assumption
       have h : ¬ 4 < (s.size : Int) := of_decide_eq_false h
       have hl : [] = (bytesL s).drop 4 := (List.eq_nil_of_length_eq_zero (by omega)).symm
       first
         | (rw [getR_bad1 (qrm0 (by with_reducible assumption) hl) (by with_reducible assumption)] <;> rfl)
         | (rw [getR_bad2 (qrm0 (by with_reducible assumption) hl) (by with_reducible assumption)] <;> rfl)
         | (rw [getR_good (qrm0 (by with_reducible assumption) hl) (by with_reducible assumption) (by with_reducible assumption) (by with_reducible assumption)] <;> rfl))
    | (have h : decide (4 + (((i + 1 : Nat) : Int)) < (s.size : Int)) = false := by with_reducible assumption
       have h : ¬ 4 + ((i + 1 : Nat) : Int) < (s.size : Int) := of_decide_eq_false h
       have hl : ((bytesL s).drop 4).take (i + 1) = (bytesL s).drop 4 := List.take_of_length_le (by omega)
       first
         | (rw [getR_bad1 (qrm0 (by with_reducible assumption) hl) (by with_reducible assumption)] <;> rfl)
         | (rw [getR_bad2 (qrm0 (by with_reducible assumption) hl) (by with_reducible assumption)] <;> rfl)
         | (rw [getR_good (qrm0 (by with_reducible assumption) hl) (by with_reducible assumption) (by with_reducible assumption) (by with_reducible assumption)] <;> rfl))
    | (have h : decide (4 < (s.size : Int)) = true := by with_reducible assumption
       have h : 4 < (s.size : Int) := of_decide_eq_true h
       refine ⟨1, by omega, by show (bytesL s).length - 1 < (bytesL s).length - 0; omega, ?_⟩
       have hs := row_step hB (k := 0) (by omega)
       rw [← rowR] at hs
       (repeat' (first | ((with_reducible refine body_intro ?_); (first | refine seq_intro (fun Kv hN hX hR => ?_) | (conv => whnf))) | with_reducible refine Stop.mk ?_ | with_reducible refine seq_intro (fun Kv hN hX hR => ?_) | (with_reducible refine hN _ ?_; clear hN hX hR; clear Kv) | (with_reducible refine hX _ _ ?_; clear hN hX hR; clear Kv) | (with_reducible refine hR _ ?_; clear hN hX hR; clear Kv) | ((conv => whnf); first | with_reducible rfl | with_reducible exact True.intro | with_reducible intro _ | with_reducible refine And.intro ?_ ?_ | (with_reducible refine hN _ ?_; clear hN hX hR; clear Kv) | (with_reducible refine hX _ _ ?_; clear hN hX hR; clear Kv) | (with_reducible refine hR _ ?_; clear hN hX hR; clear Kv) | with_reducible refine Stop.mk ?_))); all_goals (conv => whnf); all_goals (repeat (clear hN hX hR; clear Kv))
       all_goals first
         | rfl
         | exact congrArg Rw.ints hs)
    | (have h : decide (4 + (((i + 1 : Nat) : Int)) < (s.size : Int)) = true := by with_reducible assumption
       have h : 4 + ((i + 1 : Nat) : Int) < (s.size : Int) := of_decide_eq_true h
       refine ⟨i + 1 + 1, by omega, by show (bytesL s).length - (i + 1 + 1) < (bytesL s).length - (i + 1); omega, ?_⟩
       have hs := row_step hB (k := i + 1) (by omega)
       have e : (4 + ((i + 1 : Nat) : Int)).toNat = 4 + (i + 1) := by omega
       rw [← rowR, ← e] at hs
       (repeat' (first | ((with_reducible refine body_intro ?_); (first | refine seq_intro (fun Kv hN hX hR => ?_) | (conv => whnf))) | with_reducible refine Stop.mk ?_ | with_reducible refine seq_intro (fun Kv hN hX hR => ?_) | (with_reducible refine hN _ ?_; clear hN hX hR; clear Kv) | (with_reducible refine hX _ _ ?_; clear hN hX hR; clear Kv) | (with_reducible refine hR _ ?_; clear hN hX hR; clear Kv) | ((conv => whnf); first | with_reducible rfl | with_reducible exact True.intro | with_reducible intro _ | with_reducible refine And.intro ?_ ?_ | (with_reducible refine hN _ ?_; clear hN hX hR; clear Kv) | (with_reducible refine hX _ _ ?_; clear hN hX hR; clear Kv) | (with_reducible refine hR _ ?_; clear hN hX hR; clear Kv) | with_reducible refine Stop.mk ?_))); all_goals (conv => whnf); all_goals (repeat (clear hN hX hR; clear Kv))
       all_goals first
         | (rw [wrapI (by omega) (by omega)]; omega)
         | exact congrArg Rw.ints hs
         | rfl)
end Go.Proofs.Ytmgccphapkmmeaa
