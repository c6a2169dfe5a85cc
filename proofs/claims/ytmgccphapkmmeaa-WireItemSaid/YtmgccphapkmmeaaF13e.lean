/- Contracts: a message out of its bytes, on. -/
import Derived.Test.YtmgccphapkmmeaaF13d
namespace Go.Proofs.Ytmgccphapkmmeaa
open Go.RowKit

/-- Another cell in a box. -/
def withBC (k off : Nat) (v : SV) : St → St
  | ⟨fr, stk, bx, rw, dep⟩ => match lk bx k with
    | some (T, cs) => ⟨fr, stk, upd bx k (T, setRange cs off [v]), rw, dep⟩
    | none => ⟨fr, stk, bx, rw, dep⟩
/-- A message that is handed over: its own row. -/
def mOwn (m : GMsg) : List SV := [.int .i64 m.kind, .int .i64 m.src, .int .i64 m.dst, .own 0, .int .i64 m.key, .int .i64 m.item.key, .int .i64 m.item.ver.count, .int .i64 m.item.ver.writer, .int .i64 m.item.value, .bool m.item.gone, .bool m.has]
noncomputable def oGet (s : ByteArray) : Out := .ob (s.size ≤ 17592186044416) (.tup [.agg (mOwn (mGet s).1), .int .i64 (mGet s).2]) [.ints (mGet s).1.ids]
theorem get_short {s : ByteArray} (h : decide ((s.size : Int) ≤ 3) = true) : mGet s = (msg0, 1300) := by
  have h : (s.size : Int) ≤ 3 := of_decide_eq_true h
  rw [mGet_def]
  rw [if_neg (by omega)]
theorem get_bad1 {s : ByteArray} {M : GMsg} (hM : M = parse (bytesL s)) (h : (!decide (mPutE M = 0)) = true) : mGet s = (msg0, 1300) := by
  subst hM
  rw [mGet_def]
  rw [if_neg]
  rintro ⟨_, h1, _⟩
  simp [mPutE_def, h1] at h
theorem get_bad2 {s : ByteArray} {M : GMsg} (hM : M = parse (bytesL s)) (h : (!((mPutS M).toList == s.toList)) = true) : mGet s = (msg0, 1300) := by
  subst hM
  rw [mGet_def]
  rw [if_neg]
  rintro ⟨_, h1, h2⟩
  rw [str_beq] at h
  have : mPutS (parse (bytesL s)) = s := by
    rw [mPutS_def]
    rw [if_pos h1, h2, bs_bytesL]
  simp [this] at h
theorem get_good {s : ByteArray} {M : GMsg} (hM : M = parse (bytesL s)) (h0 : decide ((s.size : Int) ≤ 3) = false) (h : (!decide (mPutE M = 0)) = false) (h' : (!((mPutS M).toList == s.toList)) = false) : mGet s = (M, 0) := by
  subst hM
  have h0 : ¬ (s.size : Int) ≤ 3 := of_decide_eq_false h0
  have h : mPutE (parse (bytesL s)) = 0 := by simpa using h
  rw [str_beq] at h'
  have h' : mPutS (parse (bytesL s)) = s := by simpa using h'
  have hm : mayB (parse (bytesL s)) = true := by
    rcases putE_cases (parse (bytesL s)) with h1 | h1
    · exact h1.2.1
    · rw [h1.1] at h; simp at h
  rw [mGet_def]
  rw [if_pos]
  refine ⟨by omega, hm, ?_⟩
  rw [mPutS_def] at h'
  rw [if_pos hm] at h'
  exact (bs_eq_iff (inB_msgBytes _) s).1 h'
/-- What the program has read, by its kind. -/
theorem rd (s : ByteArray) (i : Nat) : IntKind.i64.wrap (byteAt s i) = (bytesL s).getD i 0 := wrap_byte s i
theorem rd3 (s : ByteArray) : IntKind.i64.wrap (byteAt (s.extract 3 s.size) 0) = (bytesL s).getD 3 0 := by rw [wrap_byte, bytesL_extract, getD_drop]
theorem ex3 (s : ByteArray) : bytesL (s.extract 3 s.size) = (bytesL s).drop 3 := bytesL_extract s 3
theorem ex32 (s : ByteArray) : bytesL ((s.extract 3 s.size).extract 2 (s.extract 3 s.size).size) = (bytesL s).drop 5 := by rw [bytesL_extract, bytesL_extract, List.drop_drop]
theorem ex31 (s : ByteArray) : bytesL ((s.extract 3 s.size).extract 1 (s.extract 3 s.size).size) = (bytesL s).drop 4 := by rw [bytesL_extract, bytesL_extract, List.drop_drop]
theorem ex_size (s : ByteArray) (a : Nat) : (s.extract a s.size).size = s.size - a := by rw [← bytesL_len, bytesL_extract, List.length_drop, bytesL_len]
theorem k0_iff {s : ByteArray} {n : Int} {b : Bool} (h : decide (byteAt s 0 = n) = b) : decide ((bytesL s).getD 0 0 = n) = b := by rw [← byteAt_bytesL]; exact h
theorem pm1 {s : ByteArray} (h0 : decide (byteAt s 0 = 0) = false) (h1 : decide (byteAt s 0 = 1) = true) :
    (⟨IntKind.i64.wrap (byteAt s 0), IntKind.i64.wrap (byteAt s 1), IntKind.i64.wrap (byteAt s 2), [], 0, getItemL (bytesL (s.extract 3 s.size)), false⟩ : GMsg) = parse (bytesL s) := by
  have h0 := of_decide_eq_false (k0_iff h0)
  have h1 := of_decide_eq_true (k0_iff h1)
  unfold parse
  rw [if_neg h0, if_pos h1, rd, rd, rd, ex3]
theorem pm3 {s : ByteArray} (h0 : decide (byteAt s 0 = 0) = false) (h1 : decide (byteAt s 0 = 1) = false) (h3 : decide (byteAt s 0 = 3) = true) (h4 : decide (1 < ((s.extract 3 s.size).size : Int)) = true) (h5 : decide (byteAt (s.extract 3 s.size) 1 = 1) = true) :
    (⟨IntKind.i64.wrap (byteAt s 0), IntKind.i64.wrap (byteAt s 1), IntKind.i64.wrap (byteAt s 2), [], IntKind.i64.wrap (byteAt (s.extract 3 s.size) 0), getItemL (bytesL ((s.extract 3 s.size).extract 2 (s.extract 3 s.size).size)), true⟩ : GMsg) = parse (bytesL s) := by
  have h0 := of_decide_eq_false (k0_iff h0)
  have h1 := of_decide_eq_false (k0_iff h1)
  have h3 := of_decide_eq_true (k0_iff h3)
  have h4 := of_decide_eq_true h4
  have h5 := of_decide_eq_true h5
  rw [byteAt_bytesL, ex3, getD_drop] at h5
  rw [ex_size] at h4
  unfold parse
  rw [if_neg h0, if_neg h1, if_pos h3, if_pos ⟨by rw [bytesL_len]; omega, h5⟩, rd, rd, rd, rd3, ex32]
theorem pm3' {s : ByteArray} (h0 : decide (byteAt s 0 = 0) = false) (h1 : decide (byteAt s 0 = 1) = false) (h3 : decide (byteAt s 0 = 3) = true) (h4 : decide (1 < ((s.extract 3 s.size).size : Int)) = false ∨ decide (byteAt (s.extract 3 s.size) 1 = 1) = false) :
    (⟨IntKind.i64.wrap (byteAt s 0), IntKind.i64.wrap (byteAt s 1), IntKind.i64.wrap (byteAt s 2), [], IntKind.i64.wrap (byteAt (s.extract 3 s.size) 0), item0, false⟩ : GMsg) = parse (bytesL s) := by
  have h0 := of_decide_eq_false (k0_iff h0)
  have h1 := of_decide_eq_false (k0_iff h1)
  have h3 := of_decide_eq_true (k0_iff h3)
  unfold parse
  rw [if_neg h0, if_neg h1, if_pos h3, if_neg ?_, rd, rd, rd, rd3]
  rintro ⟨g1, g2⟩
  rcases h4 with h4 | h4
  · have h4 := of_decide_eq_false h4
    rw [ex_size] at h4
    rw [bytesL_len] at g1
    omega
  · have h4 := of_decide_eq_false h4
    rw [byteAt_bytesL, ex3, getD_drop] at h4
    exact h4 g2
theorem pm4 {s : ByteArray} (h0 : decide (byteAt s 0 = 0) = false) (h1 : decide (byteAt s 0 = 1) = false) (h3 : decide (byteAt s 0 = 3) = false) :
    (⟨IntKind.i64.wrap (byteAt s 0), IntKind.i64.wrap (byteAt s 1), IntKind.i64.wrap (byteAt s 2), [], IntKind.i64.wrap (byteAt (s.extract 3 s.size) 0), item0, false⟩ : GMsg) = parse (bytesL s) := by
  have h0 := of_decide_eq_false (k0_iff h0)
  have h1 := of_decide_eq_false (k0_iff h1)
  have h3 := of_decide_eq_false (k0_iff h3)
  unfold parse
  rw [if_neg h0, if_neg h1, if_neg h3, rd, rd, rd, rd3]
theorem pm0 {s : ByteArray} (h0 : decide (byteAt s 0 = 0) = true) {l : List Int} (hl : l = (bytesL s).drop 4) :
    (⟨IntKind.i64.wrap (byteAt s 0), IntKind.i64.wrap (byteAt s 1), IntKind.i64.wrap (byteAt s 2), l, 0, item0, false⟩ : GMsg) = parse (bytesL s) := by
  have h0 := of_decide_eq_true (k0_iff h0)
  unfold parse
  rw [if_pos h0, rd, rd, rd, hl]
theorem qpm1 {s : ByteArray} (h0 : decide (byteAt s (Int.toNat 0) = 0) = false) (h1 : decide (byteAt s (Int.toNat 0) = 1) = true) :
    (⟨IntKind.i64.wrap (byteAt s (Int.toNat 0)), IntKind.i64.wrap (byteAt s (Int.toNat 1)), IntKind.i64.wrap (byteAt s (Int.toNat 2)), [], 0, ⟨(getItemL (bytesL (s.extract (Int.toNat 3) (s.size : Int).toNat))).key, ⟨(getItemL (bytesL (s.extract (Int.toNat 3) (s.size : Int).toNat))).ver.count, (getItemL (bytesL (s.extract (Int.toNat 3) (s.size : Int).toNat))).ver.writer⟩, (getItemL (bytesL (s.extract (Int.toNat 3) (s.size : Int).toNat))).value, (getItemL (bytesL (s.extract (Int.toNat 3) (s.size : Int).toNat))).gone⟩, false⟩ : GMsg) = parse (bytesL s) := pm1 h0 h1
theorem qpm3 {s : ByteArray} (h0 : decide (byteAt s (Int.toNat 0) = 0) = false) (h1 : decide (byteAt s (Int.toNat 0) = 1) = false) (h3 : decide (byteAt s (Int.toNat 0) = 3) = true) (h4 : decide (1 < ((s.extract (Int.toNat 3) (s.size : Int).toNat).size : Int)) = true) (h5 : decide (byteAt (s.extract (Int.toNat 3) (s.size : Int).toNat) (Int.toNat 1) = 1) = true) :
    (⟨IntKind.i64.wrap (byteAt s (Int.toNat 0)), IntKind.i64.wrap (byteAt s (Int.toNat 1)), IntKind.i64.wrap (byteAt s (Int.toNat 2)), [], IntKind.i64.wrap (byteAt (s.extract (Int.toNat 3) (s.size : Int).toNat) (Int.toNat 0)), ⟨(getItemL (bytesL ((s.extract (Int.toNat 3) (s.size : Int).toNat).extract (Int.toNat 2) ((s.extract (Int.toNat 3) (s.size : Int).toNat).size : Int).toNat))).key, ⟨(getItemL (bytesL ((s.extract (Int.toNat 3) (s.size : Int).toNat).extract (Int.toNat 2) ((s.extract (Int.toNat 3) (s.size : Int).toNat).size : Int).toNat))).ver.count, (getItemL (bytesL ((s.extract (Int.toNat 3) (s.size : Int).toNat).extract (Int.toNat 2) ((s.extract (Int.toNat 3) (s.size : Int).toNat).size : Int).toNat))).ver.writer⟩, (getItemL (bytesL ((s.extract (Int.toNat 3) (s.size : Int).toNat).extract (Int.toNat 2) ((s.extract (Int.toNat 3) (s.size : Int).toNat).size : Int).toNat))).value, (getItemL (bytesL ((s.extract (Int.toNat 3) (s.size : Int).toNat).extract (Int.toNat 2) ((s.extract (Int.toNat 3) (s.size : Int).toNat).size : Int).toNat))).gone⟩, true⟩ : GMsg) = parse (bytesL s) := pm3 h0 h1 h3 h4 h5
theorem qpm3' {s : ByteArray} (h0 : decide (byteAt s (Int.toNat 0) = 0) = false) (h1 : decide (byteAt s (Int.toNat 0) = 1) = false) (h3 : decide (byteAt s (Int.toNat 0) = 3) = true) (h4 : decide (1 < ((s.extract (Int.toNat 3) (s.size : Int).toNat).size : Int)) = false ∨ decide (byteAt (s.extract (Int.toNat 3) (s.size : Int).toNat) (Int.toNat 1) = 1) = false) :
    (⟨IntKind.i64.wrap (byteAt s (Int.toNat 0)), IntKind.i64.wrap (byteAt s (Int.toNat 1)), IntKind.i64.wrap (byteAt s (Int.toNat 2)), [], IntKind.i64.wrap (byteAt (s.extract (Int.toNat 3) (s.size : Int).toNat) (Int.toNat 0)), ⟨0, ⟨0, 0⟩, 0, false⟩, false⟩ : GMsg) = parse (bytesL s) := pm3' h0 h1 h3 h4
theorem qpm4 {s : ByteArray} (h0 : decide (byteAt s (Int.toNat 0) = 0) = false) (h1 : decide (byteAt s (Int.toNat 0) = 1) = false) (h3 : decide (byteAt s (Int.toNat 0) = 3) = false) :
    (⟨IntKind.i64.wrap (byteAt s (Int.toNat 0)), IntKind.i64.wrap (byteAt s (Int.toNat 1)), IntKind.i64.wrap (byteAt s (Int.toNat 2)), [], IntKind.i64.wrap (byteAt (s.extract (Int.toNat 3) (s.size : Int).toNat) (Int.toNat 0)), ⟨0, ⟨0, 0⟩, 0, false⟩, false⟩ : GMsg) = parse (bytesL s) := pm4 h0 h1 h3
theorem qpm0 {s : ByteArray} (h0 : decide (byteAt s (Int.toNat 0) = 0) = true) {l : List Int} (hl : l = (bytesL s).drop 4) :
    (⟨IntKind.i64.wrap (byteAt s (Int.toNat 0)), IntKind.i64.wrap (byteAt s (Int.toNat 1)), IntKind.i64.wrap (byteAt s (Int.toNat 2)), l, 0, ⟨0, ⟨0, 0⟩, 0, false⟩, false⟩ : GMsg) = parse (bytesL s) := pm0 h0 hl
theorem ex31' (s : ByteArray) : bytesL ((s.extract (Int.toNat 3) (s.size : Int).toNat).extract (Int.toNat 1) ((s.extract (Int.toNat 3) (s.size : Int).toNat).size : Int).toNat) = (bytesL s).drop 4 := ex31 s
theorem inB_drop {l : List Int} (h : InB l) (n : Nat) : InB (l.drop n) := fun x hx => h x (List.mem_of_mem_drop hx)
theorem row_step {l : List Int} (h : InB l) {k : Nat} (hk : k < l.length) : l.take k ++ [IntKind.i64.wrap (l.getD k 0)] = l.take (k + 1) := by
  have h1 := getD_inB h k
  rw [wrapI (by omega) (by omega), List.take_succ_eq_append_getElem hk]
  simp [List.getD_eq_getElem?_getD, hk]
theorem t_fill : TrKnown Try.prog tau 50 (inlT tau (mkCtx []) [] [] Try.f50) := inl_ok hmix tau_ok ctx_nil (by kernel_rfl) [] (by kernel_rfl) []
theorem t_fill2 : TrKnown Try.prog tau 62 (inlT tau (mkCtx [(63, sp_get)]) [] [] Try.f62) := inl_ok hmix tau_ok (ctx_cons k_get ctx_nil) (by kernel_rfl) [] (by kernel_rfl) []
theorem t_fill3 : TrKnown Try.prog tau 64 (inlT tau (mkCtx [(63, sp_get)]) [] [] Try.f64) := inl_ok hmix tau_ok (ctx_cons k_get ctx_nil) (by kernel_rfl) [] (by kernel_rfl) []
theorem t_fill4 : TrKnown Try.prog tau 65 (inlT tau (mkCtx []) [] [] Try.f65) := inl_ok hmix tau_ok ctx_nil (by kernel_rfl) [] (by kernel_rfl) []
theorem t_fill1 (L : List (Nat × Inv)) : TrKnown Try.prog tau 61 (inlT tau (mkCtx []) [] L Try.f61) := inl_ok hmix tau_ok ctx_nil (by kernel_rfl) [] (by kernel_rfl) L
set_option maxHeartbeats 4000000 in
theorem k_Get : Known Try.prog tau 23 (S1 dStr oGet) := by
  refine knownX1 hmix tau_ok (fn := Try.f23) (by kernel_rfl) [(3, [(0, 0), (1, 1), (2, 2), (3, 0), (4, 8), (5, 16), (6, 0), (7, 64), (8, 128), (9, 292), (10, 0), (11, 2047)]), (4, [(0, 0), (1, 1), (2, 2), (3, 0), (4, 8), (5, 20)])] (by kernel_rfl) _ _ fun s hfit hsz => ⟨rfl, _, ctx_tr t_fill (ctx_tr (t_fill1
    [(1, invX Nat [5, 10, 11, 12, 13, 14, 15, 16, 17, 18, 19, 20, 21, 22, 23, 24, 25] [10000022] (fun i => i ≤ (bytesL s).length - 4) (fun i => match i with
      | 0 => withS [(10, .int .i64 0)]
      | i + 1 => fun st => withS [(10, .int .i64 ((i + 1 : Nat) : Int))] (withBC 4 3 (.own 10000022) (withR [(10000022, .own (.ints (((bytesL s).drop 4).take (i + 1))))] st))) (fun i => (bytesL s).length - i))])
    (ctx_tr t_fill2 (ctx_tr t_fill3 (ctx_tr t_fill4 (ctx_cons k_Put ctx_nil))))), [], ?_⟩
  clear hfit
  (repeat' (first | ((with_reducible refine body_intro ?_); (first | refine seq_intro (fun Kv hN hX hR => ?_) | (conv => whnf))) | with_reducible refine Stop.mk ?_ | with_reducible refine seq_intro (fun Kv hN hX hR => ?_) | (with_reducible refine hN _ ?_; clear hN hX hR; clear Kv) | (with_reducible refine hX _ _ ?_; clear hN hX hR; clear Kv) | (with_reducible refine hR _ ?_; clear hN hX hR; clear Kv) | ((conv => whnf); first | with_reducible rfl | with_reducible exact True.intro | with_reducible refine (fun (_ : (_ : Prop)) => ?_) | with_reducible refine And.intro ?_ ?_ | (with_reducible refine hN _ ?_; clear hN hX hR; clear Kv) | (with_reducible refine hX _ _ ?_; clear hN hX hR; clear Kv) | (with_reducible refine hR _ ?_; clear hN hX hR; clear Kv) | with_reducible refine Stop.mk ?_))); all_goals (conv => whnf); all_goals (repeat (clear hN hX hR; clear Kv))
  all_goals first
    | (refine Ob.mk ?_
       have h0 : decide ((s.size : Int) ≤ 3) = false := by with_reducible assumption
       have h0 : ¬ (s.size : Int) ≤ 3 := of_decide_eq_false h0
       have e1 : (s.extract (Int.toNat 3) (s.size : Int).toNat).size = s.size - 3 := ex_size s 3
       have e2 : ((s.extract (Int.toNat 3) (s.size : Int).toNat).extract (Int.toNat 1) ((s.extract (Int.toNat 3) (s.size : Int).toNat).size : Int).toNat).size = s.size - 3 - 1 := by rw [← ex_size s 3]; exact ex_size (s.extract 3 s.size) 1
       omega)
    | (rw [get_short (by with_reducible assumption)] <;> rfl)
    | (rw [get_bad1 (qpm1 (by with_reducible assumption) (by with_reducible assumption)) (by with_reducible assumption)] <;> rfl)
    | (rw [get_bad2 (qpm1 (by with_reducible assumption) (by with_reducible assumption)) (by with_reducible assumption)] <;> rfl)
    | (rw [get_good (qpm1 (by with_reducible assumption) (by with_reducible assumption)) (by with_reducible assumption) (by with_reducible assumption) (by with_reducible assumption)] <;> rfl)
    | (rw [get_bad1 (qpm4 (by with_reducible assumption) (by with_reducible assumption) (by with_reducible assumption)) (by with_reducible assumption)] <;> rfl)
    | (rw [get_bad2 (qpm4 (by with_reducible assumption) (by with_reducible assumption) (by with_reducible assumption)) (by with_reducible assumption)] <;> rfl)
    | (rw [get_good (qpm4 (by with_reducible assumption) (by with_reducible assumption) (by with_reducible assumption)) (by with_reducible assumption) (by with_reducible assumption) (by with_reducible assumption)] <;> rfl)
    | (rw [get_bad1 (qpm3 (by with_reducible assumption) (by with_reducible assumption) (by with_reducible assumption) (by with_reducible assumption) (by with_reducible assumption)) (by with_reducible assumption)] <;> rfl)
    | (rw [get_bad2 (qpm3 (by with_reducible assumption) (by with_reducible assumption) (by with_reducible assumption) (by with_reducible assumption) (by with_reducible assumption)) (by with_reducible assumption)] <;> rfl)
    | (rw [get_good (qpm3 (by with_reducible assumption) (by with_reducible assumption) (by with_reducible assumption) (by with_reducible assumption) (by with_reducible assumption)) (by with_reducible assumption) (by with_reducible assumption) (by with_reducible assumption)] <;> rfl)
    | (rw [get_bad1 (qpm3' (by with_reducible assumption) (by with_reducible assumption) (by with_reducible assumption) (.inl (by with_reducible assumption))) (by with_reducible assumption)] <;> rfl)
    | (rw [get_bad2 (qpm3' (by with_reducible assumption) (by with_reducible assumption) (by with_reducible assumption) (.inl (by with_reducible assumption))) (by with_reducible assumption)] <;> rfl)
    | (rw [get_good (qpm3' (by with_reducible assumption) (by with_reducible assumption) (by with_reducible assumption) (.inl (by with_reducible assumption))) (by with_reducible assumption) (by with_reducible assumption) (by with_reducible assumption)] <;> rfl)
    | (rw [get_bad1 (qpm3' (by with_reducible assumption) (by with_reducible assumption) (by with_reducible assumption) (.inr (by with_reducible assumption))) (by with_reducible assumption)] <;> rfl)
    | (rw [get_bad2 (qpm3' (by with_reducible assumption) (by with_reducible assumption) (by with_reducible assumption) (.inr (by with_reducible assumption))) (by with_reducible assumption)] <;> rfl)
    | (rw [get_good (qpm3' (by with_reducible assumption) (by with_reducible assumption) (by with_reducible assumption) (.inr (by with_reducible assumption))) (by with_reducible assumption) (by with_reducible assumption) (by with_reducible assumption)] <;> rfl)
    | exact Ob.mk ⟨by omega, of_decide_eq_true (by with_reducible assumption)⟩
    | (refine ⟨0, by omega, ?_⟩
       (repeat' (first | ((with_reducible refine body_intro ?_); (first | refine seq_intro (fun Kv hN hX hR => ?_) | (conv => whnf))) | with_reducible refine Stop.mk ?_ | with_reducible refine seq_intro (fun Kv hN hX hR => ?_) | (with_reducible refine hN _ ?_; clear hN hX hR; clear Kv) | (with_reducible refine hX _ _ ?_; clear hN hX hR; clear Kv) | (with_reducible refine hR _ ?_; clear hN hX hR; clear Kv) | ((conv => whnf); first | with_reducible rfl | with_reducible exact True.intro | with_reducible intro _ | with_reducible refine And.intro ?_ ?_ | (with_reducible refine hN _ ?_; clear hN hX hR; clear Kv) | (with_reducible refine hX _ _ ?_; clear hN hX hR; clear Kv) | (with_reducible refine hR _ ?_; clear hN hX hR; clear Kv) | with_reducible refine Stop.mk ?_))); all_goals (conv => whnf); all_goals (repeat (clear hN hX hR; clear Kv))
       all_goals rfl)
    | skip
  all_goals
    intro i hi
    rcases i with _ | i
  all_goals
    have hExt := ex31' s
    have hB := inB_drop (inB_bytesL s) 4
    have hLen : ((bytesL s).drop 4).length = s.size - 4 := by rw [List.length_drop, bytesL_len]
    have hL := bytesL_len s
    (repeat' (first | ((with_reducible refine body_intro ?_); (first | refine seq_intro (fun Kv hN hX hR => ?_) | (conv => whnf))) | with_reducible refine Stop.mk ?_ | with_reducible refine seq_intro (fun Kv hN hX hR => ?_) | (with_reducible refine hN _ ?_; clear hN hX hR; clear Kv) | (with_reducible refine hX _ _ ?_; clear hN hX hR; clear Kv) | (with_reducible refine hR _ ?_; clear hN hX hR; clear Kv) | ((conv => whnf); first | with_reducible rfl | with_reducible exact True.intro | with_reducible intro _ | with_reducible refine And.intro ?_ ?_ | (with_reducible refine hN _ ?_; clear hN hX hR; clear Kv) | (with_reducible refine hX _ _ ?_; clear hN hX hR; clear Kv) | (with_reducible refine hR _ ?_; clear hN hX hR; clear Kv) | with_reducible refine Stop.mk ?_))); all_goals (conv => whnf); all_goals (repeat (clear hN hX hR; clear Kv))
  all_goals rw [hExt] at *
  all_goals first
    | (refine Ob.mk ⟨by omega, of_decide_eq_true (by with_reducible assumption)⟩
       done)
    | (refine Ob.mk ?_
       simp [Rw.len, Rw.bts, Rw.kd, kdBytes]
       try omega
       done)
    | (have h : decide (0 < ((((bytesL s).drop 4).length : Nat) : Int)) = false := by with_reducible assumption
       have h : ¬ 0 < ((((bytesL s).drop 4).length : Nat) : Int) := of_decide_eq_false h
       have hl : [] = (bytesL s).drop 4 := (List.eq_nil_of_length_eq_zero (by omega)).symm
       first
         | (rw [get_bad1 (qpm0 (by with_reducible assumption) hl) (by with_reducible assumption)] <;> rfl)
         | (rw [get_bad2 (qpm0 (by with_reducible assumption) hl) (by with_reducible assumption)] <;> rfl)
         | (rw [get_good (qpm0 (by with_reducible assumption) hl) (by with_reducible assumption) (by with_reducible assumption) (by with_reducible assumption)] <;> rfl))
    | (have h : decide ((((i + 1 : Nat) : Int)) < ((((bytesL s).drop 4).length : Nat) : Int)) = false := by with_reducible assumption
       have h : ¬ ((i + 1 : Nat) : Int) < ((((bytesL s).drop 4).length : Nat) : Int) := of_decide_eq_false h
       have hl : ((bytesL s).drop 4).take (i + 1) = (bytesL s).drop 4 := List.take_of_length_le (by omega)
       first
         | (rw [get_bad1 (qpm0 (by with_reducible assumption) hl) (by with_reducible assumption)] <;> rfl)
         | (rw [get_bad2 (qpm0 (by with_reducible assumption) hl) (by with_reducible assumption)] <;> rfl)
         | (rw [get_good (qpm0 (by with_reducible assumption) hl) (by with_reducible assumption) (by with_reducible assumption) (by with_reducible assumption)] <;> rfl))
    | (have h : decide (0 < ((((bytesL s).drop 4).length : Nat) : Int)) = true := by with_reducible assumption
       have h : 0 < ((((bytesL s).drop 4).length : Nat) : Int) := of_decide_eq_true h
       refine ⟨1, by omega, by show (bytesL s).length - 1 < (bytesL s).length - 0; omega, ?_⟩
       have hs := row_step hB (k := 0) (by omega)
       (repeat' (first | ((with_reducible refine body_intro ?_); (first | refine seq_intro (fun Kv hN hX hR => ?_) | (conv => whnf))) | with_reducible refine Stop.mk ?_ | with_reducible refine seq_intro (fun Kv hN hX hR => ?_) | (with_reducible refine hN _ ?_; clear hN hX hR; clear Kv) | (with_reducible refine hX _ _ ?_; clear hN hX hR; clear Kv) | (with_reducible refine hR _ ?_; clear hN hX hR; clear Kv) | ((conv => whnf); first | with_reducible rfl | with_reducible exact True.intro | with_reducible intro _ | with_reducible refine And.intro ?_ ?_ | (with_reducible refine hN _ ?_; clear hN hX hR; clear Kv) | (with_reducible refine hX _ _ ?_; clear hN hX hR; clear Kv) | (with_reducible refine hR _ ?_; clear hN hX hR; clear Kv) | with_reducible refine Stop.mk ?_))); all_goals (conv => whnf); all_goals (repeat (clear hN hX hR; clear Kv))
       all_goals first
         | rfl
         | exact congrArg Rw.ints hs)
    | (have h : decide ((((i + 1 : Nat) : Int)) < ((((bytesL s).drop 4).length : Nat) : Int)) = true := by with_reducible assumption
       have h : ((i + 1 : Nat) : Int) < ((((bytesL s).drop 4).length : Nat) : Int) := of_decide_eq_true h
       refine ⟨i + 1 + 1, by omega, by show (bytesL s).length - (i + 1 + 1) < (bytesL s).length - (i + 1); omega, ?_⟩
       have hs := row_step hB (k := i + 1) (by omega)
       (repeat' (first | ((with_reducible refine body_intro ?_); (first | refine seq_intro (fun Kv hN hX hR => ?_) | (conv => whnf))) | with_reducible refine Stop.mk ?_ | with_reducible refine seq_intro (fun Kv hN hX hR => ?_) | (with_reducible refine hN _ ?_; clear hN hX hR; clear Kv) | (with_reducible refine hX _ _ ?_; clear hN hX hR; clear Kv) | (with_reducible refine hR _ ?_; clear hN hX hR; clear Kv) | ((conv => whnf); first | with_reducible rfl | with_reducible exact True.intro | with_reducible intro _ | with_reducible refine And.intro ?_ ?_ | (with_reducible refine hN _ ?_; clear hN hX hR; clear Kv) | (with_reducible refine hX _ _ ?_; clear hN hX hR; clear Kv) | (with_reducible refine hR _ ?_; clear hN hX hR; clear Kv) | with_reducible refine Stop.mk ?_))); all_goals (conv => whnf); all_goals (repeat (clear hN hX hR; clear Kv))
       all_goals first
         | exact wrapI (by omega) (by omega)
         | exact congrArg Rw.ints hs
         | rfl)
end Go.Proofs.Ytmgccphapkmmeaa
