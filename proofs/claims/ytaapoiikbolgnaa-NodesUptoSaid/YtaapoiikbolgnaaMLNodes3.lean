/- A part of the proof of Nodes: F16d, F16e, F16f, F16g, F16h, F16i, F16j, SamePeers, SameItems, SameTolds, G16a, G16b, G16c, G16e, VLe, ClPeers, F11a, F11b, F11c, P11, F11d, G11a, VSp. -/
import Derived.Test.YtaapoiikbolgnaaMLNodes2
import Derived.Shelf.RegionOpenPlain
import Derived.Lib.Walk
import Derived.Lib.SliceRun
import Derived.Laws.AppendOwn
import Derived.Conc.AppendEvents2
import Derived.Lib.AppendZeros
import Derived.Below
/- Contracts: who is heard: the program's. -/
namespace Go.Proofs.Ytaapoiikbolgnaa
open Go.RowKit
set_option maxRecDepth 20000

/-- A struct of one number. -/
def dOrd : Dec Int := ⟨fun x => match x with
  | .agg [.int .i64 b] => some b
  | _ => none, fun b => .agg [.int .i64 b], fun x a h => by
    split at h <;> simp at h; subst h; rfl⟩
/-- A method's value, bound to a struct of one number. -/
def dBound (f : FuncId) : Dec Int := ⟨fun x => match x with
  | .clo g [.agg [.int .i64 b]] [] => match Nat.beq g f with
    | true => some b
    | false => none
  | _ => none, fun b => .clo f [.agg [.int .i64 b]] [], fun x a h => by
    split at h
    · split at h
      · rename_i hg; simp at h; subst h; rw [Nat.eq_of_beq_eq_true hg]
      · simp at h
    · simp at h⟩
/-- A view's place. -/
def dPView : Dec GView := ⟨fun x => match x with
  | .pt .any [.int .i64 id, .row .any (.peers p), .row .any (.ints q)] => some ⟨id, p, q⟩
  | _ => none, fun v => .pt .any [.int .i64 v.id, .row .any (.peers v.peers), .row .any (.ints v.passive)], fun x a h => by
    split at h <;> simp at h; subst h; rfl⟩
/-- A function that has a view's place. -/
def dFnView (f : FuncId) : Dec GView := ⟨fun x => match x with
  | .clo g [] [.pt .any [.int .i64 id, .row .any (.peers p), .row .any (.ints q)]] => match Nat.beq g f with
    | true => some ⟨id, p, q⟩
    | false => none
  | _ => none, fun v => .clo f [] [.pt .any [.int .i64 v.id, .row .any (.peers v.peers), .row .any (.ints v.passive)]], fun x a h => by
    split at h
    · split at h
      · rename_i hg; simp at h; subst h; rw [Nat.eq_of_beq_eq_true hg]
      · simp at h
    · simp at h⟩
theorem k_find : Known Try.prog tau 89 (S3 dOrd dPeer dInt fun b p x => .ok (.int .i64 (cmpI (farI b p.id) (farI b x))) []) := by
  refine known3 hmix tau_ok (ctx_cons k_Far (ctx_cons k_cmpCompare ctx_nil)) (fn := Try.f89) (by kernel_rfl) [(1, [(0, 0), (1, 1), (2, 0), (3, 4), (4, 10), (5, 0), (6, 32), (7, 0), (8, 208), (9, 272), (10, 1023)])] (by kernel_rfl) _ _ _ _ fun b p x hfit => ⟨rfl, [], ?_⟩
  (repeat' (first | ((with_reducible refine BdI ?_); (first | ((with_reducible refine SqI ?_ (fun Kv hN hX hR => ?_)); (next => exact rfl)) | ((with_reducible refine JnI ?_ ?_); (next => exact rfl)) | (conv => whnf))) | (with_reducible first | refine BdS (fun Kv hN hX hR => ?_) | refine Stop.mk ?_ | refine Join.mk ⟨fun Kv hN hX hR => ?_, ?_⟩ | apply DrawJ.join | exact SubJ.self _) | ((with_reducible refine SubJ.of ?_); (repeat' (first | with_reducible rfl | ((conv => whnf) <;> (first | with_reducible exact True.intro | with_reducible refine And.intro ?_ ?_ | with_reducible rfl | ((conv => rhs; whnf) <;> with_reducible rfl))))); done) | (with_reducible first | refine FlS (fun Kf hF => ?_) | refine FlN ?_ | refine NdS (fun Kg hG => ?_) | (refine hF _ _ ?_; clear hF; clear Kf) | (refine hG _ _ _ _ ?_; clear hG; clear Kg)) | ((with_reducible refine SqI ?_ (fun Kv hN hX hR => ?_)); (next => exact rfl)) | ((with_reducible refine JnI ?_ ?_); (next => exact rfl)) | ((with_reducible first | refine hN _ ?_ | refine hX _ _ ?_ | refine hR _ ?_); (try (clear hG; clear Kg)); clear hN hX hR; clear Kv) | ((conv => whnf); first | (with_reducible first | rfl | exact True.intro | intro _ | refine And.intro ?_ ?_) | ((with_reducible first | refine hN _ ?_ | refine hX _ _ ?_ | refine hR _ ?_); (try (clear hG; clear Kg)); clear hN hX hR; clear Kv) | (with_reducible first | refine BdS (fun Kv hN hX hR => ?_) | refine Stop.mk ?_ | refine Join.mk ⟨fun Kv hN hX hR => ?_, ?_⟩ | apply DrawJ.join | exact SubJ.self _) | ((with_reducible refine SubJ.of ?_); (repeat' (first | with_reducible rfl | ((conv => whnf) <;> (first | with_reducible exact True.intro | with_reducible refine And.intro ?_ ?_ | with_reducible rfl | ((conv => rhs; whnf) <;> with_reducible rfl))))); done) | (with_reducible first | refine FlS (fun Kf hF => ?_) | refine FlN ?_ | refine NdS (fun Kg hG => ?_) | (refine hF _ _ ?_; clear hF; clear Kf) | (refine hG _ _ _ _ ?_; clear hG; clear Kg))))); all_goals (conv => whnf); all_goals (repeat ((try (clear hG; clear Kg)); clear hN hX hR; clear Kv))
  all_goals first
    | rfl
    | trace_state
def RisingP (b : Int) (l : List GPeer) : Prop := ∀ s t, s < t → t < l.length → farI b (l.getD s default).id < farI b (l.getD t default).id
theorem risingP_lt {b : Int} {l : List GPeer} (hs : RisingP b l) {s t : Nat} (h : s ≤ t) (ht : t < l.length) : farI b (l.getD s default).id ≤ farI b (l.getD t default).id := by
  rcases Nat.lt_or_eq_of_le h with h | rfl
  · exact Int.le_of_lt (hs s t h ht)
  · exact Int.le_refl _
def cntP (b : Int) (l : List GPeer) (x : Int) : Int := ((l.countP fun p => decide (farI b p.id < farI b x) : Nat) : Int)
def hasP (b : Int) (l : List GPeer) (x : Int) : Bool := l.any fun p => decide (farI b p.id = farI b x)
theorem cmpI_lt (a b : Int) : decide (cmpI a b < 0) = decide (a < b) := by
  unfold cmpI
  split
  · simp [*]
  · split <;> simp <;> omega
theorem cmpI_eq (a b : Int) : decide (cmpI a b = 0) = decide (a = b) := by
  unfold cmpI
  split
  · simp; omega
  · split <;> simp <;> omega
theorem k_searchP : Known Try.prog tau 90 (S3 dPeers dInt (dBound 89) fun l x b => .ob (RisingP b l) (.tup [.int .i64 (cntP b l x), .bool (hasP b l x)]) []) := by
  refine known3 hmix tau_ok (ctx_cons k_find ctx_nil) (fn := Try.f90) (by kernel_rfl) [] (by kernel_rfl) _ _ _ _ fun l x b hfit hs => ⟨rfl,
    [(3, invX (Nat × Nat) [9, 10, 11, 15, 16, 17, 18, 19, 20, 21, 22, 23, 24, 25, 26, 27, 28, 29, 30, 31, 32, 33, 34] [] (fun g => g.1 ≤ g.2 ∧ g.2 ≤ l.length ∧ (∀ t, t < g.1 → farI b (l.getD t default).id < farI b x) ∧ ∀ t, g.2 ≤ t → t < l.length → farI b x ≤ farI b (l.getD t default).id) (fun g => withS [(9, .int .i64 g.1), (10, .int .i64 g.2)]) (fun g => g.2 - g.1))], ?_⟩
  have hlen : l.length * 16 ≤ 140737488355328 := hfit.1
  clear hfit
  (repeat' (first | ((with_reducible refine BdI ?_); (first | ((with_reducible refine SqI ?_ (fun Kv hN hX hR => ?_)); (next => exact rfl)) | ((with_reducible refine JnI ?_ ?_); (next => exact rfl)) | (conv => whnf))) | (with_reducible first | refine BdS (fun Kv hN hX hR => ?_) | refine Stop.mk ?_ | refine Join.mk ⟨fun Kv hN hX hR => ?_, ?_⟩ | refine DrawJ.each ?_ | exact SubJ.self _) | with_reducible refine SubJ.of ?_ | (with_reducible first | refine FlS (fun Kf hF => ?_) | refine FlN ?_ | refine NdS (fun Kg hG => ?_) | (refine hF _ _ ?_; clear hF; clear Kf) | (refine hG _ _ _ _ ?_; clear hG; clear Kg)) | ((with_reducible refine SqI ?_ (fun Kv hN hX hR => ?_)); (next => exact rfl)) | ((with_reducible refine JnI ?_ ?_); (next => exact rfl)) | ((with_reducible first | refine hN _ ?_ | refine hX _ _ ?_ | refine hR _ ?_); (try (clear hG; clear Kg)); clear hN hX hR; clear Kv) | ((conv => whnf); first | (with_reducible first | rfl | exact True.intro | refine (fun (_ : (_ : Prop)) => ?_) | refine And.intro ?_ ?_) | ((with_reducible first | refine hN _ ?_ | refine hX _ _ ?_ | refine hR _ ?_); (try (clear hG; clear Kg)); clear hN hX hR; clear Kv) | (with_reducible first | refine BdS (fun Kv hN hX hR => ?_) | refine Stop.mk ?_ | refine Join.mk ⟨fun Kv hN hX hR => ?_, ?_⟩ | refine DrawJ.each ?_ | exact SubJ.self _) | with_reducible refine SubJ.of ?_ | (with_reducible first | refine FlS (fun Kf hF => ?_) | refine FlN ?_ | refine NdS (fun Kg hG => ?_) | (refine hF _ _ ?_; clear hF; clear Kf) | (refine hG _ _ _ _ ?_; clear hG; clear Kg))))); all_goals (conv => whnf); all_goals (repeat ((try (clear hG; clear Kg)); clear hN hX hR; clear Kv))
  all_goals first
    | (refine ⟨(0, l.length), ⟨Nat.zero_le _, Nat.le_refl _, by intros; omega, by intros; omega⟩, ?_⟩
       (repeat' (first | ((with_reducible refine BdI ?_); (first | ((with_reducible refine SqI ?_ (fun Kv hN hX hR => ?_)); (next => exact rfl)) | ((with_reducible refine JnI ?_ ?_); (next => exact rfl)) | (conv => whnf))) | (with_reducible first | refine BdS (fun Kv hN hX hR => ?_) | refine Stop.mk ?_ | refine Join.mk ⟨fun Kv hN hX hR => ?_, ?_⟩ | refine DrawJ.each ?_ | exact SubJ.self _) | with_reducible refine SubJ.of ?_ | (with_reducible first | refine FlS (fun Kf hF => ?_) | refine FlN ?_ | refine NdS (fun Kg hG => ?_) | (refine hF _ _ ?_; clear hF; clear Kf) | (refine hG _ _ _ _ ?_; clear hG; clear Kg)) | ((with_reducible refine SqI ?_ (fun Kv hN hX hR => ?_)); (next => exact rfl)) | ((with_reducible refine JnI ?_ ?_); (next => exact rfl)) | ((with_reducible first | refine hN _ ?_ | refine hX _ _ ?_ | refine hR _ ?_); (try (clear hG; clear Kg)); clear hN hX hR; clear Kv) | ((conv => whnf); first | (with_reducible first | rfl | exact True.intro | intro _ | refine And.intro ?_ ?_) | ((with_reducible first | refine hN _ ?_ | refine hX _ _ ?_ | refine hR _ ?_); (try (clear hG; clear Kg)); clear hN hX hR; clear Kv) | (with_reducible first | refine BdS (fun Kv hN hX hR => ?_) | refine Stop.mk ?_ | refine Join.mk ⟨fun Kv hN hX hR => ?_, ?_⟩ | refine DrawJ.each ?_ | exact SubJ.self _) | with_reducible refine SubJ.of ?_ | (with_reducible first | refine FlS (fun Kf hF => ?_) | refine FlN ?_ | refine NdS (fun Kg hG => ?_) | (refine hF _ _ ?_; clear hF; clear Kf) | (refine hG _ _ _ _ ?_; clear hG; clear Kg))))); all_goals (conv => whnf); all_goals (repeat ((try (clear hG; clear Kg)); clear hN hX hR; clear Kv))
       all_goals rfl)
    | (rintro ⟨i, j⟩ ⟨hij, hj, h1, h2⟩
       dsimp only at hij hj h1 h2
       (repeat' (first | ((with_reducible refine BdI ?_); (first | ((with_reducible refine SqI ?_ (fun Kv hN hX hR => ?_)); (next => exact rfl)) | ((with_reducible refine JnI ?_ ?_); (next => exact rfl)) | (conv => whnf))) | (with_reducible first | refine BdS (fun Kv hN hX hR => ?_) | refine Stop.mk ?_ | refine Join.mk ⟨fun Kv hN hX hR => ?_, ?_⟩ | refine DrawJ.each ?_ | exact SubJ.self _) | with_reducible refine SubJ.of ?_ | (with_reducible first | refine FlS (fun Kf hF => ?_) | refine FlN ?_ | refine NdS (fun Kg hG => ?_) | (refine hF _ _ ?_; clear hF; clear Kf) | (refine hG _ _ _ _ ?_; clear hG; clear Kg)) | ((with_reducible refine SqI ?_ (fun Kv hN hX hR => ?_)); (next => exact rfl)) | ((with_reducible refine JnI ?_ ?_); (next => exact rfl)) | ((with_reducible first | refine hN _ ?_ | refine hX _ _ ?_ | refine hR _ ?_); (try (clear hG; clear Kg)); clear hN hX hR; clear Kv) | ((conv => whnf); first | (with_reducible first | rfl | exact True.intro | intro _ | refine And.intro ?_ ?_) | ((with_reducible first | refine hN _ ?_ | refine hX _ _ ?_ | refine hR _ ?_); (try (clear hG; clear Kg)); clear hN hX hR; clear Kv) | (with_reducible first | refine BdS (fun Kv hN hX hR => ?_) | refine Stop.mk ?_ | refine Join.mk ⟨fun Kv hN hX hR => ?_, ?_⟩ | refine DrawJ.each ?_ | exact SubJ.self _) | with_reducible refine SubJ.of ?_ | (with_reducible first | refine FlS (fun Kf hF => ?_) | refine FlN ?_ | refine NdS (fun Kg hG => ?_) | (refine hF _ _ ?_; clear hF; clear Kf) | (refine hG _ _ _ _ ?_; clear hG; clear Kg))))); all_goals (conv => whnf); all_goals (repeat ((try (clear hG; clear Kg)); clear hN hX hR; clear Kv))
       all_goals (try dsimp only at *)
       all_goals (try simp only [cmpI_lt, cmpI_eq] at *)
       all_goals first
         | (refine Ob.mk ?_; decide)
         | (have hlt := of_decide_eq_true (show decide ((i : Int) < (j : Int)) = true by with_reducible assumption)
            obtain ⟨h, eh, h3, h4⟩ := mid_ok (i := i) (j := j) (n := l.length) (by omega) hj (by omega)
            simp only [eh, Int.toNat_natCast] at *
            first
              | exact Ob.mk ⟨by omega, by omega⟩
              | (have hc := of_decide_eq_true (show decide (farI b (l.getD h default).id < farI b x) = true by with_reducible assumption)
                 refine ⟨(h + 1, j), ⟨by omega, hj, fun t ht => ?_, h2⟩, by show j - (h + 1) < j - i; omega, ?_⟩
                 · have := risingP_lt hs (s := t) (t := h) (by omega) (by omega)
                   omega
                 · have e1 := wrap_up (h := h) (n := l.length) (by omega) (by omega)
                   (repeat' (first | ((with_reducible refine BdI ?_); (first | ((with_reducible refine SqI ?_ (fun Kv hN hX hR => ?_)); (next => exact rfl)) | ((with_reducible refine JnI ?_ ?_); (next => exact rfl)) | (conv => whnf))) | (with_reducible first | refine BdS (fun Kv hN hX hR => ?_) | refine Stop.mk ?_ | refine Join.mk ⟨fun Kv hN hX hR => ?_, ?_⟩ | refine DrawJ.each ?_ | exact SubJ.self _) | with_reducible refine SubJ.of ?_ | (with_reducible first | refine FlS (fun Kf hF => ?_) | refine FlN ?_ | refine NdS (fun Kg hG => ?_) | (refine hF _ _ ?_; clear hF; clear Kf) | (refine hG _ _ _ _ ?_; clear hG; clear Kg)) | ((with_reducible refine SqI ?_ (fun Kv hN hX hR => ?_)); (next => exact rfl)) | ((with_reducible refine JnI ?_ ?_); (next => exact rfl)) | ((with_reducible first | refine hN _ ?_ | refine hX _ _ ?_ | refine hR _ ?_); (try (clear hG; clear Kg)); clear hN hX hR; clear Kv) | ((conv => whnf); first | (with_reducible first | rfl | exact True.intro | intro _ | refine And.intro ?_ ?_) | ((with_reducible first | refine hN _ ?_ | refine hX _ _ ?_ | refine hR _ ?_); (try (clear hG; clear Kg)); clear hN hX hR; clear Kv) | (with_reducible first | refine BdS (fun Kv hN hX hR => ?_) | refine Stop.mk ?_ | refine Join.mk ⟨fun Kv hN hX hR => ?_, ?_⟩ | refine DrawJ.each ?_ | exact SubJ.self _) | with_reducible refine SubJ.of ?_ | (with_reducible first | refine FlS (fun Kf hF => ?_) | refine FlN ?_ | refine NdS (fun Kg hG => ?_) | (refine hF _ _ ?_; clear hF; clear Kf) | (refine hG _ _ _ _ ?_; clear hG; clear Kg))))); all_goals (conv => whnf); all_goals (repeat ((try (clear hG; clear Kg)); clear hN hX hR; clear Kv))
                   all_goals first
                     | exact e1
                     | rfl)
              | (have hc := of_decide_eq_false (show decide (farI b (l.getD h default).id < farI b x) = false by with_reducible assumption)
                 refine ⟨(i, h), ⟨by omega, by omega, h1, fun t ht ht2 => ?_⟩, by show h - i < j - i; omega, ?_⟩
                 · have := risingP_lt hs (s := h) (t := t) ht ht2
                   omega
                 · (repeat' (first | ((with_reducible refine BdI ?_); (first | ((with_reducible refine SqI ?_ (fun Kv hN hX hR => ?_)); (next => exact rfl)) | ((with_reducible refine JnI ?_ ?_); (next => exact rfl)) | (conv => whnf))) | (with_reducible first | refine BdS (fun Kv hN hX hR => ?_) | refine Stop.mk ?_ | refine Join.mk ⟨fun Kv hN hX hR => ?_, ?_⟩ | refine DrawJ.each ?_ | exact SubJ.self _) | with_reducible refine SubJ.of ?_ | (with_reducible first | refine FlS (fun Kf hF => ?_) | refine FlN ?_ | refine NdS (fun Kg hG => ?_) | (refine hF _ _ ?_; clear hF; clear Kf) | (refine hG _ _ _ _ ?_; clear hG; clear Kg)) | ((with_reducible refine SqI ?_ (fun Kv hN hX hR => ?_)); (next => exact rfl)) | ((with_reducible refine JnI ?_ ?_); (next => exact rfl)) | ((with_reducible first | refine hN _ ?_ | refine hX _ _ ?_ | refine hR _ ?_); (try (clear hG; clear Kg)); clear hN hX hR; clear Kv) | ((conv => whnf); first | (with_reducible first | rfl | exact True.intro | intro _ | refine And.intro ?_ ?_) | ((with_reducible first | refine hN _ ?_ | refine hX _ _ ?_ | refine hR _ ?_); (try (clear hG; clear Kg)); clear hN hX hR; clear Kv) | (with_reducible first | refine BdS (fun Kv hN hX hR => ?_) | refine Stop.mk ?_ | refine Join.mk ⟨fun Kv hN hX hR => ?_, ?_⟩ | refine DrawJ.each ?_ | exact SubJ.self _) | with_reducible refine SubJ.of ?_ | (with_reducible first | refine FlS (fun Kf hF => ?_) | refine FlN ?_ | refine NdS (fun Kg hG => ?_) | (refine hF _ _ ?_; clear hF; clear Kf) | (refine hG _ _ _ _ ?_; clear hG; clear Kg))))); all_goals (conv => whnf); all_goals (repeat ((try (clear hG; clear Kg)); clear hN hX hR; clear Kv))
                   all_goals rfl))
         | (have hge := of_decide_eq_false (show decide ((i : Int) < (j : Int)) = false by with_reducible assumption)
            obtain rfl : i = j := by omega
            have e1 : cntP b l x = (i : Int) := congrArg Int.ofNat (search_end (d := default) (κ := fun p : GPeer => farI b p.id) (K := farI b x) hj h1 h2)
            have e2 : hasP b l x = (decide (i < l.length) && decide (farI b (l.getD i default).id = farI b x)) := search_there (d := default) (κ := fun p : GPeer => farI b p.id) hs h1 h2
            (try simp only [Int.toNat_natCast] at *)
            first
              | exact Ob.mk ⟨by omega, of_decide_eq_true (by with_reducible assumption)⟩
              | exact e1.symm
              | (have a1 := of_decide_eq_true (show decide ((i : Int) < (l.length : Nat)) = true by with_reducible assumption)
                 rw [e2, decide_eq_true (show i < l.length by omega), Bool.true_and]
                 done)
              | (have a2 := of_decide_eq_true (show decide (farI b (l.getD i default).id = farI b x) = true by with_reducible assumption)
                 have a1 := of_decide_eq_true (show decide ((i : Int) < (l.length : Nat)) = true by with_reducible assumption)
                 rw [e2, decide_eq_true a2, decide_eq_true (show i < l.length by omega)]
                 rfl)
              | (have a2 := of_decide_eq_false (show decide (farI b (l.getD i default).id = farI b x) = false by with_reducible assumption)
                 rw [e2, decide_eq_false a2, Bool.and_false])
              | (have a1 := of_decide_eq_false (show decide ((i : Int) < (l.length : Nat)) = false by with_reducible assumption)
                 rw [e2, decide_eq_false (show ¬ i < l.length by omega), Bool.false_and]))
         | trace_state)
    | trace_state
theorem k_Find : Known Try.prog tau 82 (S3 dInt dPeers dInt fun b l x => .ob (RisingP b l) (.tup [.int .i64 (cntP b l x), .bool (hasP b l x)]) []) := by
  refine known3 hmix tau_ok (ctx_cons k_find (ctx_cons k_searchP ctx_nil)) (fn := Try.f82) (by kernel_rfl) [] (by kernel_rfl) _ _ _ _ fun b l x hfit hs => ⟨rfl, [], ?_⟩
  clear hfit
  (repeat' (first | ((with_reducible refine BdI ?_); (first | ((with_reducible refine SqI ?_ (fun Kv hN hX hR => ?_)); (next => exact rfl)) | ((with_reducible refine JnI ?_ ?_); (next => exact rfl)) | (conv => whnf))) | (with_reducible first | refine BdS (fun Kv hN hX hR => ?_) | refine Stop.mk ?_ | refine Join.mk ⟨fun Kv hN hX hR => ?_, ?_⟩ | refine DrawJ.each ?_ | exact SubJ.self _) | with_reducible refine SubJ.of ?_ | (with_reducible first | refine FlS (fun Kf hF => ?_) | refine FlN ?_ | refine NdS (fun Kg hG => ?_) | (refine hF _ _ ?_; clear hF; clear Kf) | (refine hG _ _ _ _ ?_; clear hG; clear Kg)) | ((with_reducible refine SqI ?_ (fun Kv hN hX hR => ?_)); (next => exact rfl)) | ((with_reducible refine JnI ?_ ?_); (next => exact rfl)) | ((with_reducible first | refine hN _ ?_ | refine hX _ _ ?_ | refine hR _ ?_); (try (clear hG; clear Kg)); clear hN hX hR; clear Kv) | ((conv => whnf); first | (with_reducible first | rfl | exact True.intro | intro _ | refine And.intro ?_ ?_) | ((with_reducible first | refine hN _ ?_ | refine hX _ _ ?_ | refine hR _ ?_); (try (clear hG; clear Kg)); clear hN hX hR; clear Kv) | (with_reducible first | refine BdS (fun Kv hN hX hR => ?_) | refine Stop.mk ?_ | refine Join.mk ⟨fun Kv hN hX hR => ?_, ?_⟩ | refine DrawJ.each ?_ | exact SubJ.self _) | with_reducible refine SubJ.of ?_ | (with_reducible first | refine FlS (fun Kf hF => ?_) | refine FlN ?_ | refine NdS (fun Kg hG => ?_) | (refine hF _ _ ?_; clear hF; clear Kf) | (refine hG _ _ _ _ ?_; clear hG; clear Kg))))); all_goals (conv => whnf); all_goals (repeat ((try (clear hG; clear Kg)); clear hN hX hR; clear Kv))
  all_goals first
    | exact Ob.mk hs
    | rfl
    | trace_state
theorem k_viewPeer : Known Try.prog tau 67 (S2 dPView dInt fun v x => .ob (RisingP v.id v.peers) (.bool (hasP v.id v.peers x)) []) := by
  refine known2 hmix tau_ok (ctx_cons k_Find ctx_nil) (fn := Try.f67) (by kernel_rfl) [(1, [(0, 0), (1, 1), (2, 2), (3, 4), (4, 0), (5, 16), (6, 32), (7, 64), (8, 0), (9, 392), (10, 512), (11, 1024), (12, 1024), (13, 4095), (14, 16383)])] (by kernel_rfl) _ _ _ fun v x hfit hs => ⟨rfl, [], ?_⟩
  clear hfit
  (repeat' (first | ((with_reducible refine BdI ?_); (first | ((with_reducible refine SqI ?_ (fun Kv hN hX hR => ?_)); (next => exact rfl)) | ((with_reducible refine JnI ?_ ?_); (next => exact rfl)) | (conv => whnf))) | (with_reducible first | refine BdS (fun Kv hN hX hR => ?_) | refine Stop.mk ?_ | refine Join.mk ⟨fun Kv hN hX hR => ?_, ?_⟩ | apply DrawJ.join | exact SubJ.self _) | ((with_reducible refine SubJ.of ?_); (repeat' (first | with_reducible rfl | ((conv => whnf) <;> (first | with_reducible exact True.intro | with_reducible refine And.intro ?_ ?_ | with_reducible rfl | ((conv => rhs; whnf) <;> with_reducible rfl))))); done) | (with_reducible first | refine FlS (fun Kf hF => ?_) | refine FlN ?_ | refine NdS (fun Kg hG => ?_) | (refine hF _ _ ?_; clear hF; clear Kf) | (refine hG _ _ _ _ ?_; clear hG; clear Kg)) | ((with_reducible refine SqI ?_ (fun Kv hN hX hR => ?_)); (next => exact rfl)) | ((with_reducible refine JnI ?_ ?_); (next => exact rfl)) | ((with_reducible first | refine hN _ ?_ | refine hX _ _ ?_ | refine hR _ ?_); (try (clear hG; clear Kg)); clear hN hX hR; clear Kv) | ((conv => whnf); first | (with_reducible first | rfl | exact True.intro | intro _ | refine And.intro ?_ ?_) | ((with_reducible first | refine hN _ ?_ | refine hX _ _ ?_ | refine hR _ ?_); (try (clear hG; clear Kg)); clear hN hX hR; clear Kv) | (with_reducible first | refine BdS (fun Kv hN hX hR => ?_) | refine Stop.mk ?_ | refine Join.mk ⟨fun Kv hN hX hR => ?_, ?_⟩ | apply DrawJ.join | exact SubJ.self _) | ((with_reducible refine SubJ.of ?_); (repeat' (first | with_reducible rfl | ((conv => whnf) <;> (first | with_reducible exact True.intro | with_reducible refine And.intro ?_ ?_ | with_reducible rfl | ((conv => rhs; whnf) <;> with_reducible rfl))))); done) | (with_reducible first | refine FlS (fun Kf hF => ?_) | refine FlN ?_ | refine NdS (fun Kg hG => ?_) | (refine hF _ _ ?_; clear hF; clear Kf) | (refine hG _ _ _ _ ?_; clear hG; clear Kg))))); all_goals (conv => whnf); all_goals (repeat ((try (clear hG; clear Kg)); clear hN hX hR; clear Kv))
  all_goals first
    | exact Ob.mk hs
    | rfl
    | trace_state
def oddV (v : GView) (x : Int) : Bool := decide (x = v.id) || hasP v.id v.peers x
theorem k_vMay1 : Known Try.prog tau 66 (S2 dInt dPView fun x v => .ob (RisingP v.id v.peers) (.bool (oddV v x)) []) := by
  refine known2 hmix tau_ok (ctx_cons k_viewPeer ctx_nil) (fn := Try.f66) (by kernel_rfl) [] (by kernel_rfl) _ _ _ fun x v hfit hs => ⟨rfl, [], ?_⟩
  clear hfit
  (repeat' (first | ((with_reducible refine BdI ?_); (first | ((with_reducible refine SqI ?_ (fun Kv hN hX hR => ?_)); (next => exact rfl)) | ((with_reducible refine JnI ?_ ?_); (next => exact rfl)) | (conv => whnf))) | (with_reducible first | refine BdS (fun Kv hN hX hR => ?_) | refine Stop.mk ?_ | refine Join.mk ⟨fun Kv hN hX hR => ?_, ?_⟩ | refine DrawJ.each ?_ | exact SubJ.self _) | with_reducible refine SubJ.of ?_ | (with_reducible first | refine FlS (fun Kf hF => ?_) | refine FlN ?_ | refine NdS (fun Kg hG => ?_) | (refine hF _ _ ?_; clear hF; clear Kf) | (refine hG _ _ _ _ ?_; clear hG; clear Kg)) | ((with_reducible refine SqI ?_ (fun Kv hN hX hR => ?_)); (next => exact rfl)) | ((with_reducible refine JnI ?_ ?_); (next => exact rfl)) | ((with_reducible first | refine hN _ ?_ | refine hX _ _ ?_ | refine hR _ ?_); (try (clear hG; clear Kg)); clear hN hX hR; clear Kv) | ((conv => whnf); first | (with_reducible first | rfl | exact True.intro | intro _ | refine And.intro ?_ ?_) | ((with_reducible first | refine hN _ ?_ | refine hX _ _ ?_ | refine hR _ ?_); (try (clear hG; clear Kg)); clear hN hX hR; clear Kv) | (with_reducible first | refine BdS (fun Kv hN hX hR => ?_) | refine Stop.mk ?_ | refine Join.mk ⟨fun Kv hN hX hR => ?_, ?_⟩ | refine DrawJ.each ?_ | exact SubJ.self _) | with_reducible refine SubJ.of ?_ | (with_reducible first | refine FlS (fun Kf hF => ?_) | refine FlN ?_ | refine NdS (fun Kg hG => ?_) | (refine hF _ _ ?_; clear hF; clear Kf) | (refine hG _ _ _ _ ?_; clear hG; clear Kg))))); all_goals (conv => whnf); all_goals (repeat ((try (clear hG; clear Kg)); clear hN hX hR; clear Kv))
  all_goals first
    | exact Ob.mk hs
    | (simp_all [oddV]; done)
    | trace_state

theorem k_vIndex : Known Try.prog tau 83 (S2 dInts (dFnView 66) fun l v => .ob (RisingP v.id v.peers) (.int .i64 (idxI (oddV v) l)) []) := by
  refine known2 hmix tau_ok (ctx_cons k_vMay1 ctx_nil) (fn := Try.f83) (by kernel_rfl) [] (by kernel_rfl) _ _ _ fun xs v hfit hs => ⟨rfl,
    [(2, invN [4, 5, 8, 9, 10, 11, 12, 13, 14, 15, 16, 17, 18] (fun i => i ≤ xs.length ∧ ∀ x ∈ xs.take i, oddV v x = false) (fun i => withS [(8, .int .i64 i)]) (fun i => xs.length - i))], ?_⟩
  have hlen : xs.length * 8 ≤ 140737488355328 := hfit.1
  clear hfit
  (repeat' (first | ((with_reducible refine BdI ?_); (first | ((with_reducible refine SqI ?_ (fun Kv hN hX hR => ?_)); (next => exact rfl)) | ((with_reducible refine JnI ?_ ?_); (next => exact rfl)) | (conv => whnf))) | (with_reducible first | refine BdS (fun Kv hN hX hR => ?_) | refine Stop.mk ?_ | refine Join.mk ⟨fun Kv hN hX hR => ?_, ?_⟩ | refine DrawJ.each ?_ | exact SubJ.self _) | with_reducible refine SubJ.of ?_ | (with_reducible first | refine FlS (fun Kf hF => ?_) | refine FlN ?_ | refine NdS (fun Kg hG => ?_) | (refine hF _ _ ?_; clear hF; clear Kf) | (refine hG _ _ _ _ ?_; clear hG; clear Kg)) | ((with_reducible refine SqI ?_ (fun Kv hN hX hR => ?_)); (next => exact rfl)) | ((with_reducible refine JnI ?_ ?_); (next => exact rfl)) | ((with_reducible first | refine hN _ ?_ | refine hX _ _ ?_ | refine hR _ ?_); (try (clear hG; clear Kg)); clear hN hX hR; clear Kv) | ((conv => whnf); first | (with_reducible first | rfl | exact True.intro | refine (fun (_ : (_ : Prop)) => ?_) | refine And.intro ?_ ?_) | ((with_reducible first | refine hN _ ?_ | refine hX _ _ ?_ | refine hR _ ?_); (try (clear hG; clear Kg)); clear hN hX hR; clear Kv) | (with_reducible first | refine BdS (fun Kv hN hX hR => ?_) | refine Stop.mk ?_ | refine Join.mk ⟨fun Kv hN hX hR => ?_, ?_⟩ | refine DrawJ.each ?_ | exact SubJ.self _) | with_reducible refine SubJ.of ?_ | (with_reducible first | refine FlS (fun Kf hF => ?_) | refine FlN ?_ | refine NdS (fun Kg hG => ?_) | (refine hF _ _ ?_; clear hF; clear Kf) | (refine hG _ _ _ _ ?_; clear hG; clear Kg))))); all_goals (conv => whnf); all_goals (repeat ((try (clear hG; clear Kg)); clear hN hX hR; clear Kv))
  all_goals first
    | (refine ⟨0, ⟨by omega, by simp⟩, ?_⟩
       (repeat' (first | ((with_reducible refine BdI ?_); (first | ((with_reducible refine SqI ?_ (fun Kv hN hX hR => ?_)); (next => exact rfl)) | ((with_reducible refine JnI ?_ ?_); (next => exact rfl)) | (conv => whnf))) | (with_reducible first | refine BdS (fun Kv hN hX hR => ?_) | refine Stop.mk ?_ | refine Join.mk ⟨fun Kv hN hX hR => ?_, ?_⟩ | refine DrawJ.each ?_ | exact SubJ.self _) | with_reducible refine SubJ.of ?_ | (with_reducible first | refine FlS (fun Kf hF => ?_) | refine FlN ?_ | refine NdS (fun Kg hG => ?_) | (refine hF _ _ ?_; clear hF; clear Kf) | (refine hG _ _ _ _ ?_; clear hG; clear Kg)) | ((with_reducible refine SqI ?_ (fun Kv hN hX hR => ?_)); (next => exact rfl)) | ((with_reducible refine JnI ?_ ?_); (next => exact rfl)) | ((with_reducible first | refine hN _ ?_ | refine hX _ _ ?_ | refine hR _ ?_); (try (clear hG; clear Kg)); clear hN hX hR; clear Kv) | ((conv => whnf); first | (with_reducible first | rfl | exact True.intro | intro _ | refine And.intro ?_ ?_) | ((with_reducible first | refine hN _ ?_ | refine hX _ _ ?_ | refine hR _ ?_); (try (clear hG; clear Kg)); clear hN hX hR; clear Kv) | (with_reducible first | refine BdS (fun Kv hN hX hR => ?_) | refine Stop.mk ?_ | refine Join.mk ⟨fun Kv hN hX hR => ?_, ?_⟩ | refine DrawJ.each ?_ | exact SubJ.self _) | with_reducible refine SubJ.of ?_ | (with_reducible first | refine FlS (fun Kf hF => ?_) | refine FlN ?_ | refine NdS (fun Kg hG => ?_) | (refine hF _ _ ?_; clear hF; clear Kf) | (refine hG _ _ _ _ ?_; clear hG; clear Kg))))); all_goals (conv => whnf); all_goals (repeat ((try (clear hG; clear Kg)); clear hN hX hR; clear Kv))
       all_goals rfl)
    | (with_reducible intro i hi
       (repeat' (first | ((with_reducible refine BdI ?_); (first | ((with_reducible refine SqI ?_ (fun Kv hN hX hR => ?_)); (next => exact rfl)) | ((with_reducible refine JnI ?_ ?_); (next => exact rfl)) | (conv => whnf))) | (with_reducible first | refine BdS (fun Kv hN hX hR => ?_) | refine Stop.mk ?_ | refine Join.mk ⟨fun Kv hN hX hR => ?_, ?_⟩ | refine DrawJ.each ?_ | exact SubJ.self _) | with_reducible refine SubJ.of ?_ | (with_reducible first | refine FlS (fun Kf hF => ?_) | refine FlN ?_ | refine NdS (fun Kg hG => ?_) | (refine hF _ _ ?_; clear hF; clear Kf) | (refine hG _ _ _ _ ?_; clear hG; clear Kg)) | ((with_reducible refine SqI ?_ (fun Kv hN hX hR => ?_)); (next => exact rfl)) | ((with_reducible refine JnI ?_ ?_); (next => exact rfl)) | ((with_reducible first | refine hN _ ?_ | refine hX _ _ ?_ | refine hR _ ?_); (try (clear hG; clear Kg)); clear hN hX hR; clear Kv) | ((conv => whnf); first | (with_reducible first | rfl | exact True.intro | intro _ | refine And.intro ?_ ?_) | ((with_reducible first | refine hN _ ?_ | refine hX _ _ ?_ | refine hR _ ?_); (try (clear hG; clear Kg)); clear hN hX hR; clear Kv) | (with_reducible first | refine BdS (fun Kv hN hX hR => ?_) | refine Stop.mk ?_ | refine Join.mk ⟨fun Kv hN hX hR => ?_, ?_⟩ | refine DrawJ.each ?_ | exact SubJ.self _) | with_reducible refine SubJ.of ?_ | (with_reducible first | refine FlS (fun Kf hF => ?_) | refine FlN ?_ | refine NdS (fun Kg hG => ?_) | (refine hF _ _ ?_; clear hF; clear Kf) | (refine hG _ _ _ _ ?_; clear hG; clear Kg))))); all_goals (conv => whnf); all_goals (repeat ((try (clear hG; clear Kg)); clear hN hX hR; clear Kv))
       all_goals (try simp only [Int.toNat_natCast] at *)
       all_goals first
         | exact Ob.mk ⟨by omega, of_decide_eq_true (by with_reducible assumption)⟩
         | exact Ob.mk hs
         | (have h := of_decide_eq_true (show decide ((i : Int) < (xs.length : Nat)) = true by with_reducible assumption)
            exact (idxI_at (d := 0) (by omega) hi.2 (by with_reducible assumption)).symm)
         | (have h := of_decide_eq_true (show decide ((i : Int) < (xs.length : Nat)) = true by with_reducible assumption)
            refine ⟨i + 1, ⟨by omega, all_take_succ (d := 0) (by omega) hi.2 (by with_reducible assumption)⟩, by show xs.length - (i + 1) < xs.length - i; omega, ?_⟩
            (repeat' (first | ((with_reducible refine BdI ?_); (first | ((with_reducible refine SqI ?_ (fun Kv hN hX hR => ?_)); (next => exact rfl)) | ((with_reducible refine JnI ?_ ?_); (next => exact rfl)) | (conv => whnf))) | (with_reducible first | refine BdS (fun Kv hN hX hR => ?_) | refine Stop.mk ?_ | refine Join.mk ⟨fun Kv hN hX hR => ?_, ?_⟩ | refine DrawJ.each ?_ | exact SubJ.self _) | with_reducible refine SubJ.of ?_ | (with_reducible first | refine FlS (fun Kf hF => ?_) | refine FlN ?_ | refine NdS (fun Kg hG => ?_) | (refine hF _ _ ?_; clear hF; clear Kf) | (refine hG _ _ _ _ ?_; clear hG; clear Kg)) | ((with_reducible refine SqI ?_ (fun Kv hN hX hR => ?_)); (next => exact rfl)) | ((with_reducible refine JnI ?_ ?_); (next => exact rfl)) | ((with_reducible first | refine hN _ ?_ | refine hX _ _ ?_ | refine hR _ ?_); (try (clear hG; clear Kg)); clear hN hX hR; clear Kv) | ((conv => whnf); first | (with_reducible first | rfl | exact True.intro | intro _ | refine And.intro ?_ ?_) | ((with_reducible first | refine hN _ ?_ | refine hX _ _ ?_ | refine hR _ ?_); (try (clear hG; clear Kg)); clear hN hX hR; clear Kv) | (with_reducible first | refine BdS (fun Kv hN hX hR => ?_) | refine Stop.mk ?_ | refine Join.mk ⟨fun Kv hN hX hR => ?_, ?_⟩ | refine DrawJ.each ?_ | exact SubJ.self _) | with_reducible refine SubJ.of ?_ | (with_reducible first | refine FlS (fun Kf hF => ?_) | refine FlN ?_ | refine NdS (fun Kg hG => ?_) | (refine hF _ _ ?_; clear hF; clear Kf) | (refine hG _ _ _ _ ?_; clear hG; clear Kg))))); all_goals (conv => whnf); all_goals (repeat ((try (clear hG; clear Kg)); clear hN hX hR; clear Kv))
            all_goals first
              | exact wrapI (by omega) (by omega)
              | rfl)
         | (have h := of_decide_eq_false (show decide ((i : Int) < (xs.length : Nat)) = false by with_reducible assumption)
            have h2 := hi.2
            rw [List.take_of_length_le (by omega)] at h2
            exact (idxI_none h2).symm)
         | trace_state)
    | trace_state
theorem k_vContains : Known Try.prog tau 68 (S2 dInts (dFnView 66) fun l v => .ob (RisingP v.id v.peers) (.bool (l.any (oddV v))) []) := by
  refine known2 hmix tau_ok (ctx_cons k_vIndex ctx_nil) (fn := Try.f68) (by kernel_rfl) [] (by kernel_rfl) _ _ _ fun xs v hfit hs => ⟨rfl, [], ?_⟩
  clear hfit
  (repeat' (first | ((with_reducible refine BdI ?_); (first | ((with_reducible refine SqI ?_ (fun Kv hN hX hR => ?_)); (next => exact rfl)) | ((with_reducible refine JnI ?_ ?_); (next => exact rfl)) | (conv => whnf))) | (with_reducible first | refine BdS (fun Kv hN hX hR => ?_) | refine Stop.mk ?_ | refine Join.mk ⟨fun Kv hN hX hR => ?_, ?_⟩ | refine DrawJ.each ?_ | exact SubJ.self _) | with_reducible refine SubJ.of ?_ | (with_reducible first | refine FlS (fun Kf hF => ?_) | refine FlN ?_ | refine NdS (fun Kg hG => ?_) | (refine hF _ _ ?_; clear hF; clear Kf) | (refine hG _ _ _ _ ?_; clear hG; clear Kg)) | ((with_reducible refine SqI ?_ (fun Kv hN hX hR => ?_)); (next => exact rfl)) | ((with_reducible refine JnI ?_ ?_); (next => exact rfl)) | ((with_reducible first | refine hN _ ?_ | refine hX _ _ ?_ | refine hR _ ?_); (try (clear hG; clear Kg)); clear hN hX hR; clear Kv) | ((conv => whnf); first | (with_reducible first | rfl | exact True.intro | intro _ | refine And.intro ?_ ?_) | ((with_reducible first | refine hN _ ?_ | refine hX _ _ ?_ | refine hR _ ?_); (try (clear hG; clear Kg)); clear hN hX hR; clear Kv) | (with_reducible first | refine BdS (fun Kv hN hX hR => ?_) | refine Stop.mk ?_ | refine Join.mk ⟨fun Kv hN hX hR => ?_, ?_⟩ | refine DrawJ.each ?_ | exact SubJ.self _) | with_reducible refine SubJ.of ?_ | (with_reducible first | refine FlS (fun Kf hF => ?_) | refine FlN ?_ | refine NdS (fun Kg hG => ?_) | (refine hF _ _ ?_; clear hF; clear Kf) | (refine hG _ _ _ _ ?_; clear hG; clear Kg))))); all_goals (conv => whnf); all_goals (repeat ((try (clear hG; clear Kg)); clear hN hX hR; clear Kv))
  all_goals first
    | exact Ob.mk hs
    | exact idxI_ge _ _
    | trace_state
def peerB (b : Int) (p : GPeer) : Bool := placeB p.id && (decide (0 ≤ p.missed) && (decide (p.missed < 3) && decide (0 < farI b p.id)))
def peersB (b : Int) (l : List GPeer) : Bool := placeB b && (decide (l.length ≤ 16) && (decide (l.Pairwise fun p q => farI b p.id < farI b q.id) && l.all (peerB b)))
theorem etaP {l : List GPeer} {i : Nat} (h : i < l.length) : l.getD i default = l[i] := by simp [List.getD_eq_getElem?_getD, h]
theorem risingP_iff {b : Int} {l : List GPeer} : RisingP b l ↔ l.Pairwise fun p q => farI b p.id < farI b q.id := by
  rw [List.pairwise_iff_getElem]
  constructor
  · intro h i j hi hj hij
    have := h i j hij hj
    rwa [etaP hi, etaP hj] at this
  · intro h i j hij hj
    rw [etaP (show i < l.length by omega), etaP hj]
    exact h i j (by omega) hj hij
theorem peersB_iff {b : Int} {l : List GPeer} : peersB b l = true ↔ placeB b = true ∧ l.length ≤ 16 ∧ RisingP b l ∧ ∀ p ∈ l, peerB b p = true := by
  simp only [peersB, Bool.and_eq_true, decide_eq_true_eq, risingP_iff, List.all_eq_true]
theorem peersB_no {b : Int} {l : List GPeer} (h : ¬ (placeB b = true ∧ l.length ≤ 16 ∧ RisingP b l ∧ ∀ p ∈ l, peerB b p = true)) : peersB b l = false := by
  rw [← peersB_iff] at h
  simpa using h
theorem risingP_adj {b : Int} {l : List GPeer} (h : ∀ t, t + 1 < l.length → farI b (l.getD t default).id < farI b (l.getD (t + 1) default).id) : RisingP b l := by
  intro s t
  induction t with
  | zero => intro h1; omega
  | succ t ih =>
    intro h1 h2
    have := h t h2
    rcases Nat.lt_or_eq_of_le (Nat.le_of_lt_succ h1) with h3 | rfl
    · have := ih h3 (by omega)
      omega
    · exact this
/-- How far the last one is, of the first i. -/
def lastF (b : Int) (l : List GPeer) : Nat → Int
  | 0 => 0
  | i + 1 => farI b (l.getD i default).id
theorem lastF_ge {b : Int} {l : List GPeer} {i : Nat} (hi : i ≤ l.length) (h : ∀ x ∈ l.take i, peerB b x = true) : 0 ≤ lastF b l i := by
  rcases i with _ | i
  · exact Int.le_refl _
  · have hm : l.getD i default ∈ l.take (i + 1) := by
      rw [etaP (by omega), List.mem_take_iff_getElem]
      exact ⟨i, by omega, rfl⟩
    have := h _ hm
    simp only [peerB, Bool.and_eq_true, decide_eq_true_eq] at this
    show 0 ≤ farI b (l.getD i default).id
    omega
set_option maxHeartbeats 2000000 in
theorem k_peersMay : Known Try.prog tau 65 (S2 dInt dPeers fun b l => okB (peersB b l)) := by
  refine known2 hmix tau_ok (ctx_cons k_Place (ctx_cons k_Far ctx_nil)) (fn := Try.f65) (by kernel_rfl) [] (by kernel_rfl) _ _ _ fun b xs hfit => ⟨rfl,
    [(5, invN (4 :: 5 :: 7 :: 18 :: 19 :: 20 :: 21 :: 22 :: 23 :: 24 :: 25 :: 26 :: 27 :: 28 :: 29 :: 30 :: 31 :: 32 :: 33 :: 34 :: 35 :: 36 :: 37 :: 38 :: 39 :: 40 :: 41 :: 42 :: 43 :: 44 :: 45 :: 46 :: 47 :: 48 :: []) (fun i => i ≤ xs.length ∧ (∀ x ∈ xs.take i, peerB b x = true) ∧ ∀ t, t + 1 < i → farI b (xs.getD t default).id < farI b (xs.getD (t + 1) default).id) (fun i => withS [(18, .int .i64 i), (5, .int .i64 (lastF b xs i))]) (fun i => xs.length - i))], ?_⟩
  have hlen : xs.length * 16 ≤ 140737488355328 := hfit.2.1
  clear hfit
  (repeat' (first | ((with_reducible refine BdI ?_); (first | ((with_reducible refine SqI ?_ (fun Kv hN hX hR => ?_)); (next => exact rfl)) | ((with_reducible refine JnI ?_ ?_); (next => exact rfl)) | (conv => whnf))) | (with_reducible first | refine BdS (fun Kv hN hX hR => ?_) | refine Stop.mk ?_ | refine Join.mk ⟨fun Kv hN hX hR => ?_, ?_⟩ | refine DrawJ.each ?_ | exact SubJ.self _) | with_reducible refine SubJ.of ?_ | (with_reducible first | refine FlS (fun Kf hF => ?_) | refine FlN ?_ | refine NdS (fun Kg hG => ?_) | (refine hF _ _ ?_; clear hF; clear Kf) | (refine hG _ _ _ _ ?_; clear hG; clear Kg)) | ((with_reducible refine SqI ?_ (fun Kv hN hX hR => ?_)); (next => exact rfl)) | ((with_reducible refine JnI ?_ ?_); (next => exact rfl)) | ((with_reducible first | refine hN _ ?_ | refine hX _ _ ?_ | refine hR _ ?_); (try (clear hG; clear Kg)); clear hN hX hR; clear Kv) | ((conv => whnf); first | (with_reducible first | rfl | exact True.intro | refine (fun (_ : (_ : Prop)) => ?_) | refine And.intro ?_ ?_) | ((with_reducible first | refine hN _ ?_ | refine hX _ _ ?_ | refine hR _ ?_); (try (clear hG; clear Kg)); clear hN hX hR; clear Kv) | (with_reducible first | refine BdS (fun Kv hN hX hR => ?_) | refine Stop.mk ?_ | refine Join.mk ⟨fun Kv hN hX hR => ?_, ?_⟩ | refine DrawJ.each ?_ | exact SubJ.self _) | with_reducible refine SubJ.of ?_ | (with_reducible first | refine FlS (fun Kf hF => ?_) | refine FlN ?_ | refine NdS (fun Kg hG => ?_) | (refine hF _ _ ?_; clear hF; clear Kf) | (refine hG _ _ _ _ ?_; clear hG; clear Kg))))); all_goals (conv => whnf); all_goals (repeat ((try (clear hG; clear Kg)); clear hN hX hR; clear Kv))
  all_goals first
    | (have h0 := nf (show (!placeB b) = true by with_reducible assumption)
       exact (peersB_no fun h => by rw [h.1] at h0; simp at h0).symm)
    | (have h0 := of_decide_eq_true (show decide ((16 : Int) < (xs.length : Nat)) = true by with_reducible assumption)
       exact (peersB_no fun h => by have := h.2.1; omega).symm)
    | (refine ⟨0, ⟨by omega, by simp, by intros; omega⟩, ?_⟩
       (repeat' (first | ((with_reducible refine BdI ?_); (first | ((with_reducible refine SqI ?_ (fun Kv hN hX hR => ?_)); (next => exact rfl)) | ((with_reducible refine JnI ?_ ?_); (next => exact rfl)) | (conv => whnf))) | (with_reducible first | refine BdS (fun Kv hN hX hR => ?_) | refine Stop.mk ?_ | refine Join.mk ⟨fun Kv hN hX hR => ?_, ?_⟩ | refine DrawJ.each ?_ | exact SubJ.self _) | with_reducible refine SubJ.of ?_ | (with_reducible first | refine FlS (fun Kf hF => ?_) | refine FlN ?_ | refine NdS (fun Kg hG => ?_) | (refine hF _ _ ?_; clear hF; clear Kf) | (refine hG _ _ _ _ ?_; clear hG; clear Kg)) | ((with_reducible refine SqI ?_ (fun Kv hN hX hR => ?_)); (next => exact rfl)) | ((with_reducible refine JnI ?_ ?_); (next => exact rfl)) | ((with_reducible first | refine hN _ ?_ | refine hX _ _ ?_ | refine hR _ ?_); (try (clear hG; clear Kg)); clear hN hX hR; clear Kv) | ((conv => whnf); first | (with_reducible first | rfl | exact True.intro | intro _ | refine And.intro ?_ ?_) | ((with_reducible first | refine hN _ ?_ | refine hX _ _ ?_ | refine hR _ ?_); (try (clear hG; clear Kg)); clear hN hX hR; clear Kv) | (with_reducible first | refine BdS (fun Kv hN hX hR => ?_) | refine Stop.mk ?_ | refine Join.mk ⟨fun Kv hN hX hR => ?_, ?_⟩ | refine DrawJ.each ?_ | exact SubJ.self _) | with_reducible refine SubJ.of ?_ | (with_reducible first | refine FlS (fun Kf hF => ?_) | refine FlN ?_ | refine NdS (fun Kg hG => ?_) | (refine hF _ _ ?_; clear hF; clear Kf) | (refine hG _ _ _ _ ?_; clear hG; clear Kg))))); all_goals (conv => whnf); all_goals (repeat ((try (clear hG; clear Kg)); clear hN hX hR; clear Kv))
       all_goals rfl)
    | (with_reducible intro i hi
       (repeat' (first | ((with_reducible refine BdI ?_); (first | ((with_reducible refine SqI ?_ (fun Kv hN hX hR => ?_)); (next => exact rfl)) | ((with_reducible refine JnI ?_ ?_); (next => exact rfl)) | (conv => whnf))) | (with_reducible first | refine BdS (fun Kv hN hX hR => ?_) | refine Stop.mk ?_ | refine Join.mk ⟨fun Kv hN hX hR => ?_, ?_⟩ | refine DrawJ.each ?_ | exact SubJ.self _) | with_reducible refine SubJ.of ?_ | (with_reducible first | refine FlS (fun Kf hF => ?_) | refine FlN ?_ | refine NdS (fun Kg hG => ?_) | (refine hF _ _ ?_; clear hF; clear Kf) | (refine hG _ _ _ _ ?_; clear hG; clear Kg)) | ((with_reducible refine SqI ?_ (fun Kv hN hX hR => ?_)); (next => exact rfl)) | ((with_reducible refine JnI ?_ ?_); (next => exact rfl)) | ((with_reducible first | refine hN _ ?_ | refine hX _ _ ?_ | refine hR _ ?_); (try (clear hG; clear Kg)); clear hN hX hR; clear Kv) | ((conv => whnf); first | (with_reducible first | rfl | exact True.intro | intro _ | refine And.intro ?_ ?_) | ((with_reducible first | refine hN _ ?_ | refine hX _ _ ?_ | refine hR _ ?_); (try (clear hG; clear Kg)); clear hN hX hR; clear Kv) | (with_reducible first | refine BdS (fun Kv hN hX hR => ?_) | refine Stop.mk ?_ | refine Join.mk ⟨fun Kv hN hX hR => ?_, ?_⟩ | refine DrawJ.each ?_ | exact SubJ.self _) | with_reducible refine SubJ.of ?_ | (with_reducible first | refine FlS (fun Kf hF => ?_) | refine FlN ?_ | refine NdS (fun Kg hG => ?_) | (refine hF _ _ ?_; clear hF; clear Kf) | (refine hG _ _ _ _ ?_; clear hG; clear Kg))))); all_goals (conv => whnf); all_goals (repeat ((try (clear hG; clear Kg)); clear hN hX hR; clear Kv))
       all_goals first
         | exact Ob.mk ⟨by omega, of_decide_eq_true (by with_reducible assumption)⟩
         | (have h := of_decide_eq_true (show decide ((i : Int) < (xs.length : Nat)) = true by with_reducible assumption)
            first
              | (refine (peersB_no ?_).symm
                 rintro ⟨_, _, h3, h4⟩
                 have h5 := h4 _ (getD_mem (l := xs) (i := i) (d := default) (by omega))
                 simp only [peerB, Bool.and_eq_true] at h5
                 simp only [decide_eq_true_eq, decide_eq_false_iff_not, Bool.not_eq_true', Bool.not_eq_false', Int.toNat_natCast] at *
                 first
                   | (simp_all; done)
                   | omega
                   | (rcases i with _ | i
                      · simp only [lastF] at *
                        omega
                      · have := h3 i (i + 1) (by omega) (by omega)
                        simp only [lastF] at *
                        omega))
              | (have hp : peerB b (xs.getD i default) = true := by
                   have hge := lastF_ge hi.1 hi.2.1
                   simp only [peerB, Bool.and_eq_true]
                   simp only [decide_eq_true_eq, decide_eq_false_iff_not, Bool.not_eq_true', Bool.not_eq_false', Int.toNat_natCast] at *
                   refine ⟨by assumption, by omega, by omega, by omega⟩
                 have hl : lastF b xs i < farI b (xs.getD i default).id := by
                   simp only [decide_eq_true_eq, decide_eq_false_iff_not, Bool.not_eq_true', Bool.not_eq_false', Int.toNat_natCast] at *
                   omega
                 refine ⟨i + 1, ⟨by omega, all_take_succ (d := default) (by omega) hi.2.1 hp, fun t ht => ?_⟩, by show xs.length - (i + 1) < xs.length - i; omega, ?_⟩
                 · rcases Nat.lt_or_eq_of_le (Nat.le_of_lt_succ ht) with h3 | h3
                   · exact hi.2.2 t h3
                   · subst h3
                     exact hl
                 · (repeat' (first | ((with_reducible refine BdI ?_); (first | ((with_reducible refine SqI ?_ (fun Kv hN hX hR => ?_)); (next => exact rfl)) | ((with_reducible refine JnI ?_ ?_); (next => exact rfl)) | (conv => whnf))) | (with_reducible first | refine BdS (fun Kv hN hX hR => ?_) | refine Stop.mk ?_ | refine Join.mk ⟨fun Kv hN hX hR => ?_, ?_⟩ | refine DrawJ.each ?_ | exact SubJ.self _) | with_reducible refine SubJ.of ?_ | (with_reducible first | refine FlS (fun Kf hF => ?_) | refine FlN ?_ | refine NdS (fun Kg hG => ?_) | (refine hF _ _ ?_; clear hF; clear Kf) | (refine hG _ _ _ _ ?_; clear hG; clear Kg)) | ((with_reducible refine SqI ?_ (fun Kv hN hX hR => ?_)); (next => exact rfl)) | ((with_reducible refine JnI ?_ ?_); (next => exact rfl)) | ((with_reducible first | refine hN _ ?_ | refine hX _ _ ?_ | refine hR _ ?_); (try (clear hG; clear Kg)); clear hN hX hR; clear Kv) | ((conv => whnf); first | (with_reducible first | rfl | exact True.intro | intro _ | refine And.intro ?_ ?_) | ((with_reducible first | refine hN _ ?_ | refine hX _ _ ?_ | refine hR _ ?_); (try (clear hG; clear Kg)); clear hN hX hR; clear Kv) | (with_reducible first | refine BdS (fun Kv hN hX hR => ?_) | refine Stop.mk ?_ | refine Join.mk ⟨fun Kv hN hX hR => ?_, ?_⟩ | refine DrawJ.each ?_ | exact SubJ.self _) | with_reducible refine SubJ.of ?_ | (with_reducible first | refine FlS (fun Kf hF => ?_) | refine FlN ?_ | refine NdS (fun Kg hG => ?_) | (refine hF _ _ ?_; clear hF; clear Kf) | (refine hG _ _ _ _ ?_; clear hG; clear Kg))))); all_goals (conv => whnf); all_goals (repeat ((try (clear hG; clear Kg)); clear hN hX hR; clear Kv))
                   all_goals first
                     | exact wrapI (by omega) (by omega)
                     | rfl))
         | (have h := of_decide_eq_false (show decide ((i : Int) < (xs.length : Nat)) = false by with_reducible assumption)
            obtain rfl : i = xs.length := by omega
            have h2 := hi.2.1
            rw [List.take_of_length_le (Nat.le_refl _)] at h2
            have h16 := of_decide_eq_false (show decide ((16 : Int) < (xs.length : Nat)) = false by with_reducible assumption)
            exact (peersB_iff.2 ⟨nt (by with_reducible assumption), by omega, risingP_adj hi.2.2, h2⟩).symm)
         | trace_state)
    | trace_state
end Go.Proofs.Ytaapoiikbolgnaa

/- Contracts: who is heard: the document's. -/
namespace Go.Proofs.Ytaapoiikbolgnaa
open Go.RowKit
set_option maxRecDepth 20000

def refPB (b : Int) (p : GPeer) : Bool := placeB p.id && (!decide (p.id = b) && (decide (0 ≤ p.missed) && decide (p.missed < 3)))
theorem far_pos {b x : Int} (h1 : placeB b = true) (h2 : placeB x = true) : (0 < farI b x ↔ x ≠ b) ∧ 0 ≤ farI b x := by
  simp only [placeB, Bool.and_eq_true, decide_eq_true_eq] at h1 h2
  rw [farI_eq h1.1 h1.2 h2.1 h2.2]
  omega
theorem far_inj {b x y : Int} (h1 : placeB b = true) (h2 : placeB x = true) (h3 : placeB y = true) : farI b x = farI b y ↔ x = y := by
  simp only [placeB, Bool.and_eq_true, decide_eq_true_eq] at h1 h2 h3
  rw [farI_eq h1.1 h1.2 h2.1 h2.2, farI_eq h1.1 h1.2 h3.1 h3.2]
  omega
theorem refPB_iff {b : Int} {p : GPeer} (h : placeB b = true) : refPB b p = peerB b p := by
  unfold refPB peerB
  cases hp : placeB p.id with
  | false => simp
  | true =>
    have h1 := (far_pos h hp).1
    by_cases e : p.id = b
    · have : ¬ 0 < farI b p.id := fun h2 => h1.1 h2 e
      simp [e, this]
      intro _ _
      rw [e] at this
      omega
    · have : 0 < farI b p.id := h1.2 e
      simp [e, this]
set_option maxHeartbeats 4000000 in
theorem k_refPeers : Known Try.prog tau 59 (S2 dInt dPeers fun b l => okB (peersB b l)) := by
  refine known2 hmix tau_ok (ctx_cons k_refPlace (ctx_cons k_reffar ctx_nil)) (fn := Try.f59) (by kernel_rfl) [(4, ((0, 0) :: (1, 0) :: (2, 3) :: (3, 4) :: (4, 8) :: (5, 16) :: (6, 32) :: (7, 96) :: (8, 128) :: (9, 128) :: (10, 896) :: (11, 1152) :: (12, 2176) :: (13, 128) :: (14, 12416) :: (15, 16512) :: (16, 32896) :: (17, 65536) :: (18, 65536) :: (19, 458752) :: (20, 589824) :: (21, 1114112) :: (22, 2162688) :: (23, 4259840) :: (24, 8454144) :: (25, 16777216) :: (26, 16777216) :: (27, 117440512) :: (28, 150994944) :: (29, 285212672) :: (30, 553648128) :: (31, 1090519040) :: (32, 2164260864) :: (33, 4294967296) :: (34, 12884901888) :: (35, 21474836480) :: (36, 34359738368) :: (37, 34359738368) :: (38, 34359738368) :: (39, 309237645312) :: (40, 721554505728) :: (41, 1133871366144) :: (42, 2233382993920) :: (43, 4501125726208) :: (44, 34359738368) :: (45, 34359738368) :: (46, 34359738368) :: (47, 105587476004864) :: (48, 140771848093696) :: (49, 281509336449024) :: (50, 589372592226304) :: (51, 1134730359603200) :: (52, 2251838468390912) :: (53, 4503603922337792) :: []))] (by kernel_rfl) _ _ _ fun b xs hfit => ⟨rfl,
    [(2, invN (4 :: 5 :: 6 :: 7 :: 8 :: 9 :: 10 :: 11 :: 12 :: 13 :: 14 :: 15 :: 16 :: 17 :: 18 :: 19 :: 20 :: 21 :: 22 :: 23 :: 24 :: 25 :: 26 :: 27 :: 28 :: 29 :: 30 :: 31 :: 32 :: 33 :: 34 :: 35 :: 36 :: 37 :: 38 :: 39 :: 40 :: 41 :: 42 :: 43 :: 44 :: 45 :: 46 :: 47 :: 48 :: 49 :: 50 :: 51 :: 52 :: 53 :: 54 :: 55 :: 56 :: 57 :: 58 :: 59 :: 60 :: 61 :: 62 :: 63 :: 64 :: 65 :: []) (fun i => i ≤ xs.length ∧ (∀ x ∈ xs.take i, refPB b x = true) ∧ ∀ t, t + 1 < i → farI b (xs.getD t default).id < farI b (xs.getD (t + 1) default).id) (fun i => withS [(5, .int .i64 i)]) (fun i => xs.length - i))], ?_⟩
  have hlen : xs.length * 16 ≤ 140737488355328 := hfit.2.1
  clear hfit
  (repeat' (first | ((with_reducible refine BdI ?_); (first | ((with_reducible refine SqI ?_ (fun Kv hN hX hR => ?_)); (next => exact rfl)) | ((with_reducible refine JnI ?_ ?_); (next => exact rfl)) | (conv => whnf))) | (with_reducible first | refine BdS (fun Kv hN hX hR => ?_) | refine Stop.mk ?_ | refine Join.mk ⟨fun Kv hN hX hR => ?_, ?_⟩ | refine DrawJ.each ?_ | exact SubJ.self _) | with_reducible refine SubJ.of ?_ | (with_reducible first | refine FlS (fun Kf hF => ?_) | refine FlN ?_ | refine NdS (fun Kg hG => ?_) | (refine hF _ _ ?_; clear hF; clear Kf) | (refine hG _ _ _ _ ?_; clear hG; clear Kg)) | ((with_reducible refine SqI ?_ (fun Kv hN hX hR => ?_)); (next => exact rfl)) | ((with_reducible refine JnI ?_ ?_); (next => exact rfl)) | ((with_reducible first | refine hN _ ?_ | refine hX _ _ ?_ | refine hR _ ?_); (try (clear hG; clear Kg)); clear hN hX hR; clear Kv) | ((conv => whnf); first | (with_reducible first | rfl | exact True.intro | refine (fun (_ : (_ : Prop)) => ?_) | refine And.intro ?_ ?_) | ((with_reducible first | refine hN _ ?_ | refine hX _ _ ?_ | refine hR _ ?_); (try (clear hG; clear Kg)); clear hN hX hR; clear Kv) | (with_reducible first | refine BdS (fun Kv hN hX hR => ?_) | refine Stop.mk ?_ | refine Join.mk ⟨fun Kv hN hX hR => ?_, ?_⟩ | refine DrawJ.each ?_ | exact SubJ.self _) | with_reducible refine SubJ.of ?_ | (with_reducible first | refine FlS (fun Kf hF => ?_) | refine FlN ?_ | refine NdS (fun Kg hG => ?_) | (refine hF _ _ ?_; clear hF; clear Kf) | (refine hG _ _ _ _ ?_; clear hG; clear Kg))))); all_goals (conv => whnf); all_goals (repeat ((try (clear hG; clear Kg)); clear hN hX hR; clear Kv))
  all_goals first
    | (refine ⟨0, ⟨by omega, by simp, by intros; omega⟩, ?_⟩
       (repeat' (first | ((with_reducible refine BdI ?_); (first | ((with_reducible refine SqI ?_ (fun Kv hN hX hR => ?_)); (next => exact rfl)) | ((with_reducible refine JnI ?_ ?_); (next => exact rfl)) | (conv => whnf))) | (with_reducible first | refine BdS (fun Kv hN hX hR => ?_) | refine Stop.mk ?_ | refine Join.mk ⟨fun Kv hN hX hR => ?_, ?_⟩ | refine DrawJ.each ?_ | exact SubJ.self _) | with_reducible refine SubJ.of ?_ | (with_reducible first | refine FlS (fun Kf hF => ?_) | refine FlN ?_ | refine NdS (fun Kg hG => ?_) | (refine hF _ _ ?_; clear hF; clear Kf) | (refine hG _ _ _ _ ?_; clear hG; clear Kg)) | ((with_reducible refine SqI ?_ (fun Kv hN hX hR => ?_)); (next => exact rfl)) | ((with_reducible refine JnI ?_ ?_); (next => exact rfl)) | ((with_reducible first | refine hN _ ?_ | refine hX _ _ ?_ | refine hR _ ?_); (try (clear hG; clear Kg)); clear hN hX hR; clear Kv) | ((conv => whnf); first | (with_reducible first | rfl | exact True.intro | intro _ | refine And.intro ?_ ?_) | ((with_reducible first | refine hN _ ?_ | refine hX _ _ ?_ | refine hR _ ?_); (try (clear hG; clear Kg)); clear hN hX hR; clear Kv) | (with_reducible first | refine BdS (fun Kv hN hX hR => ?_) | refine Stop.mk ?_ | refine Join.mk ⟨fun Kv hN hX hR => ?_, ?_⟩ | refine DrawJ.each ?_ | exact SubJ.self _) | with_reducible refine SubJ.of ?_ | (with_reducible first | refine FlS (fun Kf hF => ?_) | refine FlN ?_ | refine NdS (fun Kg hG => ?_) | (refine hF _ _ ?_; clear hF; clear Kf) | (refine hG _ _ _ _ ?_; clear hG; clear Kg))))); all_goals (conv => whnf); all_goals (repeat ((try (clear hG; clear Kg)); clear hN hX hR; clear Kv))
       all_goals rfl)
    | (with_reducible intro i hi
       (repeat' (first | ((with_reducible refine BdI ?_); (first | ((with_reducible refine SqI ?_ (fun Kv hN hX hR => ?_)); (next => exact rfl)) | ((with_reducible refine JnI ?_ ?_); (next => exact rfl)) | (conv => whnf))) | (with_reducible first | refine BdS (fun Kv hN hX hR => ?_) | refine Stop.mk ?_ | refine Join.mk ⟨fun Kv hN hX hR => ?_, ?_⟩ | refine DrawJ.each ?_ | exact SubJ.self _) | with_reducible refine SubJ.of ?_ | (with_reducible first | refine FlS (fun Kf hF => ?_) | refine FlN ?_ | refine NdS (fun Kg hG => ?_) | (refine hF _ _ ?_; clear hF; clear Kf) | (refine hG _ _ _ _ ?_; clear hG; clear Kg)) | ((with_reducible refine SqI ?_ (fun Kv hN hX hR => ?_)); (next => exact rfl)) | ((with_reducible refine JnI ?_ ?_); (next => exact rfl)) | ((with_reducible first | refine hN _ ?_ | refine hX _ _ ?_ | refine hR _ ?_); (try (clear hG; clear Kg)); clear hN hX hR; clear Kv) | ((conv => whnf); first | (with_reducible first | rfl | exact True.intro | intro _ | refine And.intro ?_ ?_) | ((with_reducible first | refine hN _ ?_ | refine hX _ _ ?_ | refine hR _ ?_); (try (clear hG; clear Kg)); clear hN hX hR; clear Kv) | (with_reducible first | refine BdS (fun Kv hN hX hR => ?_) | refine Stop.mk ?_ | refine Join.mk ⟨fun Kv hN hX hR => ?_, ?_⟩ | refine DrawJ.each ?_ | exact SubJ.self _) | with_reducible refine SubJ.of ?_ | (with_reducible first | refine FlS (fun Kf hF => ?_) | refine FlN ?_ | refine NdS (fun Kg hG => ?_) | (refine hF _ _ ?_; clear hF; clear Kf) | (refine hG _ _ _ _ ?_; clear hG; clear Kg))))); all_goals (conv => whnf); all_goals (repeat ((try (clear hG; clear Kg)); clear hN hX hR; clear Kv))
       all_goals first
               | (have h := of_decide_eq_true (show decide ((i : Int) < (xs.length : Nat)) = true by with_reducible assumption)
                  first
                    | exact Ob.mk ⟨by omega, h⟩
                    | (have h0 := of_decide_eq_true (show decide (0 < (i : Int)) = true by with_reducible assumption)
                       have hb := back1 (i := i) (by omega) (by omega)
                       exact Ob.mk (by rw [hb.2]; omega))
                    | (refine (peersB_no ?_).symm
                       rintro ⟨h0, _, h3, h4⟩
                       have h5 := h4 _ (getD_mem (l := xs) (i := i) (d := default) (by omega))
                       rw [← refPB_iff h0] at h5
                       simp only [refPB, Bool.and_eq_true] at h5
                       simp only [decide_eq_true_eq, decide_eq_false_iff_not, Bool.not_eq_true', Bool.not_eq_false', Int.toNat_natCast] at *
                       first
                         | omega
                         | (simp_all; done)
                         | (have hb := back1 (i := i) (by omega) (by omega)
                            have h6 : farI b (xs.getD i default).id ≤ farI b (xs.getD (IntKind.i64.wrap ((i : Int) - 1)).toNat default).id := by assumption
                            rw [hb.1] at h6
                            have := h3 (i - 1) i (by omega) (by omega)
                            omega)
                         | trace_state)
                    | (have hp : refPB b (xs.getD i default) = true := by
                         simp only [refPB, Bool.and_eq_true]
                         simp only [decide_eq_true_eq, decide_eq_false_iff_not, Bool.not_eq_true', Bool.not_eq_false', Int.toNat_natCast] at *
                         refine ⟨by assumption, by assumption, by omega, by omega⟩
                       have hl : 0 < i → farI b (xs.getD (i - 1) default).id < farI b (xs.getD i default).id := by
                         intro h0
                         first
                           | (have hb := back1 (i := i) (by omega) (by omega)
                              have h6 := of_decide_eq_false (show decide (farI b (xs.getD (i : Int).toNat default).id ≤ farI b (xs.getD (IntKind.i64.wrap ((i : Int) - 1)).toNat default).id) = false by with_reducible assumption)
                              rw [hb.1, Int.toNat_natCast] at h6
                              omega)
                           | (have h6 := of_decide_eq_false (show decide (0 < (i : Int)) = false by with_reducible assumption)
                              omega)
                       refine ⟨i + 1, ⟨by omega, all_take_succ (d := default) (by omega) hi.2.1 hp, fun t ht => ?_⟩, by show xs.length - (i + 1) < xs.length - i; omega, ?_⟩
                       · rcases Nat.lt_or_eq_of_le (Nat.le_of_lt_succ ht) with h3 | h3
                         · exact hi.2.2 t h3
                         · subst h3
                           exact hl (by omega)
                       · (repeat' (first | ((with_reducible refine BdI ?_); (first | ((with_reducible refine SqI ?_ (fun Kv hN hX hR => ?_)); (next => exact rfl)) | ((with_reducible refine JnI ?_ ?_); (next => exact rfl)) | (conv => whnf))) | (with_reducible first | refine BdS (fun Kv hN hX hR => ?_) | refine Stop.mk ?_ | refine Join.mk ⟨fun Kv hN hX hR => ?_, ?_⟩ | refine DrawJ.each ?_ | exact SubJ.self _) | with_reducible refine SubJ.of ?_ | (with_reducible first | refine FlS (fun Kf hF => ?_) | refine FlN ?_ | refine NdS (fun Kg hG => ?_) | (refine hF _ _ ?_; clear hF; clear Kf) | (refine hG _ _ _ _ ?_; clear hG; clear Kg)) | ((with_reducible refine SqI ?_ (fun Kv hN hX hR => ?_)); (next => exact rfl)) | ((with_reducible refine JnI ?_ ?_); (next => exact rfl)) | ((with_reducible first | refine hN _ ?_ | refine hX _ _ ?_ | refine hR _ ?_); (try (clear hG; clear Kg)); clear hN hX hR; clear Kv) | ((conv => whnf); first | (with_reducible first | rfl | exact True.intro | intro _ | refine And.intro ?_ ?_) | ((with_reducible first | refine hN _ ?_ | refine hX _ _ ?_ | refine hR _ ?_); (try (clear hG; clear Kg)); clear hN hX hR; clear Kv) | (with_reducible first | refine BdS (fun Kv hN hX hR => ?_) | refine Stop.mk ?_ | refine Join.mk ⟨fun Kv hN hX hR => ?_, ?_⟩ | refine DrawJ.each ?_ | exact SubJ.self _) | with_reducible refine SubJ.of ?_ | (with_reducible first | refine FlS (fun Kf hF => ?_) | refine FlN ?_ | refine NdS (fun Kg hG => ?_) | (refine hF _ _ ?_; clear hF; clear Kf) | (refine hG _ _ _ _ ?_; clear hG; clear Kg))))); all_goals (conv => whnf); all_goals (repeat ((try (clear hG; clear Kg)); clear hN hX hR; clear Kv))
                         all_goals first
                           | exact wrapI (by omega) (by omega)
                           | rfl))
               | (have h0 : placeB b = false := by with_reducible assumption
                  exact (peersB_no fun h => by rw [h.1] at h0; simp at h0).symm)
               | (have h := of_decide_eq_false (show decide ((i : Int) < (xs.length : Nat)) = false by with_reducible assumption)
                  have h0 : placeB b = true := by with_reducible assumption
                  obtain rfl : i = xs.length := by omega
                  have h2 := hi.2.1
                  rw [List.take_of_length_le (Nat.le_refl _)] at h2
                  by_cases h4 : xs.length ≤ 16
                  · rw [peersB_iff.2 ⟨h0, h4, risingP_adj hi.2.2, fun p hp => by rw [← refPB_iff h0]; exact h2 p hp⟩]
                    exact decide_eq_true (by omega)
                  · rw [peersB_no (fun h => h4 h.2.1)]
                    exact decide_eq_false (by omega))
               | trace_state)
    | trace_state
end Go.Proofs.Ytaapoiikbolgnaa

/- Contracts: views, stores, nodes: may they be. -/
namespace Go.Proofs.Ytaapoiikbolgnaa
open Go.RowKit
set_option maxRecDepth 20000

def viewB (v : GView) : Bool := peersB v.id v.peers && (passB v.passive && (decide (v.peers.length + v.passive.length ≤ 16) && !v.passive.any (oddV v)))
theorem viewB_iff {v : GView} : viewB v = true ↔ peersB v.id v.peers = true ∧ passB v.passive = true ∧ v.peers.length + v.passive.length ≤ 16 ∧ v.passive.any (oddV v) = false := by
  simp only [viewB, Bool.and_eq_true, decide_eq_true_eq, Bool.not_eq_true']
theorem viewB_no {v : GView} (h : ¬ (peersB v.id v.peers = true ∧ passB v.passive = true ∧ v.peers.length + v.passive.length ≤ 16 ∧ v.passive.any (oddV v) = false)) : viewB v = false := by
  rw [← viewB_iff] at h
  simpa using h
theorem etaView (v : GView) : (⟨v.id, v.peers, v.passive⟩ : GView) = v := rfl
set_option maxHeartbeats 1000000 in
theorem k_viewMay : Known Try.prog tau 42 (S1 dView fun v => okB (viewB v)) := by
  refine known1 hmix tau_ok (ctx_cons k_peersMay (ctx_cons k_passMay (ctx_cons k_vContains ctx_nil))) (fn := Try.f42) (by kernel_rfl) [] (by kernel_rfl) _ _ fun v hfit => ⟨rfl, [], ?_⟩
  clear hfit
  (repeat' (first | ((with_reducible refine BdI ?_); (first | ((with_reducible refine SqI ?_ (fun Kv hN hX hR => ?_)); (next => exact rfl)) | ((with_reducible refine JnI ?_ ?_); (next => exact rfl)) | (conv => whnf))) | (with_reducible first | refine BdS (fun Kv hN hX hR => ?_) | refine Stop.mk ?_ | refine Join.mk ⟨fun Kv hN hX hR => ?_, ?_⟩ | refine DrawJ.each ?_ | exact SubJ.self _) | with_reducible refine SubJ.of ?_ | (with_reducible first | refine FlS (fun Kf hF => ?_) | refine FlN ?_ | refine NdS (fun Kg hG => ?_) | (refine hF _ _ ?_; clear hF; clear Kf) | (refine hG _ _ _ _ ?_; clear hG; clear Kg)) | ((with_reducible refine SqI ?_ (fun Kv hN hX hR => ?_)); (next => exact rfl)) | ((with_reducible refine JnI ?_ ?_); (next => exact rfl)) | ((with_reducible first | refine hN _ ?_ | refine hX _ _ ?_ | refine hR _ ?_); (try (clear hG; clear Kg)); clear hN hX hR; clear Kv) | ((conv => whnf); first | (with_reducible first | rfl | exact True.intro | intro _ | refine And.intro ?_ ?_) | ((with_reducible first | refine hN _ ?_ | refine hX _ _ ?_ | refine hR _ ?_); (try (clear hG; clear Kg)); clear hN hX hR; clear Kv) | (with_reducible first | refine BdS (fun Kv hN hX hR => ?_) | refine Stop.mk ?_ | refine Join.mk ⟨fun Kv hN hX hR => ?_, ?_⟩ | refine DrawJ.each ?_ | exact SubJ.self _) | with_reducible refine SubJ.of ?_ | (with_reducible first | refine FlS (fun Kf hF => ?_) | refine FlN ?_ | refine NdS (fun Kg hG => ?_) | (refine hF _ _ ?_; clear hF; clear Kf) | (refine hG _ _ _ _ ?_; clear hG; clear Kg))))); all_goals (conv => whnf); all_goals (repeat ((try (clear hG; clear Kg)); clear hN hX hR; clear Kv))
  all_goals first
    | (have h1 := nf (show (!peersB v.id v.peers) = true by with_reducible assumption)
       exact (viewB_no fun h => by rw [h.1] at h1; simp at h1).symm)
    | (have h1 := nf (show (!passB v.passive) = true by with_reducible assumption)
       exact (viewB_no fun h => by rw [h.2.1] at h1; simp at h1).symm)
    | (have h1 := nt (show (!peersB v.id v.peers) = false by with_reducible assumption)
       have h2 := nt (show (!passB v.passive) = false by with_reducible assumption)
       have g1 := peersB_iff.1 h1
       have g2 := passB_iff.1 h2
       have e1 : IntKind.i64.wrap ((v.peers.length : Int) + (v.passive.length : Int)) = v.peers.length + v.passive.length := wrapI (by omega) (by omega)
       first
         | exact Ob.mk g1.2.2.1
         | (have h3 := of_decide_eq_true (show decide (16 < IntKind.i64.wrap ((v.peers.length : Int) + (v.passive.length : Int))) = true by with_reducible assumption)
            rw [e1] at h3
            exact (viewB_no fun h => by have := h.2.2.1; omega).symm)
         | (have h3 := of_decide_eq_false (show decide (16 < IntKind.i64.wrap ((v.peers.length : Int) + (v.passive.length : Int))) = false by with_reducible assumption)
            rw [e1] at h3
            unfold viewB
            rw [h1, h2, decide_eq_true (show v.peers.length + v.passive.length ≤ 16 by omega)]
            rfl))
    | trace_state
def toldB (t : GTold) : Bool := placeB t.key && (placeB t.value && (t.has || decide (t.value = 0)))
theorem k_odd : Known Try.prog tau 45 (S1 dTold fun t => okB (!toldB t)) := by
  refine known1 hmix tau_ok (ctx_cons k_Byte ctx_nil) (fn := Try.f45) (by kernel_rfl) [] (by kernel_rfl) _ _ fun t hfit => ⟨rfl, [], ?_⟩
  clear hfit
  (repeat' (first | ((with_reducible refine BdI ?_); (first | ((with_reducible refine SqI ?_ (fun Kv hN hX hR => ?_)); (next => exact rfl)) | ((with_reducible refine JnI ?_ ?_); (next => exact rfl)) | (conv => whnf))) | (with_reducible first | refine BdS (fun Kv hN hX hR => ?_) | refine Stop.mk ?_ | refine Join.mk ⟨fun Kv hN hX hR => ?_, ?_⟩ | refine DrawJ.each ?_ | exact SubJ.self _) | with_reducible refine SubJ.of ?_ | (with_reducible first | refine FlS (fun Kf hF => ?_) | refine FlN ?_ | refine NdS (fun Kg hG => ?_) | (refine hF _ _ ?_; clear hF; clear Kf) | (refine hG _ _ _ _ ?_; clear hG; clear Kg)) | ((with_reducible refine SqI ?_ (fun Kv hN hX hR => ?_)); (next => exact rfl)) | ((with_reducible refine JnI ?_ ?_); (next => exact rfl)) | ((with_reducible first | refine hN _ ?_ | refine hX _ _ ?_ | refine hR _ ?_); (try (clear hG; clear Kg)); clear hN hX hR; clear Kv) | ((conv => whnf); first | (with_reducible first | rfl | exact True.intro | intro _ | refine And.intro ?_ ?_) | ((with_reducible first | refine hN _ ?_ | refine hX _ _ ?_ | refine hR _ ?_); (try (clear hG; clear Kg)); clear hN hX hR; clear Kv) | (with_reducible first | refine BdS (fun Kv hN hX hR => ?_) | refine Stop.mk ?_ | refine Join.mk ⟨fun Kv hN hX hR => ?_, ?_⟩ | refine DrawJ.each ?_ | exact SubJ.self _) | with_reducible refine SubJ.of ?_ | (with_reducible first | refine FlS (fun Kf hF => ?_) | refine FlN ?_ | refine NdS (fun Kg hG => ?_) | (refine hF _ _ ?_; clear hF; clear Kf) | (refine hG _ _ _ _ ?_; clear hG; clear Kg))))); all_goals (conv => whnf); all_goals (repeat ((try (clear hG; clear Kg)); clear hN hX hR; clear Kv))
  all_goals first
    | (simp_all [toldB]; done)
    | trace_state
theorem k_tIndex : Known Try.prog tau 70 (S2 dTolds (dFn 45) fun l _ => .ok (.int .i64 (idxI (fun m => !toldB m) l)) []) := by
  refine known2 hmix tau_ok (ctx_cons k_odd ctx_nil) (fn := Try.f70) (by kernel_rfl) [] (by kernel_rfl) _ _ _ fun xs _ hfit => ⟨rfl,
    [(2, invN [4, 5, 8, 9, 10, 11, 12, 13, 14, 15, 16, 17, 18] (fun i => i ≤ xs.length ∧ ∀ x ∈ xs.take i, (!toldB x) = false) (fun i => withS [(8, .int .i64 i)]) (fun i => xs.length - i))], ?_⟩
  have hlen : xs.length * 24 ≤ 140737488355328 := hfit.1
  clear hfit
  (repeat' (first | ((with_reducible refine BdI ?_); (first | ((with_reducible refine SqI ?_ (fun Kv hN hX hR => ?_)); (next => exact rfl)) | ((with_reducible refine JnI ?_ ?_); (next => exact rfl)) | (conv => whnf))) | (with_reducible first | refine BdS (fun Kv hN hX hR => ?_) | refine Stop.mk ?_ | refine Join.mk ⟨fun Kv hN hX hR => ?_, ?_⟩ | refine DrawJ.each ?_ | exact SubJ.self _) | with_reducible refine SubJ.of ?_ | (with_reducible first | refine FlS (fun Kf hF => ?_) | refine FlN ?_ | refine NdS (fun Kg hG => ?_) | (refine hF _ _ ?_; clear hF; clear Kf) | (refine hG _ _ _ _ ?_; clear hG; clear Kg)) | ((with_reducible refine SqI ?_ (fun Kv hN hX hR => ?_)); (next => exact rfl)) | ((with_reducible refine JnI ?_ ?_); (next => exact rfl)) | ((with_reducible first | refine hN _ ?_ | refine hX _ _ ?_ | refine hR _ ?_); (try (clear hG; clear Kg)); clear hN hX hR; clear Kv) | ((conv => whnf); first | (with_reducible first | rfl | exact True.intro | refine (fun (_ : (_ : Prop)) => ?_) | refine And.intro ?_ ?_) | ((with_reducible first | refine hN _ ?_ | refine hX _ _ ?_ | refine hR _ ?_); (try (clear hG; clear Kg)); clear hN hX hR; clear Kv) | (with_reducible first | refine BdS (fun Kv hN hX hR => ?_) | refine Stop.mk ?_ | refine Join.mk ⟨fun Kv hN hX hR => ?_, ?_⟩ | refine DrawJ.each ?_ | exact SubJ.self _) | with_reducible refine SubJ.of ?_ | (with_reducible first | refine FlS (fun Kf hF => ?_) | refine FlN ?_ | refine NdS (fun Kg hG => ?_) | (refine hF _ _ ?_; clear hF; clear Kf) | (refine hG _ _ _ _ ?_; clear hG; clear Kg))))); all_goals (conv => whnf); all_goals (repeat ((try (clear hG; clear Kg)); clear hN hX hR; clear Kv))
  all_goals first
    | (refine ⟨0, ⟨by omega, by simp⟩, ?_⟩
       (repeat' (first | ((with_reducible refine BdI ?_); (first | ((with_reducible refine SqI ?_ (fun Kv hN hX hR => ?_)); (next => exact rfl)) | ((with_reducible refine JnI ?_ ?_); (next => exact rfl)) | (conv => whnf))) | (with_reducible first | refine BdS (fun Kv hN hX hR => ?_) | refine Stop.mk ?_ | refine Join.mk ⟨fun Kv hN hX hR => ?_, ?_⟩ | refine DrawJ.each ?_ | exact SubJ.self _) | with_reducible refine SubJ.of ?_ | (with_reducible first | refine FlS (fun Kf hF => ?_) | refine FlN ?_ | refine NdS (fun Kg hG => ?_) | (refine hF _ _ ?_; clear hF; clear Kf) | (refine hG _ _ _ _ ?_; clear hG; clear Kg)) | ((with_reducible refine SqI ?_ (fun Kv hN hX hR => ?_)); (next => exact rfl)) | ((with_reducible refine JnI ?_ ?_); (next => exact rfl)) | ((with_reducible first | refine hN _ ?_ | refine hX _ _ ?_ | refine hR _ ?_); (try (clear hG; clear Kg)); clear hN hX hR; clear Kv) | ((conv => whnf); first | (with_reducible first | rfl | exact True.intro | intro _ | refine And.intro ?_ ?_) | ((with_reducible first | refine hN _ ?_ | refine hX _ _ ?_ | refine hR _ ?_); (try (clear hG; clear Kg)); clear hN hX hR; clear Kv) | (with_reducible first | refine BdS (fun Kv hN hX hR => ?_) | refine Stop.mk ?_ | refine Join.mk ⟨fun Kv hN hX hR => ?_, ?_⟩ | refine DrawJ.each ?_ | exact SubJ.self _) | with_reducible refine SubJ.of ?_ | (with_reducible first | refine FlS (fun Kf hF => ?_) | refine FlN ?_ | refine NdS (fun Kg hG => ?_) | (refine hF _ _ ?_; clear hF; clear Kf) | (refine hG _ _ _ _ ?_; clear hG; clear Kg))))); all_goals (conv => whnf); all_goals (repeat ((try (clear hG; clear Kg)); clear hN hX hR; clear Kv))
       all_goals rfl)
    | (with_reducible intro i hi
       (repeat' (first | ((with_reducible refine BdI ?_); (first | ((with_reducible refine SqI ?_ (fun Kv hN hX hR => ?_)); (next => exact rfl)) | ((with_reducible refine JnI ?_ ?_); (next => exact rfl)) | (conv => whnf))) | (with_reducible first | refine BdS (fun Kv hN hX hR => ?_) | refine Stop.mk ?_ | refine Join.mk ⟨fun Kv hN hX hR => ?_, ?_⟩ | refine DrawJ.each ?_ | exact SubJ.self _) | with_reducible refine SubJ.of ?_ | (with_reducible first | refine FlS (fun Kf hF => ?_) | refine FlN ?_ | refine NdS (fun Kg hG => ?_) | (refine hF _ _ ?_; clear hF; clear Kf) | (refine hG _ _ _ _ ?_; clear hG; clear Kg)) | ((with_reducible refine SqI ?_ (fun Kv hN hX hR => ?_)); (next => exact rfl)) | ((with_reducible refine JnI ?_ ?_); (next => exact rfl)) | ((with_reducible first | refine hN _ ?_ | refine hX _ _ ?_ | refine hR _ ?_); (try (clear hG; clear Kg)); clear hN hX hR; clear Kv) | ((conv => whnf); first | (with_reducible first | rfl | exact True.intro | intro _ | refine And.intro ?_ ?_) | ((with_reducible first | refine hN _ ?_ | refine hX _ _ ?_ | refine hR _ ?_); (try (clear hG; clear Kg)); clear hN hX hR; clear Kv) | (with_reducible first | refine BdS (fun Kv hN hX hR => ?_) | refine Stop.mk ?_ | refine Join.mk ⟨fun Kv hN hX hR => ?_, ?_⟩ | refine DrawJ.each ?_ | exact SubJ.self _) | with_reducible refine SubJ.of ?_ | (with_reducible first | refine FlS (fun Kf hF => ?_) | refine FlN ?_ | refine NdS (fun Kg hG => ?_) | (refine hF _ _ ?_; clear hF; clear Kf) | (refine hG _ _ _ _ ?_; clear hG; clear Kg))))); all_goals (conv => whnf); all_goals (repeat ((try (clear hG; clear Kg)); clear hN hX hR; clear Kv))
       all_goals (try simp only [Int.toNat_natCast] at *)
       all_goals first
         | exact Ob.mk ⟨by omega, of_decide_eq_true (by with_reducible assumption)⟩
         | (have h := of_decide_eq_true (show decide ((i : Int) < (xs.length : Nat)) = true by with_reducible assumption)
            have hm : (!toldB (xs.getD i default)) = true := by assumption
            exact (idxI_at (d := default) (by omega) hi.2 hm).symm)
         | (have h := of_decide_eq_true (show decide ((i : Int) < (xs.length : Nat)) = true by with_reducible assumption)
            have hm : (!toldB (xs.getD i default)) = false := by assumption
            refine ⟨i + 1, ⟨by omega, all_take_succ (d := default) (by omega) hi.2 hm⟩, by show xs.length - (i + 1) < xs.length - i; omega, ?_⟩
            (repeat' (first | ((with_reducible refine BdI ?_); (first | ((with_reducible refine SqI ?_ (fun Kv hN hX hR => ?_)); (next => exact rfl)) | ((with_reducible refine JnI ?_ ?_); (next => exact rfl)) | (conv => whnf))) | (with_reducible first | refine BdS (fun Kv hN hX hR => ?_) | refine Stop.mk ?_ | refine Join.mk ⟨fun Kv hN hX hR => ?_, ?_⟩ | refine DrawJ.each ?_ | exact SubJ.self _) | with_reducible refine SubJ.of ?_ | (with_reducible first | refine FlS (fun Kf hF => ?_) | refine FlN ?_ | refine NdS (fun Kg hG => ?_) | (refine hF _ _ ?_; clear hF; clear Kf) | (refine hG _ _ _ _ ?_; clear hG; clear Kg)) | ((with_reducible refine SqI ?_ (fun Kv hN hX hR => ?_)); (next => exact rfl)) | ((with_reducible refine JnI ?_ ?_); (next => exact rfl)) | ((with_reducible first | refine hN _ ?_ | refine hX _ _ ?_ | refine hR _ ?_); (try (clear hG; clear Kg)); clear hN hX hR; clear Kv) | ((conv => whnf); first | (with_reducible first | rfl | exact True.intro | intro _ | refine And.intro ?_ ?_) | ((with_reducible first | refine hN _ ?_ | refine hX _ _ ?_ | refine hR _ ?_); (try (clear hG; clear Kg)); clear hN hX hR; clear Kv) | (with_reducible first | refine BdS (fun Kv hN hX hR => ?_) | refine Stop.mk ?_ | refine Join.mk ⟨fun Kv hN hX hR => ?_, ?_⟩ | refine DrawJ.each ?_ | exact SubJ.self _) | with_reducible refine SubJ.of ?_ | (with_reducible first | refine FlS (fun Kf hF => ?_) | refine FlN ?_ | refine NdS (fun Kg hG => ?_) | (refine hF _ _ ?_; clear hF; clear Kf) | (refine hG _ _ _ _ ?_; clear hG; clear Kg))))); all_goals (conv => whnf); all_goals (repeat ((try (clear hG; clear Kg)); clear hN hX hR; clear Kv))
            all_goals first
              | exact wrapI (by omega) (by omega)
              | rfl)
         | (have h := of_decide_eq_false (show decide ((i : Int) < (xs.length : Nat)) = false by with_reducible assumption)
            have h2 := hi.2
            rw [List.take_of_length_le (by omega)] at h2
            exact (idxI_none h2).symm)
         | trace_state)
    | trace_state
theorem k_tContains : Known Try.prog tau 44 (S2 dTolds (dFn 45) fun l _ => okB (l.any fun m => !toldB m)) := by
  refine known2 hmix tau_ok (ctx_cons k_tIndex ctx_nil) (fn := Try.f44) (by kernel_rfl) [] (by kernel_rfl) _ _ _ fun xs _ hfit => ⟨rfl, [], ?_⟩
  (repeat' (first | ((with_reducible refine BdI ?_); (first | ((with_reducible refine SqI ?_ (fun Kv hN hX hR => ?_)); (next => exact rfl)) | ((with_reducible refine JnI ?_ ?_); (next => exact rfl)) | (conv => whnf))) | (with_reducible first | refine BdS (fun Kv hN hX hR => ?_) | refine Stop.mk ?_ | refine Join.mk ⟨fun Kv hN hX hR => ?_, ?_⟩ | refine DrawJ.each ?_ | exact SubJ.self _) | with_reducible refine SubJ.of ?_ | (with_reducible first | refine FlS (fun Kf hF => ?_) | refine FlN ?_ | refine NdS (fun Kg hG => ?_) | (refine hF _ _ ?_; clear hF; clear Kf) | (refine hG _ _ _ _ ?_; clear hG; clear Kg)) | ((with_reducible refine SqI ?_ (fun Kv hN hX hR => ?_)); (next => exact rfl)) | ((with_reducible refine JnI ?_ ?_); (next => exact rfl)) | ((with_reducible first | refine hN _ ?_ | refine hX _ _ ?_ | refine hR _ ?_); (try (clear hG; clear Kg)); clear hN hX hR; clear Kv) | ((conv => whnf); first | (with_reducible first | rfl | exact True.intro | intro _ | refine And.intro ?_ ?_) | ((with_reducible first | refine hN _ ?_ | refine hX _ _ ?_ | refine hR _ ?_); (try (clear hG; clear Kg)); clear hN hX hR; clear Kv) | (with_reducible first | refine BdS (fun Kv hN hX hR => ?_) | refine Stop.mk ?_ | refine Join.mk ⟨fun Kv hN hX hR => ?_, ?_⟩ | refine DrawJ.each ?_ | exact SubJ.self _) | with_reducible refine SubJ.of ?_ | (with_reducible first | refine FlS (fun Kf hF => ?_) | refine FlN ?_ | refine NdS (fun Kg hG => ?_) | (refine hF _ _ ?_; clear hF; clear Kf) | (refine hG _ _ _ _ ?_; clear hG; clear Kg))))); all_goals (conv => whnf); all_goals (repeat ((try (clear hG; clear Kg)); clear hN hX hR; clear Kv))
  exact idxI_ge _ _
def storeB (l : List GItem) : Bool := decide (l.length ≤ 16) && (decide (l.Pairwise fun a b => a.key < b.key) && l.all itemB)
def RisingK (l : List GItem) : Prop := ∀ s t, s < t → t < l.length → (l.getD s default).key < (l.getD t default).key
theorem etaIt {l : List GItem} {i : Nat} (h : i < l.length) : l.getD i default = l[i] := by simp [List.getD_eq_getElem?_getD, h]
theorem risingK_iff {l : List GItem} : RisingK l ↔ l.Pairwise fun a b => a.key < b.key := by
  rw [List.pairwise_iff_getElem]
  constructor
  · intro h i j hi hj hij
    have := h i j hij hj
    rwa [etaIt hi, etaIt hj] at this
  · intro h i j hij hj
    rw [etaIt (show i < l.length by omega), etaIt hj]
    exact h i j (by omega) hj hij
theorem risingK_adj {l : List GItem} (h : ∀ t, t + 1 < l.length → (l.getD t default).key < (l.getD (t + 1) default).key) : RisingK l := by
  intro s t
  induction t with
  | zero => intro h1; omega
  | succ t ih =>
    intro h1 h2
    have := h t h2
    rcases Nat.lt_or_eq_of_le (Nat.le_of_lt_succ h1) with h3 | rfl
    · have := ih h3 (by omega)
      omega
    · exact this
theorem storeB_iff {l : List GItem} : storeB l = true ↔ l.length ≤ 16 ∧ RisingK l ∧ ∀ x ∈ l, itemB x = true := by
  simp only [storeB, Bool.and_eq_true, decide_eq_true_eq, risingK_iff, List.all_eq_true]
theorem storeB_no {l : List GItem} (h : ¬ (l.length ≤ 16 ∧ RisingK l ∧ ∀ x ∈ l, itemB x = true)) : storeB l = false := by
  rw [← storeB_iff] at h
  simpa using h
theorem etaItem (i : GItem) : (⟨i.key, ⟨i.ver.count, i.ver.writer⟩, i.value, i.gone⟩ : GItem) = i := rfl
set_option maxHeartbeats 4000000 in
theorem k_storeMay : Known Try.prog tau 43 (S1 dItems fun l => okB (storeB l)) := by
  refine known1 hmix tau_ok (ctx_cons k_ItemMay ctx_nil) (fn := Try.f43) (by kernel_rfl) [(4, [(0, 0), (1, 1), (2, 2), (3, 6), (4, 8), (5, 24), (6, 40), (7, 64), (8, 64), (9, 320), (10, 704), (11, 1088), (12, 2112), (13, 64), (14, 8256), (15, 20544), (16, 32840), (17, 65544)])] (by kernel_rfl) _ _ fun xs hfit => ⟨rfl,
    [(2, invN [2, 3, 4, 7, 8, 9, 10, 11, 12, 13, 14, 15, 16, 17, 18, 19, 20, 21, 22, 23, 24, 25, 26, 27, 28, 29, 30] (fun i => i ≤ xs.length ∧ (∀ x ∈ xs.take i, itemB x = true) ∧ ∀ t, t + 1 < i → (xs.getD t default).key < (xs.getD (t + 1) default).key) (fun i => withS [(7, .int .i64 i)]) (fun i => xs.length - i))], ?_⟩
  have hlen : xs.length * 40 ≤ 140737488355328 := hfit.1
  clear hfit
  (repeat' (first | ((with_reducible refine BdI ?_); (first | ((with_reducible refine SqI ?_ (fun Kv hN hX hR => ?_)); (next => exact rfl)) | ((with_reducible refine JnI ?_ ?_); (next => exact rfl)) | (conv => whnf))) | (with_reducible first | refine BdS (fun Kv hN hX hR => ?_) | refine Stop.mk ?_ | refine Join.mk ⟨fun Kv hN hX hR => ?_, ?_⟩ | refine DrawJ.each ?_ | exact SubJ.self _) | with_reducible refine SubJ.of ?_ | (with_reducible first | refine FlS (fun Kf hF => ?_) | refine FlN ?_ | refine NdS (fun Kg hG => ?_) | (refine hF _ _ ?_; clear hF; clear Kf) | (refine hG _ _ _ _ ?_; clear hG; clear Kg)) | ((with_reducible refine SqI ?_ (fun Kv hN hX hR => ?_)); (next => exact rfl)) | ((with_reducible refine JnI ?_ ?_); (next => exact rfl)) | ((with_reducible first | refine hN _ ?_ | refine hX _ _ ?_ | refine hR _ ?_); (try (clear hG; clear Kg)); clear hN hX hR; clear Kv) | ((conv => whnf); first | (with_reducible first | rfl | exact True.intro | refine (fun (_ : (_ : Prop)) => ?_) | refine And.intro ?_ ?_) | ((with_reducible first | refine hN _ ?_ | refine hX _ _ ?_ | refine hR _ ?_); (try (clear hG; clear Kg)); clear hN hX hR; clear Kv) | (with_reducible first | refine BdS (fun Kv hN hX hR => ?_) | refine Stop.mk ?_ | refine Join.mk ⟨fun Kv hN hX hR => ?_, ?_⟩ | refine DrawJ.each ?_ | exact SubJ.self _) | with_reducible refine SubJ.of ?_ | (with_reducible first | refine FlS (fun Kf hF => ?_) | refine FlN ?_ | refine NdS (fun Kg hG => ?_) | (refine hF _ _ ?_; clear hF; clear Kf) | (refine hG _ _ _ _ ?_; clear hG; clear Kg))))); all_goals (conv => whnf); all_goals (repeat ((try (clear hG; clear Kg)); clear hN hX hR; clear Kv))
  all_goals first
    | (refine ⟨0, ⟨by omega, by simp, by intros; omega⟩, ?_⟩
       (repeat' (first | ((with_reducible refine BdI ?_); (first | ((with_reducible refine SqI ?_ (fun Kv hN hX hR => ?_)); (next => exact rfl)) | ((with_reducible refine JnI ?_ ?_); (next => exact rfl)) | (conv => whnf))) | (with_reducible first | refine BdS (fun Kv hN hX hR => ?_) | refine Stop.mk ?_ | refine Join.mk ⟨fun Kv hN hX hR => ?_, ?_⟩ | refine DrawJ.each ?_ | exact SubJ.self _) | with_reducible refine SubJ.of ?_ | (with_reducible first | refine FlS (fun Kf hF => ?_) | refine FlN ?_ | refine NdS (fun Kg hG => ?_) | (refine hF _ _ ?_; clear hF; clear Kf) | (refine hG _ _ _ _ ?_; clear hG; clear Kg)) | ((with_reducible refine SqI ?_ (fun Kv hN hX hR => ?_)); (next => exact rfl)) | ((with_reducible refine JnI ?_ ?_); (next => exact rfl)) | ((with_reducible first | refine hN _ ?_ | refine hX _ _ ?_ | refine hR _ ?_); (try (clear hG; clear Kg)); clear hN hX hR; clear Kv) | ((conv => whnf); first | (with_reducible first | rfl | exact True.intro | intro _ | refine And.intro ?_ ?_) | ((with_reducible first | refine hN _ ?_ | refine hX _ _ ?_ | refine hR _ ?_); (try (clear hG; clear Kg)); clear hN hX hR; clear Kv) | (with_reducible first | refine BdS (fun Kv hN hX hR => ?_) | refine Stop.mk ?_ | refine Join.mk ⟨fun Kv hN hX hR => ?_, ?_⟩ | refine DrawJ.each ?_ | exact SubJ.self _) | with_reducible refine SubJ.of ?_ | (with_reducible first | refine FlS (fun Kf hF => ?_) | refine FlN ?_ | refine NdS (fun Kg hG => ?_) | (refine hF _ _ ?_; clear hF; clear Kf) | (refine hG _ _ _ _ ?_; clear hG; clear Kg))))); all_goals (conv => whnf); all_goals (repeat ((try (clear hG; clear Kg)); clear hN hX hR; clear Kv))
       all_goals rfl)
    | (with_reducible intro i hi
       (repeat' (first | ((with_reducible refine BdI ?_); (first | ((with_reducible refine SqI ?_ (fun Kv hN hX hR => ?_)); (next => exact rfl)) | ((with_reducible refine JnI ?_ ?_); (next => exact rfl)) | (conv => whnf))) | (with_reducible first | refine BdS (fun Kv hN hX hR => ?_) | refine Stop.mk ?_ | refine Join.mk ⟨fun Kv hN hX hR => ?_, ?_⟩ | refine DrawJ.each ?_ | exact SubJ.self _) | with_reducible refine SubJ.of ?_ | (with_reducible first | refine FlS (fun Kf hF => ?_) | refine FlN ?_ | refine NdS (fun Kg hG => ?_) | (refine hF _ _ ?_; clear hF; clear Kf) | (refine hG _ _ _ _ ?_; clear hG; clear Kg)) | ((with_reducible refine SqI ?_ (fun Kv hN hX hR => ?_)); (next => exact rfl)) | ((with_reducible refine JnI ?_ ?_); (next => exact rfl)) | ((with_reducible first | refine hN _ ?_ | refine hX _ _ ?_ | refine hR _ ?_); (try (clear hG; clear Kg)); clear hN hX hR; clear Kv) | ((conv => whnf); first | (with_reducible first | rfl | exact True.intro | intro _ | refine And.intro ?_ ?_) | ((with_reducible first | refine hN _ ?_ | refine hX _ _ ?_ | refine hR _ ?_); (try (clear hG; clear Kg)); clear hN hX hR; clear Kv) | (with_reducible first | refine BdS (fun Kv hN hX hR => ?_) | refine Stop.mk ?_ | refine Join.mk ⟨fun Kv hN hX hR => ?_, ?_⟩ | refine DrawJ.each ?_ | exact SubJ.self _) | with_reducible refine SubJ.of ?_ | (with_reducible first | refine FlS (fun Kf hF => ?_) | refine FlN ?_ | refine NdS (fun Kg hG => ?_) | (refine hF _ _ ?_; clear hF; clear Kf) | (refine hG _ _ _ _ ?_; clear hG; clear Kg))))); all_goals (conv => whnf); all_goals (repeat ((try (clear hG; clear Kg)); clear hN hX hR; clear Kv))
       all_goals (try simp only [Int.toNat_natCast, etaItem] at *)
       all_goals first
         | exact Ob.mk ⟨by omega, of_decide_eq_true (by with_reducible assumption)⟩
         | (have h := of_decide_eq_true (show decide ((i : Int) < (xs.length : Nat)) = true by with_reducible assumption)
            first
              | (have h0 := of_decide_eq_true (show decide (0 < (i : Int)) = true by with_reducible assumption)
                 have hb := back1 (i := i) (by omega) (by omega)
                 exact Ob.mk (by rw [hb.2]; omega))
              | (have hm := nf (show (!itemB (xs.getD i default)) = true by with_reducible assumption)
                 refine (storeB_no ?_).symm
                 rintro ⟨_, _, h3⟩
                 have := h3 _ (getD_mem (l := xs) (i := i) (d := default) (by omega))
                 rw [this] at hm
                 simp at hm)
              | (have h0 := of_decide_eq_true (show decide (0 < (i : Int)) = true by with_reducible assumption)
                 have hb := back1 (i := i) (by omega) (by omega)
                 have hm := of_decide_eq_true (show decide ((xs.getD i default).key ≤ (xs.getD (IntKind.i64.wrap ((i : Int) - 1)).toNat default).key) = true by with_reducible assumption)
                 rw [hb.1] at hm
                 refine (storeB_no ?_).symm
                 rintro ⟨_, h2, _⟩
                 have := h2 (i - 1) i (by omega) (by omega)
                 omega)
              | (have hp := nt (show (!itemB (xs.getD i default)) = false by with_reducible assumption)
                 refine ⟨i + 1, ⟨by omega, all_take_succ (d := default) (by omega) hi.2.1 hp, fun t ht => ?_⟩, by show xs.length - (i + 1) < xs.length - i; omega, ?_⟩
                 · rcases Nat.lt_or_eq_of_le (Nat.le_of_lt_succ ht) with h3 | h3
                   · exact hi.2.2 t h3
                   · first
                       | (have h0 := of_decide_eq_false (show decide (0 < (i : Int)) = false by with_reducible assumption)
                          omega)
                       | (have hb := back1 (i := i) (by omega) (by omega)
                          have hm := of_decide_eq_false (show decide ((xs.getD i default).key ≤ (xs.getD (IntKind.i64.wrap ((i : Int) - 1)).toNat default).key) = false by with_reducible assumption)
                          rw [hb.1] at hm
                          rw [show t = i - 1 by omega, show i - 1 + 1 = i by omega]
                          omega)
                 · (repeat' (first | ((with_reducible refine BdI ?_); (first | ((with_reducible refine SqI ?_ (fun Kv hN hX hR => ?_)); (next => exact rfl)) | ((with_reducible refine JnI ?_ ?_); (next => exact rfl)) | (conv => whnf))) | (with_reducible first | refine BdS (fun Kv hN hX hR => ?_) | refine Stop.mk ?_ | refine Join.mk ⟨fun Kv hN hX hR => ?_, ?_⟩ | refine DrawJ.each ?_ | exact SubJ.self _) | with_reducible refine SubJ.of ?_ | (with_reducible first | refine FlS (fun Kf hF => ?_) | refine FlN ?_ | refine NdS (fun Kg hG => ?_) | (refine hF _ _ ?_; clear hF; clear Kf) | (refine hG _ _ _ _ ?_; clear hG; clear Kg)) | ((with_reducible refine SqI ?_ (fun Kv hN hX hR => ?_)); (next => exact rfl)) | ((with_reducible refine JnI ?_ ?_); (next => exact rfl)) | ((with_reducible first | refine hN _ ?_ | refine hX _ _ ?_ | refine hR _ ?_); (try (clear hG; clear Kg)); clear hN hX hR; clear Kv) | ((conv => whnf); first | (with_reducible first | rfl | exact True.intro | intro _ | refine And.intro ?_ ?_) | ((with_reducible first | refine hN _ ?_ | refine hX _ _ ?_ | refine hR _ ?_); (try (clear hG; clear Kg)); clear hN hX hR; clear Kv) | (with_reducible first | refine BdS (fun Kv hN hX hR => ?_) | refine Stop.mk ?_ | refine Join.mk ⟨fun Kv hN hX hR => ?_, ?_⟩ | refine DrawJ.each ?_ | exact SubJ.self _) | with_reducible refine SubJ.of ?_ | (with_reducible first | refine FlS (fun Kf hF => ?_) | refine FlN ?_ | refine NdS (fun Kg hG => ?_) | (refine hF _ _ ?_; clear hF; clear Kf) | (refine hG _ _ _ _ ?_; clear hG; clear Kg))))); all_goals (conv => whnf); all_goals (repeat ((try (clear hG; clear Kg)); clear hN hX hR; clear Kv))
                   all_goals first
                     | exact wrapI (by omega) (by omega)
                     | rfl))
         | (have h := of_decide_eq_false (show decide ((i : Int) < (xs.length : Nat)) = false by with_reducible assumption)
            obtain rfl : i = xs.length := by omega
            have h2 := hi.2.1
            rw [List.take_of_length_le (Nat.le_refl _)] at h2
            have h3 := risingK_adj hi.2.2
            by_cases h4 : xs.length ≤ 16
            · rw [storeB_iff.2 ⟨h4, h3, h2⟩]
              exact decide_eq_true (by omega)
            · rw [storeB_no (fun h => h4 h.1)]
              exact decide_eq_false (by omega))
         | trace_state)
    | trace_state
end Go.Proofs.Ytaapoiikbolgnaa

/- Contracts: nodes: may they be; a new one. -/
namespace Go.Proofs.Ytaapoiikbolgnaa
open Go.RowKit
set_option maxRecDepth 20000

def nodeB (x : GNode) : Bool := viewB x.view && (storeB x.items && (decide (x.log.length ≤ 64) && (x.log.all toldB && (x.up || decide (x.view.peers.length + x.view.passive.length + x.items.length + x.log.length = 0)))))
theorem etaNode (x : GNode) : (⟨x.up, ⟨x.view.id, x.view.peers, x.view.passive⟩, x.items, x.log⟩ : GNode) = x := rfl
set_option maxHeartbeats 1000000 in
theorem k_nodeMay : Known Try.prog tau 17 (S1 dNode fun x => okB (nodeB x)) := by
  refine known1 hmix tau_ok (ctx_cons k_viewMay (ctx_cons k_storeMay (ctx_cons k_tContains ctx_nil))) (fn := Try.f17) (by kernel_rfl) [] (by kernel_rfl) _ _ fun x hfit => ⟨rfl, [], ?_⟩
  have hp1 : x.view.peers.length * 16 ≤ 140737488355328 := hfit.1.2.2.1
  have hp2 : x.view.passive.length * 8 ≤ 140737488355328 := hfit.1.2.2.2.1
  have hp3 : x.items.length * 40 ≤ 140737488355328 := hfit.1.2.2.2.2.1
  have hp4 : x.log.length * 24 ≤ 140737488355328 := hfit.1.2.2.2.2.2.1
  clear hfit
  have e1 : IntKind.i64.wrap (IntKind.i64.wrap (IntKind.i64.wrap ((x.view.peers.length : Int) + (x.view.passive.length : Int)) + (x.items.length : Int)) + (x.log.length : Int)) = ((x.view.peers.length + x.view.passive.length + x.items.length + x.log.length : Nat) : Int) := by
    rw [wrapI (n := (x.view.peers.length : Int) + (x.view.passive.length : Int)) (by omega) (by omega), wrapI (n := (x.view.peers.length : Int) + (x.view.passive.length : Int) + (x.items.length : Int)) (by omega) (by omega), wrapI (by omega) (by omega)]
    omega
  (repeat' (first | ((with_reducible refine BdI ?_); (first | ((with_reducible refine SqI ?_ (fun Kv hN hX hR => ?_)); (next => exact rfl)) | ((with_reducible refine JnI ?_ ?_); (next => exact rfl)) | (conv => whnf))) | (with_reducible first | refine BdS (fun Kv hN hX hR => ?_) | refine Stop.mk ?_ | refine Join.mk ⟨fun Kv hN hX hR => ?_, ?_⟩ | refine DrawJ.each ?_ | exact SubJ.self _) | with_reducible refine SubJ.of ?_ | (with_reducible first | refine FlS (fun Kf hF => ?_) | refine FlN ?_ | refine NdS (fun Kg hG => ?_) | (refine hF _ _ ?_; clear hF; clear Kf) | (refine hG _ _ _ _ ?_; clear hG; clear Kg)) | ((with_reducible refine SqI ?_ (fun Kv hN hX hR => ?_)); (next => exact rfl)) | ((with_reducible refine JnI ?_ ?_); (next => exact rfl)) | ((with_reducible first | refine hN _ ?_ | refine hX _ _ ?_ | refine hR _ ?_); (try (clear hG; clear Kg)); clear hN hX hR; clear Kv) | ((conv => whnf); first | (with_reducible first | rfl | exact True.intro | intro _ | refine And.intro ?_ ?_) | ((with_reducible first | refine hN _ ?_ | refine hX _ _ ?_ | refine hR _ ?_); (try (clear hG; clear Kg)); clear hN hX hR; clear Kv) | (with_reducible first | refine BdS (fun Kv hN hX hR => ?_) | refine Stop.mk ?_ | refine Join.mk ⟨fun Kv hN hX hR => ?_, ?_⟩ | refine DrawJ.each ?_ | exact SubJ.self _) | with_reducible refine SubJ.of ?_ | (with_reducible first | refine FlS (fun Kf hF => ?_) | refine FlN ?_ | refine NdS (fun Kg hG => ?_) | (refine hF _ _ ?_; clear hF; clear Kf) | (refine hG _ _ _ _ ?_; clear hG; clear Kg))))); all_goals (conv => whnf); all_goals (repeat ((try (clear hG; clear Kg)); clear hN hX hR; clear Kv))
  all_goals (try simp only [etaView, e1] at *)
  all_goals first
    | (have h1 := nf (show (!x.up) = true by with_reducible assumption)
       have h2 := of_decide_eq_true (show decide ((0 : Int) < ((x.view.peers.length + x.view.passive.length + x.items.length + x.log.length : Nat) : Int)) = true by with_reducible assumption)
       unfold nodeB
       rw [h1, decide_eq_false (show ¬ x.view.peers.length + x.view.passive.length + x.items.length + x.log.length = 0 by omega)]
       simp
       done)
    | (have h1 : viewB x.view = false := by with_reducible assumption
       unfold nodeB
       rw [h1, Bool.false_and])
    | (have h1 : storeB x.items = false := by with_reducible assumption
       unfold nodeB
       rw [h1, Bool.false_and, Bool.and_false])
    | (have h1 := of_decide_eq_false (show decide ((x.log.length : Int) ≤ 64) = false by with_reducible assumption)
       unfold nodeB
       rw [decide_eq_false (show ¬ x.log.length ≤ 64 by omega), Bool.false_and, Bool.and_false, Bool.and_false])
    | (have h1 : viewB x.view = true := by with_reducible assumption
       have h2 : storeB x.items = true := by with_reducible assumption
       have h3 := of_decide_eq_true (show decide ((x.log.length : Int) ≤ 64) = true by with_reducible assumption)
       unfold nodeB
       rw [any_not, Bool.not_not, h1, h2, decide_eq_true (show x.log.length ≤ 64 by omega)]
       have h4 : (x.up || decide (x.view.peers.length + x.view.passive.length + x.items.length + x.log.length = 0)) = true := by
         first
           | (rw [nt (show (!x.up) = false by with_reducible assumption)]; rfl)
           | (have h5 := of_decide_eq_false (show decide ((0 : Int) < ((x.view.peers.length + x.view.passive.length + x.items.length + x.log.length : Nat) : Int)) = false by with_reducible assumption)
              rw [decide_eq_true (show x.view.peers.length + x.view.passive.length + x.items.length + x.log.length = 0 by omega), Bool.or_true])
       rw [h4]
       simp
       done)
    | trace_state
noncomputable def newP (id : Int) : List Int → List Int → Option (List Int)
  | acc, [] => some acc
  | acc, y :: ys => if y = id then newP id acc ys else if (withP acc y).2 = 0 then newP id (withP acc y).1 ys else none
def nodeZ : GNode := ⟨false, ⟨0, [], []⟩, [], []⟩
noncomputable def newN (id : Int) (ids : List Int) : GNode × Int := Classical.choose (seal_ex (if placeB id = true then (match newP id [] ids with
  | some l => ((⟨true, ⟨id, [], l⟩, [], []⟩ : GNode), (0 : Int))
  | none => (nodeZ, 1600)) else (nodeZ, 1600)))
theorem newN_def (id : Int) (ids : List Int) : newN id ids = (if placeB id = true then (match newP id [] ids with
  | some l => ((⟨true, ⟨id, [], l⟩, [], []⟩ : GNode), (0 : Int))
  | none => (nodeZ, 1600)) else (nodeZ, 1600)) := Classical.choose_spec (seal_ex _)
theorem newN_no {id : Int} {ids : List Int} (h : placeB id = false ∨ newP id [] ids = none) : newN id ids = (nodeZ, 1600) := by
  rw [newN_def]
  rcases h with h | h
  · rw [h]; rfl
  · rw [h]; split <;> rfl
theorem newN_yes {id : Int} {ids l : List Int} (h1 : placeB id = true) (h : newP id [] ids = some l) : newN id ids = (⟨true, ⟨id, [], l⟩, [], []⟩, 0) := by
  rw [newN_def, h1, h]; rfl
theorem newP_bad {id : Int} (h1 : placeB id = true) : ∀ {ids acc : List Int}, ids.all placeB = false → newP id acc ids = none
  | [], _, h => by simp at h
  | y :: ys, acc, h => by
    rw [List.all_cons] at h
    unfold newP
    split
    · rename_i e
      subst e
      rw [h1, Bool.true_and] at h
      exact newP_bad h1 h
    · split
      · rename_i h2
        cases hy : placeB y with
        | true => rw [hy, Bool.true_and] at h; exact newP_bad h1 h
        | false => rw [withP_no (.inr hy)] at h2; simp at h2
      · rfl
theorem drop_one_more {α : Type} {d : α} {l : List α} {i : Nat} (h : i < l.length) : l.drop i = l.getD i d :: l.drop (i + 1) := by
  rw [List.drop_eq_getElem_cons h]
  simp [List.getD_eq_getElem?_getD, h]
theorem newP_same {id : Int} {acc xs : List Int} {i : Nat} (h : i < xs.length) (h2 : xs.getD i 0 = id) : newP id acc (xs.drop i) = newP id acc (xs.drop (i + 1)) := by
  rw [drop_one_more (d := 0) h, newP, if_pos h2]
theorem newP_bad2 {id : Int} {acc xs : List Int} {i : Nat} (h : i < xs.length) (h2 : ¬ xs.getD i 0 = id) (h3 : ¬ (withP acc (xs.getD i 0)).2 = 0) : newP id acc (xs.drop i) = none := by
  rw [drop_one_more (d := 0) h, newP, if_neg h2, if_neg h3]
theorem newP_next {id : Int} {acc xs : List Int} {i : Nat} (h : i < xs.length) (h2 : ¬ xs.getD i 0 = id) (h3 : (withP acc (xs.getD i 0)).2 = 0) : newP id acc (xs.drop i) = newP id (withP acc (xs.getD i 0)).1 (xs.drop (i + 1)) := by
  rw [drop_one_more (d := 0) h, newP, if_neg h2, if_pos h3]
theorem newP_end {id : Int} {acc xs : List Int} {i : Nat} (h : ¬ i < xs.length) : newP id acc (xs.drop i) = some acc := by
  rw [List.drop_eq_nil_of_le (by omega)]
  rfl
theorem withP_ne {l : List Int} {x : Int} (h : (withP l x).2 = 0) : (withP l x).1 ≠ [] := by
  rw [withP_def] at h ⊢
  split at h
  · rename_i h1
    rw [if_pos h1]
    split at h
    · rename_i h2
      rw [if_pos h2]
      intro e
      simp only at e
      rw [e] at h2
      simp [hasI] at h2
    · rename_i h2
      rw [if_neg h2]
      split at h
      · simp at h
      · rename_i h3
        rw [if_neg h3]
        simp [insP]
  · simp at h
theorem newP_go {id : Int} {acc xs : List Int} {i : Nat} (h : i < xs.length) (h2 : ¬ xs.getD i 0 = id) (h3 : (withP acc (xs.getD i 0)).2 = 0) (hl : newP id [] xs = newP id acc (xs.drop i)) :
    ∃ y W, (withP acc (xs.getD i 0)).1 = y :: W ∧ newP id [] xs = newP id (y :: W) (xs.drop (i + 1)) := by
  have h4 := hl.trans (newP_next h h2 h3)
  have h5 := withP_ne h3
  generalize (withP acc (xs.getD i 0)).1 = V at *
  rcases V with _ | ⟨y, W⟩
  · exact absurd rfl h5
  · exact ⟨y, W, rfl, h4⟩
/-- A new node. -/
def nNew (n : GNode) : List SV := [.bool n.up, .int .i64 n.view.id, .row .new (.peers n.view.peers), .own 0, .row .new (.items n.items), .row .new (.tolds n.log)]
set_option maxHeartbeats 2000000 in
theorem k_New : Known Try.prog tau 13 (S2 dInt dInts fun id ids => .ok (.tup [.agg (nNew (newN id ids).1), .int .i64 (newN id ids).2]) [.ints (newN id ids).1.view.passive]) := by
  refine known2 hmix tau_ok (ctx_cons k_Place (ctx_cons k_Places (ctx_cons k_passWith ctx_nil))) (fn := Try.f13) (by kernel_rfl) [] (by kernel_rfl) _ _ _ fun id xs hfit => ⟨rfl,
    [(5, invX (Nat × Bool × List Int) [5, 8, 9, 10, 25, 26, 27, 28, 29, 30, 31, 32, 33, 34, 35, 36, 37, 38, 39, 40, 41, 42, 43, 44, 45, 46] [6, 37, 50037] (fun g => g.1 ≤ xs.length ∧ newP id [] xs = newP id g.2.2 (xs.drop g.1)) (fun g st => match g.2.2, g.2.1 with
      | [], _ => withS [(25, .int .i64 g.1)] (withB [(6, (29, [.bool true, .int .i64 id, .nilS (.peers []), .nilS (.ints []), .nilS (.items []), .nilS (.tolds [])]))] st)
      | y :: ys, false => withS [(25, .int .i64 g.1)] (withR [(37, .own (.ints (y :: ys)))] (withB [(6, (29, [.bool true, .int .i64 id, .nilS (.peers []), .own 37, .nilS (.items []), .nilS (.tolds [])]))] st))
      | y :: ys, true => withS [(25, .int .i64 g.1)] (withR [(50037, .own (.ints (y :: ys)))] (withB [(6, (29, [.bool true, .int .i64 id, .nilS (.peers []), .own 50037, .nilS (.items []), .nilS (.tolds [])]))] st))) (fun g => xs.length - g.1))], ?_⟩
  have hlen : xs.length * 8 ≤ 140737488355328 := hfit.2.1
  clear hfit
  (repeat' (first | ((with_reducible refine BdI ?_); (first | ((with_reducible refine SqI ?_ (fun Kv hN hX hR => ?_)); (next => exact rfl)) | ((with_reducible refine JnI ?_ ?_); (next => exact rfl)) | (conv => whnf))) | (with_reducible first | refine BdS (fun Kv hN hX hR => ?_) | refine Stop.mk ?_ | refine Join.mk ⟨fun Kv hN hX hR => ?_, ?_⟩ | refine DrawJ.each ?_ | exact SubJ.self _) | with_reducible refine SubJ.of ?_ | (with_reducible first | refine FlS (fun Kf hF => ?_) | refine FlN ?_ | refine NdS (fun Kg hG => ?_) | (refine hF _ _ ?_; clear hF; clear Kf) | (refine hG _ _ _ _ ?_; clear hG; clear Kg)) | ((with_reducible refine SqI ?_ (fun Kv hN hX hR => ?_)); (next => exact rfl)) | ((with_reducible refine JnI ?_ ?_); (next => exact rfl)) | ((with_reducible first | refine hN _ ?_ | refine hX _ _ ?_ | refine hR _ ?_); (try (clear hG; clear Kg)); clear hN hX hR; clear Kv) | ((conv => whnf); first | (with_reducible first | rfl | exact True.intro | refine (fun (_ : (_ : Prop)) => ?_) | refine And.intro ?_ ?_) | ((with_reducible first | refine hN _ ?_ | refine hX _ _ ?_ | refine hR _ ?_); (try (clear hG; clear Kg)); clear hN hX hR; clear Kv) | (with_reducible first | refine BdS (fun Kv hN hX hR => ?_) | refine Stop.mk ?_ | refine Join.mk ⟨fun Kv hN hX hR => ?_, ?_⟩ | refine DrawJ.each ?_ | exact SubJ.self _) | with_reducible refine SubJ.of ?_ | (with_reducible first | refine FlS (fun Kf hF => ?_) | refine FlN ?_ | refine NdS (fun Kg hG => ?_) | (refine hF _ _ ?_; clear hF; clear Kf) | (refine hG _ _ _ _ ?_; clear hG; clear Kg))))); all_goals (conv => whnf); all_goals (repeat ((try (clear hG; clear Kg)); clear hN hX hR; clear Kv))
  all_goals first
    | (rw [newN_no (.inl (nf (show (!placeB id) = true by with_reducible assumption)))] <;> rfl)
    | (rw [newN_no (.inr (newP_bad (nt (show (!placeB id) = false by with_reducible assumption)) (nf (show (!xs.all placeB) = true by with_reducible assumption))))] <;> rfl)
    | (refine ⟨(0, false, []), ⟨Nat.zero_le _, rfl⟩, ?_⟩
       (repeat' (first | ((with_reducible refine BdI ?_); (first | ((with_reducible refine SqI ?_ (fun Kv hN hX hR => ?_)); (next => exact rfl)) | ((with_reducible refine JnI ?_ ?_); (next => exact rfl)) | (conv => whnf))) | (with_reducible first | refine BdS (fun Kv hN hX hR => ?_) | refine Stop.mk ?_ | refine Join.mk ⟨fun Kv hN hX hR => ?_, ?_⟩ | refine DrawJ.each ?_ | exact SubJ.self _) | with_reducible refine SubJ.of ?_ | (with_reducible first | refine FlS (fun Kf hF => ?_) | refine FlN ?_ | refine NdS (fun Kg hG => ?_) | (refine hF _ _ ?_; clear hF; clear Kf) | (refine hG _ _ _ _ ?_; clear hG; clear Kg)) | ((with_reducible refine SqI ?_ (fun Kv hN hX hR => ?_)); (next => exact rfl)) | ((with_reducible refine JnI ?_ ?_); (next => exact rfl)) | ((with_reducible first | refine hN _ ?_ | refine hX _ _ ?_ | refine hR _ ?_); (try (clear hG; clear Kg)); clear hN hX hR; clear Kv) | ((conv => whnf); first | (with_reducible first | rfl | exact True.intro | intro _ | refine And.intro ?_ ?_) | ((with_reducible first | refine hN _ ?_ | refine hX _ _ ?_ | refine hR _ ?_); (try (clear hG; clear Kg)); clear hN hX hR; clear Kv) | (with_reducible first | refine BdS (fun Kv hN hX hR => ?_) | refine Stop.mk ?_ | refine Join.mk ⟨fun Kv hN hX hR => ?_, ?_⟩ | refine DrawJ.each ?_ | exact SubJ.self _) | with_reducible refine SubJ.of ?_ | (with_reducible first | refine FlS (fun Kf hF => ?_) | refine FlN ?_ | refine NdS (fun Kg hG => ?_) | (refine hF _ _ ?_; clear hF; clear Kf) | (refine hG _ _ _ _ ?_; clear hG; clear Kg))))); all_goals (conv => whnf); all_goals (repeat ((try (clear hG; clear Kg)); clear hN hX hR; clear Kv))
       all_goals rfl)
    | (rintro ⟨i, kb, l⟩ ⟨hi, hl⟩
       dsimp only at hi hl
       have hid := nt (show (!placeB id) = false by with_reducible assumption)
       rcases l with _ | ⟨y, l⟩
       rotate_left
       rcases kb with _ | _
       all_goals
         (repeat' (first | ((with_reducible refine BdI ?_); (first | ((with_reducible refine SqI ?_ (fun Kv hN hX hR => ?_)); (next => exact rfl)) | ((with_reducible refine JnI ?_ ?_); (next => exact rfl)) | (conv => whnf))) | (with_reducible first | refine BdS (fun Kv hN hX hR => ?_) | refine Stop.mk ?_ | refine Join.mk ⟨fun Kv hN hX hR => ?_, ?_⟩ | refine DrawJ.each ?_ | exact SubJ.self _) | with_reducible refine SubJ.of ?_ | (with_reducible first | refine FlS (fun Kf hF => ?_) | refine FlN ?_ | refine NdS (fun Kg hG => ?_) | (refine hF _ _ ?_; clear hF; clear Kf) | (refine hG _ _ _ _ ?_; clear hG; clear Kg)) | ((with_reducible refine SqI ?_ (fun Kv hN hX hR => ?_)); (next => exact rfl)) | ((with_reducible refine JnI ?_ ?_); (next => exact rfl)) | ((with_reducible first | refine hN _ ?_ | refine hX _ _ ?_ | refine hR _ ?_); (try (clear hG; clear Kg)); clear hN hX hR; clear Kv) | ((conv => whnf); first | (with_reducible first | rfl | exact True.intro | intro _ | refine And.intro ?_ ?_) | ((with_reducible first | refine hN _ ?_ | refine hX _ _ ?_ | refine hR _ ?_); (try (clear hG; clear Kg)); clear hN hX hR; clear Kv) | (with_reducible first | refine BdS (fun Kv hN hX hR => ?_) | refine Stop.mk ?_ | refine Join.mk ⟨fun Kv hN hX hR => ?_, ?_⟩ | refine DrawJ.each ?_ | exact SubJ.self _) | with_reducible refine SubJ.of ?_ | (with_reducible first | refine FlS (fun Kf hF => ?_) | refine FlN ?_ | refine NdS (fun Kg hG => ?_) | (refine hF _ _ ?_; clear hF; clear Kf) | (refine hG _ _ _ _ ?_; clear hG; clear Kg))))); all_goals (conv => whnf); all_goals (repeat ((try (clear hG; clear Kg)); clear hN hX hR; clear Kv))
       all_goals (try dsimp only at *)
       all_goals (try simp only [Int.toNat_natCast] at *)
       all_goals first
         | (have h := of_decide_eq_true (show decide ((i : Int) < (xs.length : Nat)) = true by with_reducible assumption)
            first
              | exact Ob.mk ⟨by omega, h⟩
              | (have h2 := of_decide_eq_true (show decide (xs.getD i 0 = id) = true by with_reducible assumption)
                 refine ⟨(i + 1, false, _), ⟨by show i + 1 ≤ xs.length; omega, hl.trans (newP_same (by omega) h2)⟩, by show xs.length - (i + 1) < xs.length - i; omega, ?_⟩
                 (repeat' (first | ((with_reducible refine BdI ?_); (first | ((with_reducible refine SqI ?_ (fun Kv hN hX hR => ?_)); (next => exact rfl)) | ((with_reducible refine JnI ?_ ?_); (next => exact rfl)) | (conv => whnf))) | (with_reducible first | refine BdS (fun Kv hN hX hR => ?_) | refine Stop.mk ?_ | refine Join.mk ⟨fun Kv hN hX hR => ?_, ?_⟩ | refine DrawJ.each ?_ | exact SubJ.self _) | with_reducible refine SubJ.of ?_ | (with_reducible first | refine FlS (fun Kf hF => ?_) | refine FlN ?_ | refine NdS (fun Kg hG => ?_) | (refine hF _ _ ?_; clear hF; clear Kf) | (refine hG _ _ _ _ ?_; clear hG; clear Kg)) | ((with_reducible refine SqI ?_ (fun Kv hN hX hR => ?_)); (next => exact rfl)) | ((with_reducible refine JnI ?_ ?_); (next => exact rfl)) | ((with_reducible first | refine hN _ ?_ | refine hX _ _ ?_ | refine hR _ ?_); (try (clear hG; clear Kg)); clear hN hX hR; clear Kv) | ((conv => whnf); first | (with_reducible first | rfl | exact True.intro | intro _ | refine And.intro ?_ ?_) | ((with_reducible first | refine hN _ ?_ | refine hX _ _ ?_ | refine hR _ ?_); (try (clear hG; clear Kg)); clear hN hX hR; clear Kv) | (with_reducible first | refine BdS (fun Kv hN hX hR => ?_) | refine Stop.mk ?_ | refine Join.mk ⟨fun Kv hN hX hR => ?_, ?_⟩ | refine DrawJ.each ?_ | exact SubJ.self _) | with_reducible refine SubJ.of ?_ | (with_reducible first | refine FlS (fun Kf hF => ?_) | refine FlN ?_ | refine NdS (fun Kg hG => ?_) | (refine hF _ _ ?_; clear hF; clear Kf) | (refine hG _ _ _ _ ?_; clear hG; clear Kg))))); all_goals (conv => whnf); all_goals (repeat ((try (clear hG; clear Kg)); clear hN hX hR; clear Kv))
                 all_goals first
                   | exact wrapI (by omega) (by omega)
                   | rfl)
              | (have h2 := of_decide_eq_true (show decide (xs.getD i 0 = id) = true by with_reducible assumption)
                 refine ⟨(i + 1, true, _), ⟨by show i + 1 ≤ xs.length; omega, hl.trans (newP_same (by omega) h2)⟩, by show xs.length - (i + 1) < xs.length - i; omega, ?_⟩
                 (repeat' (first | ((with_reducible refine BdI ?_); (first | ((with_reducible refine SqI ?_ (fun Kv hN hX hR => ?_)); (next => exact rfl)) | ((with_reducible refine JnI ?_ ?_); (next => exact rfl)) | (conv => whnf))) | (with_reducible first | refine BdS (fun Kv hN hX hR => ?_) | refine Stop.mk ?_ | refine Join.mk ⟨fun Kv hN hX hR => ?_, ?_⟩ | refine DrawJ.each ?_ | exact SubJ.self _) | with_reducible refine SubJ.of ?_ | (with_reducible first | refine FlS (fun Kf hF => ?_) | refine FlN ?_ | refine NdS (fun Kg hG => ?_) | (refine hF _ _ ?_; clear hF; clear Kf) | (refine hG _ _ _ _ ?_; clear hG; clear Kg)) | ((with_reducible refine SqI ?_ (fun Kv hN hX hR => ?_)); (next => exact rfl)) | ((with_reducible refine JnI ?_ ?_); (next => exact rfl)) | ((with_reducible first | refine hN _ ?_ | refine hX _ _ ?_ | refine hR _ ?_); (try (clear hG; clear Kg)); clear hN hX hR; clear Kv) | ((conv => whnf); first | (with_reducible first | rfl | exact True.intro | intro _ | refine And.intro ?_ ?_) | ((with_reducible first | refine hN _ ?_ | refine hX _ _ ?_ | refine hR _ ?_); (try (clear hG; clear Kg)); clear hN hX hR; clear Kv) | (with_reducible first | refine BdS (fun Kv hN hX hR => ?_) | refine Stop.mk ?_ | refine Join.mk ⟨fun Kv hN hX hR => ?_, ?_⟩ | refine DrawJ.each ?_ | exact SubJ.self _) | with_reducible refine SubJ.of ?_ | (with_reducible first | refine FlS (fun Kf hF => ?_) | refine FlN ?_ | refine NdS (fun Kg hG => ?_) | (refine hF _ _ ?_; clear hF; clear Kf) | (refine hG _ _ _ _ ?_; clear hG; clear Kg))))); all_goals (conv => whnf); all_goals (repeat ((try (clear hG; clear Kg)); clear hN hX hR; clear Kv))
                 all_goals first
                   | exact wrapI (by omega) (by omega)
                   | rfl)
              | (have h2 := of_decide_eq_false (show decide (xs.getD i 0 = id) = false by with_reducible assumption)
                 have h3 := of_decide_eq_false (nf (b := decide ((withP _ (xs.getD i 0)).2 = 0)) (by with_reducible assumption))
                 rw [newN_no (.inr (hl.trans (newP_bad2 (by omega) h2 h3)))] <;> rfl)
              | (have h2 := of_decide_eq_false (show decide (xs.getD i 0 = id) = false by with_reducible assumption)
                 have h3 := of_decide_eq_true (nt (b := decide ((withP _ (xs.getD i 0)).2 = 0)) (by with_reducible assumption))
                 obtain ⟨y', W, hW, h4⟩ := newP_go (by omega) h2 h3 hl
                 refine ⟨(i + 1, false, y' :: W), ⟨by show i + 1 ≤ xs.length; omega, h4⟩, by show xs.length - (i + 1) < xs.length - i; omega, ?_⟩
                 · (try dsimp only)
                   (repeat' (first | ((with_reducible refine BdI ?_); (first | ((with_reducible refine SqI ?_ (fun Kv hN hX hR => ?_)); (next => exact rfl)) | ((with_reducible refine JnI ?_ ?_); (next => exact rfl)) | (conv => whnf))) | (with_reducible first | refine BdS (fun Kv hN hX hR => ?_) | refine Stop.mk ?_ | refine Join.mk ⟨fun Kv hN hX hR => ?_, ?_⟩ | refine DrawJ.each ?_ | exact SubJ.self _) | with_reducible refine SubJ.of ?_ | (with_reducible first | refine FlS (fun Kf hF => ?_) | refine FlN ?_ | refine NdS (fun Kg hG => ?_) | (refine hF _ _ ?_; clear hF; clear Kf) | (refine hG _ _ _ _ ?_; clear hG; clear Kg)) | ((with_reducible refine SqI ?_ (fun Kv hN hX hR => ?_)); (next => exact rfl)) | ((with_reducible refine JnI ?_ ?_); (next => exact rfl)) | ((with_reducible first | refine hN _ ?_ | refine hX _ _ ?_ | refine hR _ ?_); (try (clear hG; clear Kg)); clear hN hX hR; clear Kv) | ((conv => whnf); first | (with_reducible first | rfl | exact True.intro | intro _ | refine And.intro ?_ ?_) | ((with_reducible first | refine hN _ ?_ | refine hX _ _ ?_ | refine hR _ ?_); (try (clear hG; clear Kg)); clear hN hX hR; clear Kv) | (with_reducible first | refine BdS (fun Kv hN hX hR => ?_) | refine Stop.mk ?_ | refine Join.mk ⟨fun Kv hN hX hR => ?_, ?_⟩ | refine DrawJ.each ?_ | exact SubJ.self _) | with_reducible refine SubJ.of ?_ | (with_reducible first | refine FlS (fun Kf hF => ?_) | refine FlN ?_ | refine NdS (fun Kg hG => ?_) | (refine hF _ _ ?_; clear hF; clear Kf) | (refine hG _ _ _ _ ?_; clear hG; clear Kg))))); all_goals (conv => whnf); all_goals (repeat ((try (clear hG; clear Kg)); clear hN hX hR; clear Kv))
                   all_goals first
                     | exact wrapI (by omega) (by omega)
                     | exact congrArg Rw.ints hW
                     | exact congrArg Rw.ints hW.symm
                     | rfl)
              | (have h2 := of_decide_eq_false (show decide (xs.getD i 0 = id) = false by with_reducible assumption)
                 have h3 := of_decide_eq_true (nt (b := decide ((withP _ (xs.getD i 0)).2 = 0)) (by with_reducible assumption))
                 obtain ⟨y', W, hW, h4⟩ := newP_go (by omega) h2 h3 hl
                 refine ⟨(i + 1, true, y' :: W), ⟨by show i + 1 ≤ xs.length; omega, h4⟩, by show xs.length - (i + 1) < xs.length - i; omega, ?_⟩
                 · (try dsimp only)
                   (repeat' (first | ((with_reducible refine BdI ?_); (first | ((with_reducible refine SqI ?_ (fun Kv hN hX hR => ?_)); (next => exact rfl)) | ((with_reducible refine JnI ?_ ?_); (next => exact rfl)) | (conv => whnf))) | (with_reducible first | refine BdS (fun Kv hN hX hR => ?_) | refine Stop.mk ?_ | refine Join.mk ⟨fun Kv hN hX hR => ?_, ?_⟩ | refine DrawJ.each ?_ | exact SubJ.self _) | with_reducible refine SubJ.of ?_ | (with_reducible first | refine FlS (fun Kf hF => ?_) | refine FlN ?_ | refine NdS (fun Kg hG => ?_) | (refine hF _ _ ?_; clear hF; clear Kf) | (refine hG _ _ _ _ ?_; clear hG; clear Kg)) | ((with_reducible refine SqI ?_ (fun Kv hN hX hR => ?_)); (next => exact rfl)) | ((with_reducible refine JnI ?_ ?_); (next => exact rfl)) | ((with_reducible first | refine hN _ ?_ | refine hX _ _ ?_ | refine hR _ ?_); (try (clear hG; clear Kg)); clear hN hX hR; clear Kv) | ((conv => whnf); first | (with_reducible first | rfl | exact True.intro | intro _ | refine And.intro ?_ ?_) | ((with_reducible first | refine hN _ ?_ | refine hX _ _ ?_ | refine hR _ ?_); (try (clear hG; clear Kg)); clear hN hX hR; clear Kv) | (with_reducible first | refine BdS (fun Kv hN hX hR => ?_) | refine Stop.mk ?_ | refine Join.mk ⟨fun Kv hN hX hR => ?_, ?_⟩ | refine DrawJ.each ?_ | exact SubJ.self _) | with_reducible refine SubJ.of ?_ | (with_reducible first | refine FlS (fun Kf hF => ?_) | refine FlN ?_ | refine NdS (fun Kg hG => ?_) | (refine hF _ _ ?_; clear hF; clear Kf) | (refine hG _ _ _ _ ?_; clear hG; clear Kg))))); all_goals (conv => whnf); all_goals (repeat ((try (clear hG; clear Kg)); clear hN hX hR; clear Kv))
                   all_goals first
                     | exact wrapI (by omega) (by omega)
                     | exact congrArg Rw.ints hW
                     | exact congrArg Rw.ints hW.symm
                     | rfl))
         | (have h := of_decide_eq_false (show decide ((i : Int) < (xs.length : Nat)) = false by with_reducible assumption)
            rw [newN_yes hid (hl.trans (newP_end (by omega)))] <;> rfl)
         | trace_state)
    | trace_state
end Go.Proofs.Ytaapoiikbolgnaa

/- Contracts: views, stores, nodes: the document's. -/
namespace Go.Proofs.Ytaapoiikbolgnaa
open Go.RowKit
set_option maxRecDepth 20000

set_option maxHeartbeats 4000000 in
theorem k_refStore : Known Try.prog tau 47 (S1 dItems fun l => okB (storeB l)) := by
  refine known1 hmix tau_ok (ctx_cons k_refItem ctx_nil) (fn := Try.f47) (by kernel_rfl) [(4, [(0, 0), (1, 0), (2, 3), (3, 4), (4, 8), (5, 16), (6, 48), (7, 64), (8, 192), (9, 320), (10, 512), (11, 512), (12, 2560), (13, 5632), (14, 8704), (15, 16896), (16, 512), (17, 512), (18, 197120), (19, 262656), (20, 524800), (21, 1081856), (22, 2097728), (23, 4194368)])] (by kernel_rfl) _ _ fun xs hfit => ⟨rfl,
    [(2, invN (2 :: 3 :: 4 :: 5 :: 6 :: 7 :: 8 :: 9 :: 10 :: 11 :: 12 :: 13 :: 14 :: 15 :: 16 :: 17 :: 18 :: 19 :: 20 :: 21 :: 22 :: 23 :: 24 :: 25 :: 26 :: 27 :: 28 :: 29 :: 30 :: 31 :: 32 :: 33 :: []) (fun i => i ≤ xs.length ∧ (∀ x ∈ xs.take i, itemB x = true) ∧ ∀ t, t + 1 < i → (xs.getD t default).key < (xs.getD (t + 1) default).key) (fun i => withS [(3, .int .i64 i)]) (fun i => xs.length - i))], ?_⟩
  have hlen : xs.length * 40 ≤ 140737488355328 := hfit.1
  clear hfit
  (repeat' (first | ((with_reducible refine BdI ?_); (first | ((with_reducible refine SqI ?_ (fun Kv hN hX hR => ?_)); (next => exact rfl)) | ((with_reducible refine JnI ?_ ?_); (next => exact rfl)) | (conv => whnf))) | (with_reducible first | refine BdS (fun Kv hN hX hR => ?_) | refine Stop.mk ?_ | refine Join.mk ⟨fun Kv hN hX hR => ?_, ?_⟩ | refine DrawJ.each ?_ | exact SubJ.self _) | with_reducible refine SubJ.of ?_ | (with_reducible first | refine FlS (fun Kf hF => ?_) | refine FlN ?_ | refine NdS (fun Kg hG => ?_) | (refine hF _ _ ?_; clear hF; clear Kf) | (refine hG _ _ _ _ ?_; clear hG; clear Kg)) | ((with_reducible refine SqI ?_ (fun Kv hN hX hR => ?_)); (next => exact rfl)) | ((with_reducible refine JnI ?_ ?_); (next => exact rfl)) | ((with_reducible first | refine hN _ ?_ | refine hX _ _ ?_ | refine hR _ ?_); (try (clear hG; clear Kg)); clear hN hX hR; clear Kv) | ((conv => whnf); first | (with_reducible first | rfl | exact True.intro | refine (fun (_ : (_ : Prop)) => ?_) | refine And.intro ?_ ?_) | ((with_reducible first | refine hN _ ?_ | refine hX _ _ ?_ | refine hR _ ?_); (try (clear hG; clear Kg)); clear hN hX hR; clear Kv) | (with_reducible first | refine BdS (fun Kv hN hX hR => ?_) | refine Stop.mk ?_ | refine Join.mk ⟨fun Kv hN hX hR => ?_, ?_⟩ | refine DrawJ.each ?_ | exact SubJ.self _) | with_reducible refine SubJ.of ?_ | (with_reducible first | refine FlS (fun Kf hF => ?_) | refine FlN ?_ | refine NdS (fun Kg hG => ?_) | (refine hF _ _ ?_; clear hF; clear Kf) | (refine hG _ _ _ _ ?_; clear hG; clear Kg))))); all_goals (conv => whnf); all_goals (repeat ((try (clear hG; clear Kg)); clear hN hX hR; clear Kv))
  all_goals first
    | (refine ⟨0, ⟨by omega, by simp, by intros; omega⟩, ?_⟩
       (repeat' (first | ((with_reducible refine BdI ?_); (first | ((with_reducible refine SqI ?_ (fun Kv hN hX hR => ?_)); (next => exact rfl)) | ((with_reducible refine JnI ?_ ?_); (next => exact rfl)) | (conv => whnf))) | (with_reducible first | refine BdS (fun Kv hN hX hR => ?_) | refine Stop.mk ?_ | refine Join.mk ⟨fun Kv hN hX hR => ?_, ?_⟩ | refine DrawJ.each ?_ | exact SubJ.self _) | with_reducible refine SubJ.of ?_ | (with_reducible first | refine FlS (fun Kf hF => ?_) | refine FlN ?_ | refine NdS (fun Kg hG => ?_) | (refine hF _ _ ?_; clear hF; clear Kf) | (refine hG _ _ _ _ ?_; clear hG; clear Kg)) | ((with_reducible refine SqI ?_ (fun Kv hN hX hR => ?_)); (next => exact rfl)) | ((with_reducible refine JnI ?_ ?_); (next => exact rfl)) | ((with_reducible first | refine hN _ ?_ | refine hX _ _ ?_ | refine hR _ ?_); (try (clear hG; clear Kg)); clear hN hX hR; clear Kv) | ((conv => whnf); first | (with_reducible first | rfl | exact True.intro | intro _ | refine And.intro ?_ ?_) | ((with_reducible first | refine hN _ ?_ | refine hX _ _ ?_ | refine hR _ ?_); (try (clear hG; clear Kg)); clear hN hX hR; clear Kv) | (with_reducible first | refine BdS (fun Kv hN hX hR => ?_) | refine Stop.mk ?_ | refine Join.mk ⟨fun Kv hN hX hR => ?_, ?_⟩ | refine DrawJ.each ?_ | exact SubJ.self _) | with_reducible refine SubJ.of ?_ | (with_reducible first | refine FlS (fun Kf hF => ?_) | refine FlN ?_ | refine NdS (fun Kg hG => ?_) | (refine hF _ _ ?_; clear hF; clear Kf) | (refine hG _ _ _ _ ?_; clear hG; clear Kg))))); all_goals (conv => whnf); all_goals (repeat ((try (clear hG; clear Kg)); clear hN hX hR; clear Kv))
       all_goals rfl)
    | (with_reducible intro i hi
       (repeat' (first | ((with_reducible refine BdI ?_); (first | ((with_reducible refine SqI ?_ (fun Kv hN hX hR => ?_)); (next => exact rfl)) | ((with_reducible refine JnI ?_ ?_); (next => exact rfl)) | (conv => whnf))) | (with_reducible first | refine BdS (fun Kv hN hX hR => ?_) | refine Stop.mk ?_ | refine Join.mk ⟨fun Kv hN hX hR => ?_, ?_⟩ | refine DrawJ.each ?_ | exact SubJ.self _) | with_reducible refine SubJ.of ?_ | (with_reducible first | refine FlS (fun Kf hF => ?_) | refine FlN ?_ | refine NdS (fun Kg hG => ?_) | (refine hF _ _ ?_; clear hF; clear Kf) | (refine hG _ _ _ _ ?_; clear hG; clear Kg)) | ((with_reducible refine SqI ?_ (fun Kv hN hX hR => ?_)); (next => exact rfl)) | ((with_reducible refine JnI ?_ ?_); (next => exact rfl)) | ((with_reducible first | refine hN _ ?_ | refine hX _ _ ?_ | refine hR _ ?_); (try (clear hG; clear Kg)); clear hN hX hR; clear Kv) | ((conv => whnf); first | (with_reducible first | rfl | exact True.intro | intro _ | refine And.intro ?_ ?_) | ((with_reducible first | refine hN _ ?_ | refine hX _ _ ?_ | refine hR _ ?_); (try (clear hG; clear Kg)); clear hN hX hR; clear Kv) | (with_reducible first | refine BdS (fun Kv hN hX hR => ?_) | refine Stop.mk ?_ | refine Join.mk ⟨fun Kv hN hX hR => ?_, ?_⟩ | refine DrawJ.each ?_ | exact SubJ.self _) | with_reducible refine SubJ.of ?_ | (with_reducible first | refine FlS (fun Kf hF => ?_) | refine FlN ?_ | refine NdS (fun Kg hG => ?_) | (refine hF _ _ ?_; clear hF; clear Kf) | (refine hG _ _ _ _ ?_; clear hG; clear Kg))))); all_goals (conv => whnf); all_goals (repeat ((try (clear hG; clear Kg)); clear hN hX hR; clear Kv))
       all_goals (try simp only [Int.toNat_natCast, etaItem] at *)
       all_goals first
         | exact Ob.mk ⟨by omega, of_decide_eq_true (by with_reducible assumption)⟩
         | (have h := of_decide_eq_true (show decide ((i : Int) < (xs.length : Nat)) = true by with_reducible assumption)
            first
              | (have h0 := of_decide_eq_true (show decide (0 < (i : Int)) = true by with_reducible assumption)
                 have hb := back1 (i := i) (by omega) (by omega)
                 exact Ob.mk (by rw [hb.2]; omega))
              | (have hm := nf (show (!itemB (xs.getD i default)) = true by with_reducible assumption)
                 refine (storeB_no ?_).symm
                 rintro ⟨_, _, h3⟩
                 have := h3 _ (getD_mem (l := xs) (i := i) (d := default) (by omega))
                 rw [this] at hm
                 simp at hm)
              | (have h0 := of_decide_eq_true (show decide (0 < (i : Int)) = true by with_reducible assumption)
                 have hb := back1 (i := i) (by omega) (by omega)
                 have hm := of_decide_eq_true (show decide ((xs.getD i default).key ≤ (xs.getD (IntKind.i64.wrap ((i : Int) - 1)).toNat default).key) = true by with_reducible assumption)
                 rw [hb.1] at hm
                 refine (storeB_no ?_).symm
                 rintro ⟨_, h2, _⟩
                 have := h2 (i - 1) i (by omega) (by omega)
                 omega)
              | (have hp := nt (show (!itemB (xs.getD i default)) = false by with_reducible assumption)
                 refine ⟨i + 1, ⟨by omega, all_take_succ (d := default) (by omega) hi.2.1 hp, fun t ht => ?_⟩, by show xs.length - (i + 1) < xs.length - i; omega, ?_⟩
                 · rcases Nat.lt_or_eq_of_le (Nat.le_of_lt_succ ht) with h3 | h3
                   · exact hi.2.2 t h3
                   · first
                       | (have h0 := of_decide_eq_false (show decide (0 < (i : Int)) = false by with_reducible assumption)
                          omega)
                       | (have hb := back1 (i := i) (by omega) (by omega)
                          have hm := of_decide_eq_false (show decide ((xs.getD i default).key ≤ (xs.getD (IntKind.i64.wrap ((i : Int) - 1)).toNat default).key) = false by with_reducible assumption)
                          rw [hb.1] at hm
                          rw [show t = i - 1 by omega, show i - 1 + 1 = i by omega]
                          omega)
                 · (repeat' (first | ((with_reducible refine BdI ?_); (first | ((with_reducible refine SqI ?_ (fun Kv hN hX hR => ?_)); (next => exact rfl)) | ((with_reducible refine JnI ?_ ?_); (next => exact rfl)) | (conv => whnf))) | (with_reducible first | refine BdS (fun Kv hN hX hR => ?_) | refine Stop.mk ?_ | refine Join.mk ⟨fun Kv hN hX hR => ?_, ?_⟩ | refine DrawJ.each ?_ | exact SubJ.self _) | with_reducible refine SubJ.of ?_ | (with_reducible first | refine FlS (fun Kf hF => ?_) | refine FlN ?_ | refine NdS (fun Kg hG => ?_) | (refine hF _ _ ?_; clear hF; clear Kf) | (refine hG _ _ _ _ ?_; clear hG; clear Kg)) | ((with_reducible refine SqI ?_ (fun Kv hN hX hR => ?_)); (next => exact rfl)) | ((with_reducible refine JnI ?_ ?_); (next => exact rfl)) | ((with_reducible first | refine hN _ ?_ | refine hX _ _ ?_ | refine hR _ ?_); (try (clear hG; clear Kg)); clear hN hX hR; clear Kv) | ((conv => whnf); first | (with_reducible first | rfl | exact True.intro | intro _ | refine And.intro ?_ ?_) | ((with_reducible first | refine hN _ ?_ | refine hX _ _ ?_ | refine hR _ ?_); (try (clear hG; clear Kg)); clear hN hX hR; clear Kv) | (with_reducible first | refine BdS (fun Kv hN hX hR => ?_) | refine Stop.mk ?_ | refine Join.mk ⟨fun Kv hN hX hR => ?_, ?_⟩ | refine DrawJ.each ?_ | exact SubJ.self _) | with_reducible refine SubJ.of ?_ | (with_reducible first | refine FlS (fun Kf hF => ?_) | refine FlN ?_ | refine NdS (fun Kg hG => ?_) | (refine hF _ _ ?_; clear hF; clear Kf) | (refine hG _ _ _ _ ?_; clear hG; clear Kg))))); all_goals (conv => whnf); all_goals (repeat ((try (clear hG; clear Kg)); clear hN hX hR; clear Kv))
                   all_goals first
                     | exact wrapI (by omega) (by omega)
                     | rfl))
         | (have h := of_decide_eq_false (show decide ((i : Int) < (xs.length : Nat)) = false by with_reducible assumption)
            obtain rfl : i = xs.length := by omega
            have h2 := hi.2.1
            rw [List.take_of_length_le (Nat.le_refl _)] at h2
            have h3 := risingK_adj hi.2.2
            by_cases h4 : xs.length ≤ 16
            · rw [storeB_iff.2 ⟨h4, h3, h2⟩]
              exact decide_eq_true (by omega)
            · rw [storeB_no (fun h => h4 h.1)]
              exact decide_eq_false (by omega))
         | trace_state)
    | trace_state
def namesP (l : List GPeer) : List Int := l.map fun p => p.id
theorem namesP_succ {l : List GPeer} {i : Nat} (h : i < l.length) : namesP (l.take (i + 1)) = namesP (l.take i) ++ [(l.getD i default).id] := by
  unfold namesP
  rw [List.take_succ_eq_append_getElem h, List.map_append, etaP h]
  rfl
theorem namesP_len (l : List GPeer) : (namesP l).length = l.length := by simp [namesP]
theorem k_refNames : Known Try.prog tau 55 (S1 dPeers fun l => .ok (.own 0) [.ints (namesP l)]) := by
  refine known1 hmix tau_ok ctx_nil (fn := Try.f55) (by kernel_rfl) [] (by kernel_rfl) _ _ fun xs hfit => ⟨rfl,
    [(3, invX Nat [3, 4, 5, 6, 7, 8, 9, 10, 11, 12, 13, 14, 15, 16, 17, 18] [18] (fun i => i ≤ xs.length) (fun i => match i with
      | 0 => withS [(4, .int .i64 0), (3, .nilS (.ints []))]
      | i + 1 => fun st => withS [(4, .int .i64 ((i + 1 : Nat) : Int)), (3, .own 18)] (withR [(18, .own (.ints (namesP (xs.take (i + 1)))))] st)) (fun i => xs.length - i))], ?_⟩
  have hlen : xs.length * 16 ≤ 140737488355328 := hfit.1
  clear hfit
  (repeat' (first | ((with_reducible refine BdI ?_); (first | ((with_reducible refine SqI ?_ (fun Kv hN hX hR => ?_)); (next => exact rfl)) | ((with_reducible refine JnI ?_ ?_); (next => exact rfl)) | (conv => whnf))) | (with_reducible first | refine BdS (fun Kv hN hX hR => ?_) | refine Stop.mk ?_ | refine Join.mk ⟨fun Kv hN hX hR => ?_, ?_⟩ | refine DrawJ.each ?_ | exact SubJ.self _) | with_reducible refine SubJ.of ?_ | (with_reducible first | refine FlS (fun Kf hF => ?_) | refine FlN ?_ | refine NdS (fun Kg hG => ?_) | (refine hF _ _ ?_; clear hF; clear Kf) | (refine hG _ _ _ _ ?_; clear hG; clear Kg)) | ((with_reducible refine SqI ?_ (fun Kv hN hX hR => ?_)); (next => exact rfl)) | ((with_reducible refine JnI ?_ ?_); (next => exact rfl)) | ((with_reducible first | refine hN _ ?_ | refine hX _ _ ?_ | refine hR _ ?_); (try (clear hG; clear Kg)); clear hN hX hR; clear Kv) | ((conv => whnf); first | (with_reducible first | rfl | exact True.intro | refine (fun (_ : (_ : Prop)) => ?_) | refine And.intro ?_ ?_) | ((with_reducible first | refine hN _ ?_ | refine hX _ _ ?_ | refine hR _ ?_); (try (clear hG; clear Kg)); clear hN hX hR; clear Kv) | (with_reducible first | refine BdS (fun Kv hN hX hR => ?_) | refine Stop.mk ?_ | refine Join.mk ⟨fun Kv hN hX hR => ?_, ?_⟩ | refine DrawJ.each ?_ | exact SubJ.self _) | with_reducible refine SubJ.of ?_ | (with_reducible first | refine FlS (fun Kf hF => ?_) | refine FlN ?_ | refine NdS (fun Kg hG => ?_) | (refine hF _ _ ?_; clear hF; clear Kf) | (refine hG _ _ _ _ ?_; clear hG; clear Kg))))); all_goals (conv => whnf); all_goals (repeat ((try (clear hG; clear Kg)); clear hN hX hR; clear Kv))
  all_goals first
    | (refine ⟨0, Nat.zero_le _, ?_⟩
       (repeat' (first | ((with_reducible refine BdI ?_); (first | ((with_reducible refine SqI ?_ (fun Kv hN hX hR => ?_)); (next => exact rfl)) | ((with_reducible refine JnI ?_ ?_); (next => exact rfl)) | (conv => whnf))) | (with_reducible first | refine BdS (fun Kv hN hX hR => ?_) | refine Stop.mk ?_ | refine Join.mk ⟨fun Kv hN hX hR => ?_, ?_⟩ | refine DrawJ.each ?_ | exact SubJ.self _) | with_reducible refine SubJ.of ?_ | (with_reducible first | refine FlS (fun Kf hF => ?_) | refine FlN ?_ | refine NdS (fun Kg hG => ?_) | (refine hF _ _ ?_; clear hF; clear Kf) | (refine hG _ _ _ _ ?_; clear hG; clear Kg)) | ((with_reducible refine SqI ?_ (fun Kv hN hX hR => ?_)); (next => exact rfl)) | ((with_reducible refine JnI ?_ ?_); (next => exact rfl)) | ((with_reducible first | refine hN _ ?_ | refine hX _ _ ?_ | refine hR _ ?_); (try (clear hG; clear Kg)); clear hN hX hR; clear Kv) | ((conv => whnf); first | (with_reducible first | rfl | exact True.intro | intro _ | refine And.intro ?_ ?_) | ((with_reducible first | refine hN _ ?_ | refine hX _ _ ?_ | refine hR _ ?_); (try (clear hG; clear Kg)); clear hN hX hR; clear Kv) | (with_reducible first | refine BdS (fun Kv hN hX hR => ?_) | refine Stop.mk ?_ | refine Join.mk ⟨fun Kv hN hX hR => ?_, ?_⟩ | refine DrawJ.each ?_ | exact SubJ.self _) | with_reducible refine SubJ.of ?_ | (with_reducible first | refine FlS (fun Kf hF => ?_) | refine FlN ?_ | refine NdS (fun Kg hG => ?_) | (refine hF _ _ ?_; clear hF; clear Kf) | (refine hG _ _ _ _ ?_; clear hG; clear Kg))))); all_goals (conv => whnf); all_goals (repeat ((try (clear hG; clear Kg)); clear hN hX hR; clear Kv))
       all_goals rfl)
    | (with_reducible intro i hi
       rcases i with _ | i
       all_goals
         (repeat' (first | ((with_reducible refine BdI ?_); (first | ((with_reducible refine SqI ?_ (fun Kv hN hX hR => ?_)); (next => exact rfl)) | ((with_reducible refine JnI ?_ ?_); (next => exact rfl)) | (conv => whnf))) | (with_reducible first | refine BdS (fun Kv hN hX hR => ?_) | refine Stop.mk ?_ | refine Join.mk ⟨fun Kv hN hX hR => ?_, ?_⟩ | refine DrawJ.each ?_ | exact SubJ.self _) | with_reducible refine SubJ.of ?_ | (with_reducible first | refine FlS (fun Kf hF => ?_) | refine FlN ?_ | refine NdS (fun Kg hG => ?_) | (refine hF _ _ ?_; clear hF; clear Kf) | (refine hG _ _ _ _ ?_; clear hG; clear Kg)) | ((with_reducible refine SqI ?_ (fun Kv hN hX hR => ?_)); (next => exact rfl)) | ((with_reducible refine JnI ?_ ?_); (next => exact rfl)) | ((with_reducible first | refine hN _ ?_ | refine hX _ _ ?_ | refine hR _ ?_); (try (clear hG; clear Kg)); clear hN hX hR; clear Kv) | ((conv => whnf); first | (with_reducible first | rfl | exact True.intro | intro _ | refine And.intro ?_ ?_) | ((with_reducible first | refine hN _ ?_ | refine hX _ _ ?_ | refine hR _ ?_); (try (clear hG; clear Kg)); clear hN hX hR; clear Kv) | (with_reducible first | refine BdS (fun Kv hN hX hR => ?_) | refine Stop.mk ?_ | refine Join.mk ⟨fun Kv hN hX hR => ?_, ?_⟩ | refine DrawJ.each ?_ | exact SubJ.self _) | with_reducible refine SubJ.of ?_ | (with_reducible first | refine FlS (fun Kf hF => ?_) | refine FlN ?_ | refine NdS (fun Kg hG => ?_) | (refine hF _ _ ?_; clear hF; clear Kf) | (refine hG _ _ _ _ ?_; clear hG; clear Kg))))); all_goals (conv => whnf); all_goals (repeat ((try (clear hG; clear Kg)); clear hN hX hR; clear Kv))
       all_goals (try simp only [Int.toNat_natCast, Int.toNat_zero, List.nil_append] at *)
       all_goals first
         | exact Ob.mk ⟨by omega, of_decide_eq_true (by with_reducible assumption)⟩
         | (refine Ob.mk ?_
            simp only [Rw.len, Rw.bts, Rw.kd, kdBytes, List.length_cons, List.length_nil, List.length_append, namesP_len, List.length_take]
            omega)
         | (have h := of_decide_eq_true (show decide ((0 : Int) < (xs.length : Nat)) = true by with_reducible assumption)
            refine ⟨1, by omega, by show xs.length - 1 < xs.length - 0; omega, ?_⟩
            have e1 := namesP_succ (l := xs) (i := 0) (by omega)
            (repeat' (first | ((with_reducible refine BdI ?_); (first | ((with_reducible refine SqI ?_ (fun Kv hN hX hR => ?_)); (next => exact rfl)) | ((with_reducible refine JnI ?_ ?_); (next => exact rfl)) | (conv => whnf))) | (with_reducible first | refine BdS (fun Kv hN hX hR => ?_) | refine Stop.mk ?_ | refine Join.mk ⟨fun Kv hN hX hR => ?_, ?_⟩ | refine DrawJ.each ?_ | exact SubJ.self _) | with_reducible refine SubJ.of ?_ | (with_reducible first | refine FlS (fun Kf hF => ?_) | refine FlN ?_ | refine NdS (fun Kg hG => ?_) | (refine hF _ _ ?_; clear hF; clear Kf) | (refine hG _ _ _ _ ?_; clear hG; clear Kg)) | ((with_reducible refine SqI ?_ (fun Kv hN hX hR => ?_)); (next => exact rfl)) | ((with_reducible refine JnI ?_ ?_); (next => exact rfl)) | ((with_reducible first | refine hN _ ?_ | refine hX _ _ ?_ | refine hR _ ?_); (try (clear hG; clear Kg)); clear hN hX hR; clear Kv) | ((conv => whnf); first | (with_reducible first | rfl | exact True.intro | intro _ | refine And.intro ?_ ?_) | ((with_reducible first | refine hN _ ?_ | refine hX _ _ ?_ | refine hR _ ?_); (try (clear hG; clear Kg)); clear hN hX hR; clear Kv) | (with_reducible first | refine BdS (fun Kv hN hX hR => ?_) | refine Stop.mk ?_ | refine Join.mk ⟨fun Kv hN hX hR => ?_, ?_⟩ | refine DrawJ.each ?_ | exact SubJ.self _) | with_reducible refine SubJ.of ?_ | (with_reducible first | refine FlS (fun Kf hF => ?_) | refine FlN ?_ | refine NdS (fun Kg hG => ?_) | (refine hF _ _ ?_; clear hF; clear Kf) | (refine hG _ _ _ _ ?_; clear hG; clear Kg))))); all_goals (conv => whnf); all_goals (repeat ((try (clear hG; clear Kg)); clear hN hX hR; clear Kv))
            all_goals first
              | exact wrapI (by omega) (by omega)
              | exact congrArg Rw.ints e1.symm
              | rfl)
         | (have h := of_decide_eq_true (show decide (((i + 1 : Nat) : Int) < (xs.length : Nat)) = true by with_reducible assumption)
            refine ⟨i + 1 + 1, by omega, by show xs.length - (i + 1 + 1) < xs.length - (i + 1); omega, ?_⟩
            have e1 := namesP_succ (l := xs) (i := i + 1) (by omega)
            (repeat' (first | ((with_reducible refine BdI ?_); (first | ((with_reducible refine SqI ?_ (fun Kv hN hX hR => ?_)); (next => exact rfl)) | ((with_reducible refine JnI ?_ ?_); (next => exact rfl)) | (conv => whnf))) | (with_reducible first | refine BdS (fun Kv hN hX hR => ?_) | refine Stop.mk ?_ | refine Join.mk ⟨fun Kv hN hX hR => ?_, ?_⟩ | refine DrawJ.each ?_ | exact SubJ.self _) | with_reducible refine SubJ.of ?_ | (with_reducible first | refine FlS (fun Kf hF => ?_) | refine FlN ?_ | refine NdS (fun Kg hG => ?_) | (refine hF _ _ ?_; clear hF; clear Kf) | (refine hG _ _ _ _ ?_; clear hG; clear Kg)) | ((with_reducible refine SqI ?_ (fun Kv hN hX hR => ?_)); (next => exact rfl)) | ((with_reducible refine JnI ?_ ?_); (next => exact rfl)) | ((with_reducible first | refine hN _ ?_ | refine hX _ _ ?_ | refine hR _ ?_); (try (clear hG; clear Kg)); clear hN hX hR; clear Kv) | ((conv => whnf); first | (with_reducible first | rfl | exact True.intro | intro _ | refine And.intro ?_ ?_) | ((with_reducible first | refine hN _ ?_ | refine hX _ _ ?_ | refine hR _ ?_); (try (clear hG; clear Kg)); clear hN hX hR; clear Kv) | (with_reducible first | refine BdS (fun Kv hN hX hR => ?_) | refine Stop.mk ?_ | refine Join.mk ⟨fun Kv hN hX hR => ?_, ?_⟩ | refine DrawJ.each ?_ | exact SubJ.self _) | with_reducible refine SubJ.of ?_ | (with_reducible first | refine FlS (fun Kf hF => ?_) | refine FlN ?_ | refine NdS (fun Kg hG => ?_) | (refine hF _ _ ?_; clear hF; clear Kf) | (refine hG _ _ _ _ ?_; clear hG; clear Kg))))); all_goals (conv => whnf); all_goals (repeat ((try (clear hG; clear Kg)); clear hN hX hR; clear Kv))
            all_goals first
              | exact wrapI (by omega) (by omega)
              | exact congrArg Rw.ints e1.symm
              | rfl)
         | (have h := of_decide_eq_false (show decide ((0 : Int) < (xs.length : Nat)) = false by with_reducible assumption)
            obtain rfl : xs = [] := List.eq_nil_of_length_eq_zero (by omega)
            rfl)
         | (have h := of_decide_eq_false (show decide (((i + 1 : Nat) : Int) < (xs.length : Nat)) = false by with_reducible assumption)
            rw [List.take_of_length_le (by omega)])
         | trace_state)
    | trace_state
end Go.Proofs.Ytaapoiikbolgnaa

/- Contracts: views, nodes: the document's. -/
namespace Go.Proofs.Ytaapoiikbolgnaa
open Go.RowKit
set_option maxRecDepth 20000

theorem has_names {b x : Int} {l : List GPeer} (hb : placeB b = true) (hp : ∀ p ∈ l, peerB b p = true) (hx : placeB x = true) : hasP b l x = hasI (namesP l) x := by
  unfold hasP hasI namesP
  rw [List.any_map]
  induction l with
  | nil => rfl
  | cons p l ih =>
    rw [List.any_cons, List.any_cons, ih fun q hq => hp q (List.mem_cons_of_mem _ hq)]
    congr 1
    have h1 := hp p (List.mem_cons_self ..)
    simp only [peerB, Bool.and_eq_true] at h1
    have := far_inj hb h1.1 hx
    simp only [Function.comp]
    exact decide_eq_decide.2 this
def refOdd (v : GView) (x : Int) : Bool := decide (x = v.id) || hasI (namesP v.peers) x
theorem odd_same {v : GView} {x : Int} (h1 : peersB v.id v.peers = true) (hx : placeB x = true) : oddV v x = refOdd v x := by
  have h := peersB_iff.1 h1
  unfold oddV refOdd
  rw [has_names h.1 h.2.2.2 hx]
theorem view_ref {v : GView} (h : ∀ x ∈ v.passive, refOdd v x = false) : viewB v = (peersB v.id v.peers && (passB v.passive && decide (v.peers.length + v.passive.length ≤ 16))) := by
  unfold viewB
  cases h1 : peersB v.id v.peers with
  | false => rfl
  | true =>
    cases h2 : passB v.passive with
    | false => rfl
    | true =>
      have : v.passive.any (oddV v) = false := by
        rw [List.any_eq_false]
        intro x hx
        rw [odd_same h1 ((passB_iff.1 h2).2.2 x hx), h x hx]
        simp
      rw [this]
      simp
theorem view_ref_no {v : GView} {x : Int} (hx : x ∈ v.passive) (h : refOdd v x = true) : viewB v = false := by
  refine viewB_no ?_
  rintro ⟨h1, h2, _, h4⟩
  have := List.any_eq_false.1 h4 x hx
  rw [odd_same h1 ((passB_iff.1 h2).2.2 x hx), h] at this
  simp at this
set_option maxHeartbeats 4000000 in
theorem k_refView : Known Try.prog tau 33 (S1 dView fun v => okB (viewB v)) := by
  refine known1 hmix tau_ok (ctx_cons k_refNames (ctx_cons k_has (ctx_cons k_refPeers (ctx_cons k_refPassMay ctx_nil)))) (fn := Try.f33) (by kernel_rfl) [(5, [(0, 0), (1, 1), (2, 0), (3, 6), (4, 8), (5, 0), (6, 32), (7, 80), (8, 128), (9, 256), (10, 256), (11, 1280), (12, 256), (13, 6400), (14, 8448), (15, 17152), (16, 33024)])] (by kernel_rfl) _ _ fun v hfit => ⟨rfl,
    [(3, invN [2, 4, 8, 9, 10, 11, 12, 13, 14, 15, 16, 17, 18, 19, 20, 21, 22, 23, 24, 25, 26, 27, 28, 29, 30, 31] (fun i => i ≤ v.passive.length ∧ ∀ x ∈ v.passive.take i, refOdd v x = false) (fun i => withS [(4, .int .i64 i)]) (fun i => v.passive.length - i))], ?_⟩
  have hp1 : v.peers.length * 16 ≤ 140737488355328 := hfit.1.2.1
  have hp2 : v.passive.length * 8 ≤ 140737488355328 := hfit.1.2.2.1
  clear hfit
  (repeat' (first | ((with_reducible refine BdI ?_); (first | ((with_reducible refine SqI ?_ (fun Kv hN hX hR => ?_)); (next => exact rfl)) | ((with_reducible refine JnI ?_ ?_); (next => exact rfl)) | (conv => whnf))) | (with_reducible first | refine BdS (fun Kv hN hX hR => ?_) | refine Stop.mk ?_ | refine Join.mk ⟨fun Kv hN hX hR => ?_, ?_⟩ | refine DrawJ.each ?_ | exact SubJ.self _) | with_reducible refine SubJ.of ?_ | (with_reducible first | refine FlS (fun Kf hF => ?_) | refine FlN ?_ | refine NdS (fun Kg hG => ?_) | (refine hF _ _ ?_; clear hF; clear Kf) | (refine hG _ _ _ _ ?_; clear hG; clear Kg)) | ((with_reducible refine SqI ?_ (fun Kv hN hX hR => ?_)); (next => exact rfl)) | ((with_reducible refine JnI ?_ ?_); (next => exact rfl)) | ((with_reducible first | refine hN _ ?_ | refine hX _ _ ?_ | refine hR _ ?_); (try (clear hG; clear Kg)); clear hN hX hR; clear Kv) | ((conv => whnf); first | (with_reducible first | rfl | exact True.intro | refine (fun (_ : (_ : Prop)) => ?_) | refine And.intro ?_ ?_) | ((with_reducible first | refine hN _ ?_ | refine hX _ _ ?_ | refine hR _ ?_); (try (clear hG; clear Kg)); clear hN hX hR; clear Kv) | (with_reducible first | refine BdS (fun Kv hN hX hR => ?_) | refine Stop.mk ?_ | refine Join.mk ⟨fun Kv hN hX hR => ?_, ?_⟩ | refine DrawJ.each ?_ | exact SubJ.self _) | with_reducible refine SubJ.of ?_ | (with_reducible first | refine FlS (fun Kf hF => ?_) | refine FlN ?_ | refine NdS (fun Kg hG => ?_) | (refine hF _ _ ?_; clear hF; clear Kf) | (refine hG _ _ _ _ ?_; clear hG; clear Kg))))); all_goals (conv => whnf); all_goals (repeat ((try (clear hG; clear Kg)); clear hN hX hR; clear Kv))
  all_goals first
    | (refine ⟨0, ⟨by omega, by simp⟩, ?_⟩
       (repeat' (first | ((with_reducible refine BdI ?_); (first | ((with_reducible refine SqI ?_ (fun Kv hN hX hR => ?_)); (next => exact rfl)) | ((with_reducible refine JnI ?_ ?_); (next => exact rfl)) | (conv => whnf))) | (with_reducible first | refine BdS (fun Kv hN hX hR => ?_) | refine Stop.mk ?_ | refine Join.mk ⟨fun Kv hN hX hR => ?_, ?_⟩ | refine DrawJ.each ?_ | exact SubJ.self _) | with_reducible refine SubJ.of ?_ | (with_reducible first | refine FlS (fun Kf hF => ?_) | refine FlN ?_ | refine NdS (fun Kg hG => ?_) | (refine hF _ _ ?_; clear hF; clear Kf) | (refine hG _ _ _ _ ?_; clear hG; clear Kg)) | ((with_reducible refine SqI ?_ (fun Kv hN hX hR => ?_)); (next => exact rfl)) | ((with_reducible refine JnI ?_ ?_); (next => exact rfl)) | ((with_reducible first | refine hN _ ?_ | refine hX _ _ ?_ | refine hR _ ?_); (try (clear hG; clear Kg)); clear hN hX hR; clear Kv) | ((conv => whnf); first | (with_reducible first | rfl | exact True.intro | intro _ | refine And.intro ?_ ?_) | ((with_reducible first | refine hN _ ?_ | refine hX _ _ ?_ | refine hR _ ?_); (try (clear hG; clear Kg)); clear hN hX hR; clear Kv) | (with_reducible first | refine BdS (fun Kv hN hX hR => ?_) | refine Stop.mk ?_ | refine Join.mk ⟨fun Kv hN hX hR => ?_, ?_⟩ | refine DrawJ.each ?_ | exact SubJ.self _) | with_reducible refine SubJ.of ?_ | (with_reducible first | refine FlS (fun Kf hF => ?_) | refine FlN ?_ | refine NdS (fun Kg hG => ?_) | (refine hF _ _ ?_; clear hF; clear Kf) | (refine hG _ _ _ _ ?_; clear hG; clear Kg))))); all_goals (conv => whnf); all_goals (repeat ((try (clear hG; clear Kg)); clear hN hX hR; clear Kv))
       all_goals rfl)
    | (with_reducible intro i hi
       (repeat' (first | ((with_reducible refine BdI ?_); (first | ((with_reducible refine SqI ?_ (fun Kv hN hX hR => ?_)); (next => exact rfl)) | ((with_reducible refine JnI ?_ ?_); (next => exact rfl)) | (conv => whnf))) | (with_reducible first | refine BdS (fun Kv hN hX hR => ?_) | refine Stop.mk ?_ | refine Join.mk ⟨fun Kv hN hX hR => ?_, ?_⟩ | refine DrawJ.each ?_ | exact SubJ.self _) | with_reducible refine SubJ.of ?_ | (with_reducible first | refine FlS (fun Kf hF => ?_) | refine FlN ?_ | refine NdS (fun Kg hG => ?_) | (refine hF _ _ ?_; clear hF; clear Kf) | (refine hG _ _ _ _ ?_; clear hG; clear Kg)) | ((with_reducible refine SqI ?_ (fun Kv hN hX hR => ?_)); (next => exact rfl)) | ((with_reducible refine JnI ?_ ?_); (next => exact rfl)) | ((with_reducible first | refine hN _ ?_ | refine hX _ _ ?_ | refine hR _ ?_); (try (clear hG; clear Kg)); clear hN hX hR; clear Kv) | ((conv => whnf); first | (with_reducible first | rfl | exact True.intro | intro _ | refine And.intro ?_ ?_) | ((with_reducible first | refine hN _ ?_ | refine hX _ _ ?_ | refine hR _ ?_); (try (clear hG; clear Kg)); clear hN hX hR; clear Kv) | (with_reducible first | refine BdS (fun Kv hN hX hR => ?_) | refine Stop.mk ?_ | refine Join.mk ⟨fun Kv hN hX hR => ?_, ?_⟩ | refine DrawJ.each ?_ | exact SubJ.self _) | with_reducible refine SubJ.of ?_ | (with_reducible first | refine FlS (fun Kf hF => ?_) | refine FlN ?_ | refine NdS (fun Kg hG => ?_) | (refine hF _ _ ?_; clear hF; clear Kf) | (refine hG _ _ _ _ ?_; clear hG; clear Kg))))); all_goals (conv => whnf); all_goals (repeat ((try (clear hG; clear Kg)); clear hN hX hR; clear Kv))
       all_goals (try simp only [Int.toNat_natCast] at *)
       all_goals first
         | exact Ob.mk ⟨by omega, of_decide_eq_true (by with_reducible assumption)⟩
         | (have h := of_decide_eq_true (show decide ((i : Int) < (v.passive.length : Nat)) = true by with_reducible assumption)
            have hm : decide (v.passive.getD i 0 = v.id) = true := by with_reducible assumption
            exact (view_ref_no (x := v.passive.getD i 0) (getD_mem (by omega)) (by unfold refOdd; rw [hm, Bool.true_or])).symm)
         | (have h := of_decide_eq_true (show decide ((i : Int) < (v.passive.length : Nat)) = true by with_reducible assumption)
            have hm : hasI (namesP v.peers) (v.passive.getD i 0) = true := by with_reducible assumption
            exact (view_ref_no (x := v.passive.getD i 0) (getD_mem (by omega)) (by unfold refOdd; rw [hm, Bool.or_true])).symm)
         | (have h := of_decide_eq_true (show decide ((i : Int) < (v.passive.length : Nat)) = true by with_reducible assumption)
            have hm : decide (v.passive.getD i 0 = v.id) = false := by with_reducible assumption
            have hm2 : hasI (namesP v.peers) (v.passive.getD i 0) = false := by with_reducible assumption
            refine ⟨i + 1, ⟨by omega, all_take_succ (d := 0) (by omega) hi.2 (by unfold refOdd; rw [hm, hm2]; rfl)⟩, by show v.passive.length - (i + 1) < v.passive.length - i; omega, ?_⟩
            (repeat' (first | ((with_reducible refine BdI ?_); (first | ((with_reducible refine SqI ?_ (fun Kv hN hX hR => ?_)); (next => exact rfl)) | ((with_reducible refine JnI ?_ ?_); (next => exact rfl)) | (conv => whnf))) | (with_reducible first | refine BdS (fun Kv hN hX hR => ?_) | refine Stop.mk ?_ | refine Join.mk ⟨fun Kv hN hX hR => ?_, ?_⟩ | refine DrawJ.each ?_ | exact SubJ.self _) | with_reducible refine SubJ.of ?_ | (with_reducible first | refine FlS (fun Kf hF => ?_) | refine FlN ?_ | refine NdS (fun Kg hG => ?_) | (refine hF _ _ ?_; clear hF; clear Kf) | (refine hG _ _ _ _ ?_; clear hG; clear Kg)) | ((with_reducible refine SqI ?_ (fun Kv hN hX hR => ?_)); (next => exact rfl)) | ((with_reducible refine JnI ?_ ?_); (next => exact rfl)) | ((with_reducible first | refine hN _ ?_ | refine hX _ _ ?_ | refine hR _ ?_); (try (clear hG; clear Kg)); clear hN hX hR; clear Kv) | ((conv => whnf); first | (with_reducible first | rfl | exact True.intro | intro _ | refine And.intro ?_ ?_) | ((with_reducible first | refine hN _ ?_ | refine hX _ _ ?_ | refine hR _ ?_); (try (clear hG; clear Kg)); clear hN hX hR; clear Kv) | (with_reducible first | refine BdS (fun Kv hN hX hR => ?_) | refine Stop.mk ?_ | refine Join.mk ⟨fun Kv hN hX hR => ?_, ?_⟩ | refine DrawJ.each ?_ | exact SubJ.self _) | with_reducible refine SubJ.of ?_ | (with_reducible first | refine FlS (fun Kf hF => ?_) | refine FlN ?_ | refine NdS (fun Kg hG => ?_) | (refine hF _ _ ?_; clear hF; clear Kf) | (refine hG _ _ _ _ ?_; clear hG; clear Kg))))); all_goals (conv => whnf); all_goals (repeat ((try (clear hG; clear Kg)); clear hN hX hR; clear Kv))
            all_goals first
              | exact wrapI (by omega) (by omega)
              | rfl)
         | (have h := of_decide_eq_false (show decide ((i : Int) < (v.passive.length : Nat)) = false by with_reducible assumption)
            have h2 := hi.2
            rw [List.take_of_length_le (by omega)] at h2
            have e1 : IntKind.i64.wrap ((v.peers.length : Int) + (v.passive.length : Int)) = v.peers.length + v.passive.length := wrapI (by omega) (by omega)
            (try rw [e1])
            rw [view_ref h2]
            first
              | (rw [show peersB v.id v.peers = false by with_reducible assumption]; rfl)
              | (rw [show peersB v.id v.peers = true by with_reducible assumption, show passB v.passive = false by with_reducible assumption]; rfl)
              | (rw [show peersB v.id v.peers = true by with_reducible assumption, show passB v.passive = true by with_reducible assumption, Bool.true_and, Bool.true_and]
                 exact decide_eq_decide.2 (by omega)))
         | trace_state)
    | trace_state
theorem nodeB_down {x : GNode} (h : x.up = false) : nodeB x = (decide (x.view.peers.length + x.view.passive.length + x.items.length + x.log.length = 0) && placeB x.view.id) := by
  obtain ⟨up, ⟨id, ps, qs⟩, is, lg⟩ := x
  obtain rfl : up = false := h
  unfold nodeB
  by_cases h0 : ps.length + qs.length + is.length + lg.length = 0
  · obtain rfl : ps = [] := List.eq_nil_of_length_eq_zero (by omega)
    obtain rfl : qs = [] := List.eq_nil_of_length_eq_zero (by omega)
    obtain rfl : is = [] := List.eq_nil_of_length_eq_zero (by omega)
    obtain rfl : lg = [] := List.eq_nil_of_length_eq_zero (by omega)
    simp [viewB, peersB, passB, storeB]
  · simp only [decide_eq_false h0, Bool.false_or, Bool.and_false, Bool.false_and]
theorem nodeB_up {x : GNode} (h : x.up = true) : nodeB x = (viewB x.view && (storeB x.items && (decide (x.log.length ≤ 64) && x.log.all toldB))) := by
  unfold nodeB
  rw [h, Bool.true_or, Bool.and_true]
theorem k_refByte16 : Known Try.prog tau 46 (S1 dInt fun x => okB (placeB x)) := by
  refine known1 hmix tau_ok ctx_nil (fn := Try.f46) (by kernel_rfl) [] (by kernel_rfl) _ _ fun x hfit => ⟨rfl, [], ?_⟩
  (repeat' (first | ((with_reducible refine BdI ?_); (first | ((with_reducible refine SqI ?_ (fun Kv hN hX hR => ?_)); (next => exact rfl)) | ((with_reducible refine JnI ?_ ?_); (next => exact rfl)) | (conv => whnf))) | (with_reducible first | refine BdS (fun Kv hN hX hR => ?_) | refine Stop.mk ?_ | refine Join.mk ⟨fun Kv hN hX hR => ?_, ?_⟩ | refine DrawJ.each ?_ | exact SubJ.self _) | with_reducible refine SubJ.of ?_ | (with_reducible first | refine FlS (fun Kf hF => ?_) | refine FlN ?_ | refine NdS (fun Kg hG => ?_) | (refine hF _ _ ?_; clear hF; clear Kf) | (refine hG _ _ _ _ ?_; clear hG; clear Kg)) | ((with_reducible refine SqI ?_ (fun Kv hN hX hR => ?_)); (next => exact rfl)) | ((with_reducible refine JnI ?_ ?_); (next => exact rfl)) | ((with_reducible first | refine hN _ ?_ | refine hX _ _ ?_ | refine hR _ ?_); (try (clear hG; clear Kg)); clear hN hX hR; clear Kv) | ((conv => whnf); first | (with_reducible first | rfl | exact True.intro | intro _ | refine And.intro ?_ ?_) | ((with_reducible first | refine hN _ ?_ | refine hX _ _ ?_ | refine hR _ ?_); (try (clear hG; clear Kg)); clear hN hX hR; clear Kv) | (with_reducible first | refine BdS (fun Kv hN hX hR => ?_) | refine Stop.mk ?_ | refine Join.mk ⟨fun Kv hN hX hR => ?_, ?_⟩ | refine DrawJ.each ?_ | exact SubJ.self _) | with_reducible refine SubJ.of ?_ | (with_reducible first | refine FlS (fun Kf hF => ?_) | refine FlN ?_ | refine NdS (fun Kg hG => ?_) | (refine hF _ _ ?_; clear hF; clear Kf) | (refine hG _ _ _ _ ?_; clear hG; clear Kg))))); all_goals (conv => whnf); all_goals (repeat ((try (clear hG; clear Kg)); clear hN hX hR; clear Kv))
  all_goals simp_all [placeB]
  all_goals omega
set_option maxHeartbeats 4000000 in
theorem k_refNode : Known Try.prog tau 18 (S1 dNode fun x => okB (nodeB x)) := by
  refine known1 hmix tau_ok (ctx_cons k_refPlace (ctx_cons k_refView (ctx_cons k_refByte16 (ctx_cons k_refStore ctx_nil)))) (fn := Try.f18) (by kernel_rfl) [] (by kernel_rfl) _ _ fun x hfit => ⟨rfl,
    [(4, invN (2 :: 3 :: 4 :: 32 :: 33 :: 34 :: 35 :: 36 :: 37 :: 38 :: 39 :: 40 :: 41 :: 42 :: 43 :: 44 :: 45 :: 46 :: 47 :: 48 :: 49 :: 50 :: 51 :: 52 :: 53 :: 54 :: 55 :: 56 :: 57 :: 58 :: 59 :: 60 :: 61 :: 62 :: 63 :: []) (fun i => i ≤ x.log.length ∧ ∀ t ∈ x.log.take i, toldB t = true) (fun i => withS [(3, .int .i64 i)]) (fun i => x.log.length - i))], ?_⟩
  have hp1 : x.view.peers.length * 16 ≤ 140737488355328 := hfit.1.2.2.1
  have hp2 : x.view.passive.length * 8 ≤ 140737488355328 := hfit.1.2.2.2.1
  have hp3 : x.items.length * 40 ≤ 140737488355328 := hfit.1.2.2.2.2.1
  have hp4 : x.log.length * 24 ≤ 140737488355328 := hfit.1.2.2.2.2.2.1
  clear hfit
  have e1 : IntKind.i64.wrap (IntKind.i64.wrap (IntKind.i64.wrap ((x.view.peers.length : Int) + (x.view.passive.length : Int)) + (x.items.length : Int)) + (x.log.length : Int)) = ((x.view.peers.length + x.view.passive.length + x.items.length + x.log.length : Nat) : Int) := by
    rw [wrapI (n := (x.view.peers.length : Int) + (x.view.passive.length : Int)) (by omega) (by omega), wrapI (n := (x.view.peers.length : Int) + (x.view.passive.length : Int) + (x.items.length : Int)) (by omega) (by omega), wrapI (by omega) (by omega)]
    omega
  (repeat' (first | ((with_reducible refine BdI ?_); (first | ((with_reducible refine SqI ?_ (fun Kv hN hX hR => ?_)); (next => exact rfl)) | ((with_reducible refine JnI ?_ ?_); (next => exact rfl)) | (conv => whnf))) | (with_reducible first | refine BdS (fun Kv hN hX hR => ?_) | refine Stop.mk ?_ | refine Join.mk ⟨fun Kv hN hX hR => ?_, ?_⟩ | refine DrawJ.each ?_ | exact SubJ.self _) | with_reducible refine SubJ.of ?_ | (with_reducible first | refine FlS (fun Kf hF => ?_) | refine FlN ?_ | refine NdS (fun Kg hG => ?_) | (refine hF _ _ ?_; clear hF; clear Kf) | (refine hG _ _ _ _ ?_; clear hG; clear Kg)) | ((with_reducible refine SqI ?_ (fun Kv hN hX hR => ?_)); (next => exact rfl)) | ((with_reducible refine JnI ?_ ?_); (next => exact rfl)) | ((with_reducible first | refine hN _ ?_ | refine hX _ _ ?_ | refine hR _ ?_); (try (clear hG; clear Kg)); clear hN hX hR; clear Kv) | ((conv => whnf); first | (with_reducible first | rfl | exact True.intro | refine (fun (_ : (_ : Prop)) => ?_) | refine And.intro ?_ ?_) | ((with_reducible first | refine hN _ ?_ | refine hX _ _ ?_ | refine hR _ ?_); (try (clear hG; clear Kg)); clear hN hX hR; clear Kv) | (with_reducible first | refine BdS (fun Kv hN hX hR => ?_) | refine Stop.mk ?_ | refine Join.mk ⟨fun Kv hN hX hR => ?_, ?_⟩ | refine DrawJ.each ?_ | exact SubJ.self _) | with_reducible refine SubJ.of ?_ | (with_reducible first | refine FlS (fun Kf hF => ?_) | refine FlN ?_ | refine NdS (fun Kg hG => ?_) | (refine hF _ _ ?_; clear hF; clear Kf) | (refine hG _ _ _ _ ?_; clear hG; clear Kg))))); all_goals (conv => whnf); all_goals (repeat ((try (clear hG; clear Kg)); clear hN hX hR; clear Kv))
  all_goals (try simp only [e1] at *)
  all_goals first
    | (have h1 := nf (show (!x.up) = true by with_reducible assumption)
       rw [nodeB_down h1]
       first
         | (have h2 := of_decide_eq_true (show decide (((x.view.peers.length + x.view.passive.length + x.items.length + x.log.length : Nat) : Int) = 0) = true by with_reducible assumption)
            rw [decide_eq_true (show x.view.peers.length + x.view.passive.length + x.items.length + x.log.length = 0 by omega), Bool.true_and])
         | (have h2 := of_decide_eq_false (show decide (((x.view.peers.length + x.view.passive.length + x.items.length + x.log.length : Nat) : Int) = 0) = false by with_reducible assumption)
            rw [decide_eq_false (show ¬ x.view.peers.length + x.view.passive.length + x.items.length + x.log.length = 0 by omega), Bool.false_and])
         | trace_state)
    | (refine ⟨0, ⟨by omega, by simp⟩, ?_⟩
       (repeat' (first | ((with_reducible refine BdI ?_); (first | ((with_reducible refine SqI ?_ (fun Kv hN hX hR => ?_)); (next => exact rfl)) | ((with_reducible refine JnI ?_ ?_); (next => exact rfl)) | (conv => whnf))) | (with_reducible first | refine BdS (fun Kv hN hX hR => ?_) | refine Stop.mk ?_ | refine Join.mk ⟨fun Kv hN hX hR => ?_, ?_⟩ | refine DrawJ.each ?_ | exact SubJ.self _) | with_reducible refine SubJ.of ?_ | (with_reducible first | refine FlS (fun Kf hF => ?_) | refine FlN ?_ | refine NdS (fun Kg hG => ?_) | (refine hF _ _ ?_; clear hF; clear Kf) | (refine hG _ _ _ _ ?_; clear hG; clear Kg)) | ((with_reducible refine SqI ?_ (fun Kv hN hX hR => ?_)); (next => exact rfl)) | ((with_reducible refine JnI ?_ ?_); (next => exact rfl)) | ((with_reducible first | refine hN _ ?_ | refine hX _ _ ?_ | refine hR _ ?_); (try (clear hG; clear Kg)); clear hN hX hR; clear Kv) | ((conv => whnf); first | (with_reducible first | rfl | exact True.intro | intro _ | refine And.intro ?_ ?_) | ((with_reducible first | refine hN _ ?_ | refine hX _ _ ?_ | refine hR _ ?_); (try (clear hG; clear Kg)); clear hN hX hR; clear Kv) | (with_reducible first | refine BdS (fun Kv hN hX hR => ?_) | refine Stop.mk ?_ | refine Join.mk ⟨fun Kv hN hX hR => ?_, ?_⟩ | refine DrawJ.each ?_ | exact SubJ.self _) | with_reducible refine SubJ.of ?_ | (with_reducible first | refine FlS (fun Kf hF => ?_) | refine FlN ?_ | refine NdS (fun Kg hG => ?_) | (refine hF _ _ ?_; clear hF; clear Kf) | (refine hG _ _ _ _ ?_; clear hG; clear Kg))))); all_goals (conv => whnf); all_goals (repeat ((try (clear hG; clear Kg)); clear hN hX hR; clear Kv))
       all_goals rfl)
    | (with_reducible intro i hi
       have hup := nt (show (!x.up) = false by with_reducible assumption)
       (repeat' (first | ((with_reducible refine BdI ?_); (first | ((with_reducible refine SqI ?_ (fun Kv hN hX hR => ?_)); (next => exact rfl)) | ((with_reducible refine JnI ?_ ?_); (next => exact rfl)) | (conv => whnf))) | (with_reducible first | refine BdS (fun Kv hN hX hR => ?_) | refine Stop.mk ?_ | refine Join.mk ⟨fun Kv hN hX hR => ?_, ?_⟩ | refine DrawJ.each ?_ | exact SubJ.self _) | with_reducible refine SubJ.of ?_ | (with_reducible first | refine FlS (fun Kf hF => ?_) | refine FlN ?_ | refine NdS (fun Kg hG => ?_) | (refine hF _ _ ?_; clear hF; clear Kf) | (refine hG _ _ _ _ ?_; clear hG; clear Kg)) | ((with_reducible refine SqI ?_ (fun Kv hN hX hR => ?_)); (next => exact rfl)) | ((with_reducible refine JnI ?_ ?_); (next => exact rfl)) | ((with_reducible first | refine hN _ ?_ | refine hX _ _ ?_ | refine hR _ ?_); (try (clear hG; clear Kg)); clear hN hX hR; clear Kv) | ((conv => whnf); first | (with_reducible first | rfl | exact True.intro | intro _ | refine And.intro ?_ ?_) | ((with_reducible first | refine hN _ ?_ | refine hX _ _ ?_ | refine hR _ ?_); (try (clear hG; clear Kg)); clear hN hX hR; clear Kv) | (with_reducible first | refine BdS (fun Kv hN hX hR => ?_) | refine Stop.mk ?_ | refine Join.mk ⟨fun Kv hN hX hR => ?_, ?_⟩ | refine DrawJ.each ?_ | exact SubJ.self _) | with_reducible refine SubJ.of ?_ | (with_reducible first | refine FlS (fun Kf hF => ?_) | refine FlN ?_ | refine NdS (fun Kg hG => ?_) | (refine hF _ _ ?_; clear hF; clear Kf) | (refine hG _ _ _ _ ?_; clear hG; clear Kg))))); all_goals (conv => whnf); all_goals (repeat ((try (clear hG; clear Kg)); clear hN hX hR; clear Kv))
       all_goals (try simp only [Int.toNat_natCast, etaView] at *)
       all_goals first
         | exact Ob.mk ⟨by omega, of_decide_eq_true (by with_reducible assumption)⟩
         | (have h := of_decide_eq_true (show decide ((i : Int) < (x.log.length : Nat)) = true by with_reducible assumption)
            have hm : toldB (x.log.getD i default) = true := by
              simp_all [toldB]
              done
            refine ⟨i + 1, ⟨by omega, all_take_succ (d := default) (by omega) hi.2 hm⟩, by show x.log.length - (i + 1) < x.log.length - i; omega, ?_⟩
            (repeat' (first | ((with_reducible refine BdI ?_); (first | ((with_reducible refine SqI ?_ (fun Kv hN hX hR => ?_)); (next => exact rfl)) | ((with_reducible refine JnI ?_ ?_); (next => exact rfl)) | (conv => whnf))) | (with_reducible first | refine BdS (fun Kv hN hX hR => ?_) | refine Stop.mk ?_ | refine Join.mk ⟨fun Kv hN hX hR => ?_, ?_⟩ | refine DrawJ.each ?_ | exact SubJ.self _) | with_reducible refine SubJ.of ?_ | (with_reducible first | refine FlS (fun Kf hF => ?_) | refine FlN ?_ | refine NdS (fun Kg hG => ?_) | (refine hF _ _ ?_; clear hF; clear Kf) | (refine hG _ _ _ _ ?_; clear hG; clear Kg)) | ((with_reducible refine SqI ?_ (fun Kv hN hX hR => ?_)); (next => exact rfl)) | ((with_reducible refine JnI ?_ ?_); (next => exact rfl)) | ((with_reducible first | refine hN _ ?_ | refine hX _ _ ?_ | refine hR _ ?_); (try (clear hG; clear Kg)); clear hN hX hR; clear Kv) | ((conv => whnf); first | (with_reducible first | rfl | exact True.intro | intro _ | refine And.intro ?_ ?_) | ((with_reducible first | refine hN _ ?_ | refine hX _ _ ?_ | refine hR _ ?_); (try (clear hG; clear Kg)); clear hN hX hR; clear Kv) | (with_reducible first | refine BdS (fun Kv hN hX hR => ?_) | refine Stop.mk ?_ | refine Join.mk ⟨fun Kv hN hX hR => ?_, ?_⟩ | refine DrawJ.each ?_ | exact SubJ.self _) | with_reducible refine SubJ.of ?_ | (with_reducible first | refine FlS (fun Kf hF => ?_) | refine FlN ?_ | refine NdS (fun Kg hG => ?_) | (refine hF _ _ ?_; clear hF; clear Kf) | (refine hG _ _ _ _ ?_; clear hG; clear Kg))))); all_goals (conv => whnf); all_goals (repeat ((try (clear hG; clear Kg)); clear hN hX hR; clear Kv))
            all_goals first
              | exact wrapI (by omega) (by omega)
              | rfl)
         | (have h := of_decide_eq_true (show decide ((i : Int) < (x.log.length : Nat)) = true by with_reducible assumption)
            have hm : toldB (x.log.getD i default) = false := by
              simp_all [toldB]
              done
            rw [nodeB_up hup, List.all_eq_false.2 ⟨x.log.getD i default, getD_mem (d := default) (by omega), by rw [hm]; simp⟩]
            simp
            done)
         | (have h := of_decide_eq_false (show decide ((i : Int) < (x.log.length : Nat)) = false by with_reducible assumption)
            have h2 := hi.2
            rw [List.take_of_length_le (by omega)] at h2
            rw [nodeB_up hup, List.all_eq_true.2 h2, Bool.and_true]
            first
              | (rw [show viewB x.view = false by with_reducible assumption]; rfl)
              | (rw [show viewB x.view = true by with_reducible assumption, show storeB x.items = false by with_reducible assumption]; rfl)
              | (rw [show viewB x.view = true by with_reducible assumption, show storeB x.items = true by with_reducible assumption, Bool.true_and, Bool.true_and]
                 exact decide_eq_decide.2 (by omega)))
         | trace_state)
    | trace_state
end Go.Proofs.Ytaapoiikbolgnaa

/- Contracts: a new node: the document's; comparisons. -/
namespace Go.Proofs.Ytaapoiikbolgnaa
open Go.RowKit
set_option maxRecDepth 20000

set_option maxHeartbeats 2000000 in
theorem k_refNew : Known Try.prog tau 14 (S2 dInt dInts fun id ids => .ok (.tup [.agg (nNew (newN id ids).1), .int .i64 (newN id ids).2]) [.ints (newN id ids).1.view.passive]) := by
  refine known2 hmix tau_ok (ctx_cons k_refPlace (ctx_cons k_refWith ctx_nil)) (fn := Try.f14) (by kernel_rfl) [] (by kernel_rfl) _ _ _ fun id xs hfit => ⟨rfl,
    [(5, invX (Nat × Bool × List Int) (5 :: 6 :: 7 :: 8 :: 9 :: 14 :: 15 :: 16 :: 17 :: 18 :: 19 :: 20 :: 21 :: 22 :: 23 :: 24 :: 25 :: 26 :: 27 :: 28 :: 29 :: 30 :: 31 :: 32 :: 33 :: 34 :: 35 :: 36 :: 37 :: 38 :: []) [32, 50032] (fun g => g.1 ≤ xs.length ∧ newP id [] xs = newP id g.2.2 (xs.drop g.1)) (fun g st => match g.2.2, g.2.1 with
      | [], _ => withS [(7, .int .i64 g.1), (6, .nilS (.ints []))] st
      | y :: ys, false => withS [(7, .int .i64 g.1), (6, .own 32)] (withR [(32, .own (.ints (y :: ys)))] st)
      | y :: ys, true => withS [(7, .int .i64 g.1), (6, .own 50032)] (withR [(50032, .own (.ints (y :: ys)))] st)) (fun g => xs.length - g.1))], ?_⟩
  have hlen : xs.length * 8 ≤ 140737488355328 := hfit.2.1
  clear hfit
  (repeat' (first | ((with_reducible refine BdI ?_); (first | ((with_reducible refine SqI ?_ (fun Kv hN hX hR => ?_)); (next => exact rfl)) | ((with_reducible refine JnI ?_ ?_); (next => exact rfl)) | (conv => whnf))) | (with_reducible first | refine BdS (fun Kv hN hX hR => ?_) | refine Stop.mk ?_ | refine Join.mk ⟨fun Kv hN hX hR => ?_, ?_⟩ | refine DrawJ.each ?_ | exact SubJ.self _) | with_reducible refine SubJ.of ?_ | (with_reducible first | refine FlS (fun Kf hF => ?_) | refine FlN ?_ | refine NdS (fun Kg hG => ?_) | (refine hF _ _ ?_; clear hF; clear Kf) | (refine hG _ _ _ _ ?_; clear hG; clear Kg)) | ((with_reducible refine SqI ?_ (fun Kv hN hX hR => ?_)); (next => exact rfl)) | ((with_reducible refine JnI ?_ ?_); (next => exact rfl)) | ((with_reducible first | refine hN _ ?_ | refine hX _ _ ?_ | refine hR _ ?_); (try (clear hG; clear Kg)); clear hN hX hR; clear Kv) | ((conv => whnf); first | (with_reducible first | rfl | exact True.intro | refine (fun (_ : (_ : Prop)) => ?_) | refine And.intro ?_ ?_) | ((with_reducible first | refine hN _ ?_ | refine hX _ _ ?_ | refine hR _ ?_); (try (clear hG; clear Kg)); clear hN hX hR; clear Kv) | (with_reducible first | refine BdS (fun Kv hN hX hR => ?_) | refine Stop.mk ?_ | refine Join.mk ⟨fun Kv hN hX hR => ?_, ?_⟩ | refine DrawJ.each ?_ | exact SubJ.self _) | with_reducible refine SubJ.of ?_ | (with_reducible first | refine FlS (fun Kf hF => ?_) | refine FlN ?_ | refine NdS (fun Kg hG => ?_) | (refine hF _ _ ?_; clear hF; clear Kf) | (refine hG _ _ _ _ ?_; clear hG; clear Kg))))); all_goals (conv => whnf); all_goals (repeat ((try (clear hG; clear Kg)); clear hN hX hR; clear Kv))
  all_goals first
    | (rw [newN_no (.inl (nf (show (!placeB id) = true by with_reducible assumption)))] <;> rfl)
    | (refine ⟨(0, false, []), ⟨Nat.zero_le _, rfl⟩, ?_⟩
       (repeat' (first | ((with_reducible refine BdI ?_); (first | ((with_reducible refine SqI ?_ (fun Kv hN hX hR => ?_)); (next => exact rfl)) | ((with_reducible refine JnI ?_ ?_); (next => exact rfl)) | (conv => whnf))) | (with_reducible first | refine BdS (fun Kv hN hX hR => ?_) | refine Stop.mk ?_ | refine Join.mk ⟨fun Kv hN hX hR => ?_, ?_⟩ | refine DrawJ.each ?_ | exact SubJ.self _) | with_reducible refine SubJ.of ?_ | (with_reducible first | refine FlS (fun Kf hF => ?_) | refine FlN ?_ | refine NdS (fun Kg hG => ?_) | (refine hF _ _ ?_; clear hF; clear Kf) | (refine hG _ _ _ _ ?_; clear hG; clear Kg)) | ((with_reducible refine SqI ?_ (fun Kv hN hX hR => ?_)); (next => exact rfl)) | ((with_reducible refine JnI ?_ ?_); (next => exact rfl)) | ((with_reducible first | refine hN _ ?_ | refine hX _ _ ?_ | refine hR _ ?_); (try (clear hG; clear Kg)); clear hN hX hR; clear Kv) | ((conv => whnf); first | (with_reducible first | rfl | exact True.intro | intro _ | refine And.intro ?_ ?_) | ((with_reducible first | refine hN _ ?_ | refine hX _ _ ?_ | refine hR _ ?_); (try (clear hG; clear Kg)); clear hN hX hR; clear Kv) | (with_reducible first | refine BdS (fun Kv hN hX hR => ?_) | refine Stop.mk ?_ | refine Join.mk ⟨fun Kv hN hX hR => ?_, ?_⟩ | refine DrawJ.each ?_ | exact SubJ.self _) | with_reducible refine SubJ.of ?_ | (with_reducible first | refine FlS (fun Kf hF => ?_) | refine FlN ?_ | refine NdS (fun Kg hG => ?_) | (refine hF _ _ ?_; clear hF; clear Kf) | (refine hG _ _ _ _ ?_; clear hG; clear Kg))))); all_goals (conv => whnf); all_goals (repeat ((try (clear hG; clear Kg)); clear hN hX hR; clear Kv))
       all_goals rfl)
    | (rintro ⟨i, kb, l⟩ ⟨hi, hl⟩
       dsimp only at hi hl
       have hid := nt (show (!placeB id) = false by with_reducible assumption)
       rcases l with _ | ⟨y, l⟩
       rotate_left
       rcases kb with _ | _
       all_goals
         (repeat' (first | ((with_reducible refine BdI ?_); (first | ((with_reducible refine SqI ?_ (fun Kv hN hX hR => ?_)); (next => exact rfl)) | ((with_reducible refine JnI ?_ ?_); (next => exact rfl)) | (conv => whnf))) | (with_reducible first | refine BdS (fun Kv hN hX hR => ?_) | refine Stop.mk ?_ | refine Join.mk ⟨fun Kv hN hX hR => ?_, ?_⟩ | refine DrawJ.each ?_ | exact SubJ.self _) | with_reducible refine SubJ.of ?_ | (with_reducible first | refine FlS (fun Kf hF => ?_) | refine FlN ?_ | refine NdS (fun Kg hG => ?_) | (refine hF _ _ ?_; clear hF; clear Kf) | (refine hG _ _ _ _ ?_; clear hG; clear Kg)) | ((with_reducible refine SqI ?_ (fun Kv hN hX hR => ?_)); (next => exact rfl)) | ((with_reducible refine JnI ?_ ?_); (next => exact rfl)) | ((with_reducible first | refine hN _ ?_ | refine hX _ _ ?_ | refine hR _ ?_); (try (clear hG; clear Kg)); clear hN hX hR; clear Kv) | ((conv => whnf); first | (with_reducible first | rfl | exact True.intro | intro _ | refine And.intro ?_ ?_) | ((with_reducible first | refine hN _ ?_ | refine hX _ _ ?_ | refine hR _ ?_); (try (clear hG; clear Kg)); clear hN hX hR; clear Kv) | (with_reducible first | refine BdS (fun Kv hN hX hR => ?_) | refine Stop.mk ?_ | refine Join.mk ⟨fun Kv hN hX hR => ?_, ?_⟩ | refine DrawJ.each ?_ | exact SubJ.self _) | with_reducible refine SubJ.of ?_ | (with_reducible first | refine FlS (fun Kf hF => ?_) | refine FlN ?_ | refine NdS (fun Kg hG => ?_) | (refine hF _ _ ?_; clear hF; clear Kf) | (refine hG _ _ _ _ ?_; clear hG; clear Kg))))); all_goals (conv => whnf); all_goals (repeat ((try (clear hG; clear Kg)); clear hN hX hR; clear Kv))
       all_goals (try dsimp only at *)
       all_goals (try simp only [Int.toNat_natCast] at *)
       all_goals first
         | (have h := of_decide_eq_true (show decide ((i : Int) < (xs.length : Nat)) = true by with_reducible assumption)
            first
              | exact Ob.mk ⟨by omega, h⟩
              | (have h2 := of_decide_eq_true (show decide (xs.getD i 0 = id) = true by with_reducible assumption)
                 refine ⟨(i + 1, false, _), ⟨by show i + 1 ≤ xs.length; omega, hl.trans (newP_same (by omega) h2)⟩, by show xs.length - (i + 1) < xs.length - i; omega, ?_⟩
                 (repeat' (first | ((with_reducible refine BdI ?_); (first | ((with_reducible refine SqI ?_ (fun Kv hN hX hR => ?_)); (next => exact rfl)) | ((with_reducible refine JnI ?_ ?_); (next => exact rfl)) | (conv => whnf))) | (with_reducible first | refine BdS (fun Kv hN hX hR => ?_) | refine Stop.mk ?_ | refine Join.mk ⟨fun Kv hN hX hR => ?_, ?_⟩ | refine DrawJ.each ?_ | exact SubJ.self _) | with_reducible refine SubJ.of ?_ | (with_reducible first | refine FlS (fun Kf hF => ?_) | refine FlN ?_ | refine NdS (fun Kg hG => ?_) | (refine hF _ _ ?_; clear hF; clear Kf) | (refine hG _ _ _ _ ?_; clear hG; clear Kg)) | ((with_reducible refine SqI ?_ (fun Kv hN hX hR => ?_)); (next => exact rfl)) | ((with_reducible refine JnI ?_ ?_); (next => exact rfl)) | ((with_reducible first | refine hN _ ?_ | refine hX _ _ ?_ | refine hR _ ?_); (try (clear hG; clear Kg)); clear hN hX hR; clear Kv) | ((conv => whnf); first | (with_reducible first | rfl | exact True.intro | intro _ | refine And.intro ?_ ?_) | ((with_reducible first | refine hN _ ?_ | refine hX _ _ ?_ | refine hR _ ?_); (try (clear hG; clear Kg)); clear hN hX hR; clear Kv) | (with_reducible first | refine BdS (fun Kv hN hX hR => ?_) | refine Stop.mk ?_ | refine Join.mk ⟨fun Kv hN hX hR => ?_, ?_⟩ | refine DrawJ.each ?_ | exact SubJ.self _) | with_reducible refine SubJ.of ?_ | (with_reducible first | refine FlS (fun Kf hF => ?_) | refine FlN ?_ | refine NdS (fun Kg hG => ?_) | (refine hF _ _ ?_; clear hF; clear Kf) | (refine hG _ _ _ _ ?_; clear hG; clear Kg))))); all_goals (conv => whnf); all_goals (repeat ((try (clear hG; clear Kg)); clear hN hX hR; clear Kv))
                 all_goals first
                   | exact wrapI (by omega) (by omega)
                   | rfl)
              | (have h2 := of_decide_eq_true (show decide (xs.getD i 0 = id) = true by with_reducible assumption)
                 refine ⟨(i + 1, true, _), ⟨by show i + 1 ≤ xs.length; omega, hl.trans (newP_same (by omega) h2)⟩, by show xs.length - (i + 1) < xs.length - i; omega, ?_⟩
                 (repeat' (first | ((with_reducible refine BdI ?_); (first | ((with_reducible refine SqI ?_ (fun Kv hN hX hR => ?_)); (next => exact rfl)) | ((with_reducible refine JnI ?_ ?_); (next => exact rfl)) | (conv => whnf))) | (with_reducible first | refine BdS (fun Kv hN hX hR => ?_) | refine Stop.mk ?_ | refine Join.mk ⟨fun Kv hN hX hR => ?_, ?_⟩ | refine DrawJ.each ?_ | exact SubJ.self _) | with_reducible refine SubJ.of ?_ | (with_reducible first | refine FlS (fun Kf hF => ?_) | refine FlN ?_ | refine NdS (fun Kg hG => ?_) | (refine hF _ _ ?_; clear hF; clear Kf) | (refine hG _ _ _ _ ?_; clear hG; clear Kg)) | ((with_reducible refine SqI ?_ (fun Kv hN hX hR => ?_)); (next => exact rfl)) | ((with_reducible refine JnI ?_ ?_); (next => exact rfl)) | ((with_reducible first | refine hN _ ?_ | refine hX _ _ ?_ | refine hR _ ?_); (try (clear hG; clear Kg)); clear hN hX hR; clear Kv) | ((conv => whnf); first | (with_reducible first | rfl | exact True.intro | intro _ | refine And.intro ?_ ?_) | ((with_reducible first | refine hN _ ?_ | refine hX _ _ ?_ | refine hR _ ?_); (try (clear hG; clear Kg)); clear hN hX hR; clear Kv) | (with_reducible first | refine BdS (fun Kv hN hX hR => ?_) | refine Stop.mk ?_ | refine Join.mk ⟨fun Kv hN hX hR => ?_, ?_⟩ | refine DrawJ.each ?_ | exact SubJ.self _) | with_reducible refine SubJ.of ?_ | (with_reducible first | refine FlS (fun Kf hF => ?_) | refine FlN ?_ | refine NdS (fun Kg hG => ?_) | (refine hF _ _ ?_; clear hF; clear Kf) | (refine hG _ _ _ _ ?_; clear hG; clear Kg))))); all_goals (conv => whnf); all_goals (repeat ((try (clear hG; clear Kg)); clear hN hX hR; clear Kv))
                 all_goals first
                   | exact wrapI (by omega) (by omega)
                   | rfl)
              | (have h2 := of_decide_eq_false (show decide (xs.getD i 0 = id) = false by with_reducible assumption)
                 have h3 := of_decide_eq_false (nf (b := decide ((withP _ (xs.getD i 0)).2 = 0)) (by with_reducible assumption))
                 rw [newN_no (.inr (hl.trans (newP_bad2 (by omega) h2 h3)))] <;> rfl)
              | (have h2 := of_decide_eq_false (show decide (xs.getD i 0 = id) = false by with_reducible assumption)
                 have h3 := of_decide_eq_true (nt (b := decide ((withP _ (xs.getD i 0)).2 = 0)) (by with_reducible assumption))
                 obtain ⟨y', W, hW, h4⟩ := newP_go (by omega) h2 h3 hl
                 refine ⟨(i + 1, false, y' :: W), ⟨by show i + 1 ≤ xs.length; omega, h4⟩, by show xs.length - (i + 1) < xs.length - i; omega, ?_⟩
                 · (try dsimp only)
                   (repeat' (first | ((with_reducible refine BdI ?_); (first | ((with_reducible refine SqI ?_ (fun Kv hN hX hR => ?_)); (next => exact rfl)) | ((with_reducible refine JnI ?_ ?_); (next => exact rfl)) | (conv => whnf))) | (with_reducible first | refine BdS (fun Kv hN hX hR => ?_) | refine Stop.mk ?_ | refine Join.mk ⟨fun Kv hN hX hR => ?_, ?_⟩ | refine DrawJ.each ?_ | exact SubJ.self _) | with_reducible refine SubJ.of ?_ | (with_reducible first | refine FlS (fun Kf hF => ?_) | refine FlN ?_ | refine NdS (fun Kg hG => ?_) | (refine hF _ _ ?_; clear hF; clear Kf) | (refine hG _ _ _ _ ?_; clear hG; clear Kg)) | ((with_reducible refine SqI ?_ (fun Kv hN hX hR => ?_)); (next => exact rfl)) | ((with_reducible refine JnI ?_ ?_); (next => exact rfl)) | ((with_reducible first | refine hN _ ?_ | refine hX _ _ ?_ | refine hR _ ?_); (try (clear hG; clear Kg)); clear hN hX hR; clear Kv) | ((conv => whnf); first | (with_reducible first | rfl | exact True.intro | intro _ | refine And.intro ?_ ?_) | ((with_reducible first | refine hN _ ?_ | refine hX _ _ ?_ | refine hR _ ?_); (try (clear hG; clear Kg)); clear hN hX hR; clear Kv) | (with_reducible first | refine BdS (fun Kv hN hX hR => ?_) | refine Stop.mk ?_ | refine Join.mk ⟨fun Kv hN hX hR => ?_, ?_⟩ | refine DrawJ.each ?_ | exact SubJ.self _) | with_reducible refine SubJ.of ?_ | (with_reducible first | refine FlS (fun Kf hF => ?_) | refine FlN ?_ | refine NdS (fun Kg hG => ?_) | (refine hF _ _ ?_; clear hF; clear Kf) | (refine hG _ _ _ _ ?_; clear hG; clear Kg))))); all_goals (conv => whnf); all_goals (repeat ((try (clear hG; clear Kg)); clear hN hX hR; clear Kv))
                   all_goals first
                     | exact wrapI (by omega) (by omega)
                     | exact congrArg Rw.ints hW
                     | exact congrArg Rw.ints hW.symm
                     | rfl)
              | (have h2 := of_decide_eq_false (show decide (xs.getD i 0 = id) = false by with_reducible assumption)
                 have h3 := of_decide_eq_true (nt (b := decide ((withP _ (xs.getD i 0)).2 = 0)) (by with_reducible assumption))
                 obtain ⟨y', W, hW, h4⟩ := newP_go (by omega) h2 h3 hl
                 refine ⟨(i + 1, true, y' :: W), ⟨by show i + 1 ≤ xs.length; omega, h4⟩, by show xs.length - (i + 1) < xs.length - i; omega, ?_⟩
                 · (try dsimp only)
                   (repeat' (first | ((with_reducible refine BdI ?_); (first | ((with_reducible refine SqI ?_ (fun Kv hN hX hR => ?_)); (next => exact rfl)) | ((with_reducible refine JnI ?_ ?_); (next => exact rfl)) | (conv => whnf))) | (with_reducible first | refine BdS (fun Kv hN hX hR => ?_) | refine Stop.mk ?_ | refine Join.mk ⟨fun Kv hN hX hR => ?_, ?_⟩ | refine DrawJ.each ?_ | exact SubJ.self _) | with_reducible refine SubJ.of ?_ | (with_reducible first | refine FlS (fun Kf hF => ?_) | refine FlN ?_ | refine NdS (fun Kg hG => ?_) | (refine hF _ _ ?_; clear hF; clear Kf) | (refine hG _ _ _ _ ?_; clear hG; clear Kg)) | ((with_reducible refine SqI ?_ (fun Kv hN hX hR => ?_)); (next => exact rfl)) | ((with_reducible refine JnI ?_ ?_); (next => exact rfl)) | ((with_reducible first | refine hN _ ?_ | refine hX _ _ ?_ | refine hR _ ?_); (try (clear hG; clear Kg)); clear hN hX hR; clear Kv) | ((conv => whnf); first | (with_reducible first | rfl | exact True.intro | intro _ | refine And.intro ?_ ?_) | ((with_reducible first | refine hN _ ?_ | refine hX _ _ ?_ | refine hR _ ?_); (try (clear hG; clear Kg)); clear hN hX hR; clear Kv) | (with_reducible first | refine BdS (fun Kv hN hX hR => ?_) | refine Stop.mk ?_ | refine Join.mk ⟨fun Kv hN hX hR => ?_, ?_⟩ | refine DrawJ.each ?_ | exact SubJ.self _) | with_reducible refine SubJ.of ?_ | (with_reducible first | refine FlS (fun Kf hF => ?_) | refine FlN ?_ | refine NdS (fun Kg hG => ?_) | (refine hF _ _ ?_; clear hF; clear Kf) | (refine hG _ _ _ _ ?_; clear hG; clear Kg))))); all_goals (conv => whnf); all_goals (repeat ((try (clear hG; clear Kg)); clear hN hX hR; clear Kv))
                   all_goals first
                     | exact wrapI (by omega) (by omega)
                     | exact congrArg Rw.ints hW
                     | exact congrArg Rw.ints hW.symm
                     | rfl))
         | (have h := of_decide_eq_false (show decide ((i : Int) < (xs.length : Nat)) = false by with_reducible assumption)
            rw [newN_yes hid (hl.trans (newP_end (by omega)))] <;> rfl)
         | trace_state)
    | trace_state
end Go.Proofs.Ytaapoiikbolgnaa

/- Contracts: the laws' comparisons: Peers. -/
namespace Go.Proofs.Ytaapoiikbolgnaa
open Go.RowKit
set_option maxRecDepth 20000

theorem k_SamePeers : Known Try.prog tau 56 (S2 dPeers dPeers fun a b => okB (decide (a = b))) := by
  refine known2 hmix tau_ok ctx_nil (fn := Try.f56) (by kernel_rfl) [(6, [(0, 0), (1, 0), (2, 3), (3, 4), (4, 0), (5, 0), (6, 48), (7, 64), (8, 136)])] (by kernel_rfl) _ _ _ fun xs ys hfit => ⟨rfl,
    [(4, invN [4, 5, 11, 12, 13, 14, 15, 16, 17, 18, 19, 20, 21, 22, 23, 24, 25] (fun i => i ≤ xs.length ∧ ∀ j, j < i → xs.getD j default = ys.getD j default) (fun i => withS [(5, .int .i64 i)]) (fun i => xs.length - i))], ?_⟩
  have hlen : xs.length * 16 ≤ 140737488355328 := hfit.1
  clear hfit
  (repeat' (first | ((with_reducible refine BdI ?_); (first | ((with_reducible refine SqI ?_ (fun Kv hN hX hR => ?_)); (next => exact rfl)) | ((with_reducible refine JnI ?_ ?_); (next => exact rfl)) | (conv => whnf))) | (with_reducible first | refine BdS (fun Kv hN hX hR => ?_) | refine Stop.mk ?_ | refine Join.mk ⟨fun Kv hN hX hR => ?_, ?_⟩ | refine DrawJ.each ?_ | exact SubJ.self _) | with_reducible refine SubJ.of ?_ | (with_reducible first | refine FlS (fun Kf hF => ?_) | refine FlN ?_ | refine NdS (fun Kg hG => ?_) | (refine hF _ _ ?_; clear hF; clear Kf) | (refine hG _ _ _ _ ?_; clear hG; clear Kg)) | ((with_reducible refine SqI ?_ (fun Kv hN hX hR => ?_)); (next => exact rfl)) | ((with_reducible refine JnI ?_ ?_); (next => exact rfl)) | ((with_reducible first | refine hN _ ?_ | refine hX _ _ ?_ | refine hR _ ?_); (try (clear hG; clear Kg)); clear hN hX hR; clear Kv) | ((conv => whnf); first | (with_reducible first | rfl | exact True.intro | refine (fun (_ : (_ : Prop)) => ?_) | refine And.intro ?_ ?_) | ((with_reducible first | refine hN _ ?_ | refine hX _ _ ?_ | refine hR _ ?_); (try (clear hG; clear Kg)); clear hN hX hR; clear Kv) | (with_reducible first | refine BdS (fun Kv hN hX hR => ?_) | refine Stop.mk ?_ | refine Join.mk ⟨fun Kv hN hX hR => ?_, ?_⟩ | refine DrawJ.each ?_ | exact SubJ.self _) | with_reducible refine SubJ.of ?_ | (with_reducible first | refine FlS (fun Kf hF => ?_) | refine FlN ?_ | refine NdS (fun Kg hG => ?_) | (refine hF _ _ ?_; clear hF; clear Kf) | (refine hG _ _ _ _ ?_; clear hG; clear Kg))))); all_goals (conv => whnf); all_goals (repeat ((try (clear hG; clear Kg)); clear hN hX hR; clear Kv))
  all_goals first
    | (have h := of_decide_eq_false (nf (by with_reducible assumption))
       exact (decide_eq_false (fun e => h (by rw [e]))).symm)
    | (refine ⟨0, ⟨by omega, by intros; omega⟩, ?_⟩
       (repeat' (first | ((with_reducible refine BdI ?_); (first | ((with_reducible refine SqI ?_ (fun Kv hN hX hR => ?_)); (next => exact rfl)) | ((with_reducible refine JnI ?_ ?_); (next => exact rfl)) | (conv => whnf))) | (with_reducible first | refine BdS (fun Kv hN hX hR => ?_) | refine Stop.mk ?_ | refine Join.mk ⟨fun Kv hN hX hR => ?_, ?_⟩ | refine DrawJ.each ?_ | exact SubJ.self _) | with_reducible refine SubJ.of ?_ | (with_reducible first | refine FlS (fun Kf hF => ?_) | refine FlN ?_ | refine NdS (fun Kg hG => ?_) | (refine hF _ _ ?_; clear hF; clear Kf) | (refine hG _ _ _ _ ?_; clear hG; clear Kg)) | ((with_reducible refine SqI ?_ (fun Kv hN hX hR => ?_)); (next => exact rfl)) | ((with_reducible refine JnI ?_ ?_); (next => exact rfl)) | ((with_reducible first | refine hN _ ?_ | refine hX _ _ ?_ | refine hR _ ?_); (try (clear hG; clear Kg)); clear hN hX hR; clear Kv) | ((conv => whnf); first | (with_reducible first | rfl | exact True.intro | intro _ | refine And.intro ?_ ?_) | ((with_reducible first | refine hN _ ?_ | refine hX _ _ ?_ | refine hR _ ?_); (try (clear hG; clear Kg)); clear hN hX hR; clear Kv) | (with_reducible first | refine BdS (fun Kv hN hX hR => ?_) | refine Stop.mk ?_ | refine Join.mk ⟨fun Kv hN hX hR => ?_, ?_⟩ | refine DrawJ.each ?_ | exact SubJ.self _) | with_reducible refine SubJ.of ?_ | (with_reducible first | refine FlS (fun Kf hF => ?_) | refine FlN ?_ | refine NdS (fun Kg hG => ?_) | (refine hF _ _ ?_; clear hF; clear Kf) | (refine hG _ _ _ _ ?_; clear hG; clear Kg))))); all_goals (conv => whnf); all_goals (repeat ((try (clear hG; clear Kg)); clear hN hX hR; clear Kv))
       all_goals rfl)
    | (with_reducible intro i hi
       have hl : (xs.length : Int) = ys.length := of_decide_eq_true (nt (by with_reducible assumption))
       (repeat' (first | ((with_reducible refine BdI ?_); (first | ((with_reducible refine SqI ?_ (fun Kv hN hX hR => ?_)); (next => exact rfl)) | ((with_reducible refine JnI ?_ ?_); (next => exact rfl)) | (conv => whnf))) | (with_reducible first | refine BdS (fun Kv hN hX hR => ?_) | refine Stop.mk ?_ | refine Join.mk ⟨fun Kv hN hX hR => ?_, ?_⟩ | refine DrawJ.each ?_ | exact SubJ.self _) | with_reducible refine SubJ.of ?_ | (with_reducible first | refine FlS (fun Kf hF => ?_) | refine FlN ?_ | refine NdS (fun Kg hG => ?_) | (refine hF _ _ ?_; clear hF; clear Kf) | (refine hG _ _ _ _ ?_; clear hG; clear Kg)) | ((with_reducible refine SqI ?_ (fun Kv hN hX hR => ?_)); (next => exact rfl)) | ((with_reducible refine JnI ?_ ?_); (next => exact rfl)) | ((with_reducible first | refine hN _ ?_ | refine hX _ _ ?_ | refine hR _ ?_); (try (clear hG; clear Kg)); clear hN hX hR; clear Kv) | ((conv => whnf); first | (with_reducible first | rfl | exact True.intro | intro _ | refine And.intro ?_ ?_) | ((with_reducible first | refine hN _ ?_ | refine hX _ _ ?_ | refine hR _ ?_); (try (clear hG; clear Kg)); clear hN hX hR; clear Kv) | (with_reducible first | refine BdS (fun Kv hN hX hR => ?_) | refine Stop.mk ?_ | refine Join.mk ⟨fun Kv hN hX hR => ?_, ?_⟩ | refine DrawJ.each ?_ | exact SubJ.self _) | with_reducible refine SubJ.of ?_ | (with_reducible first | refine FlS (fun Kf hF => ?_) | refine FlN ?_ | refine NdS (fun Kg hG => ?_) | (refine hF _ _ ?_; clear hF; clear Kf) | (refine hG _ _ _ _ ?_; clear hG; clear Kg))))); all_goals (conv => whnf); all_goals (repeat ((try (clear hG; clear Kg)); clear hN hX hR; clear Kv))
       all_goals (try simp only [Int.toNat_natCast] at *)
       all_goals first
         | (have h := of_decide_eq_true (show decide ((i : Int) < (xs.length : Nat)) = true by with_reducible assumption)
            exact Ob.mk ⟨by omega, by omega⟩)
         | (have h := of_decide_eq_true (show decide ((i : Int) < (xs.length : Nat)) = true by with_reducible assumption)
            have h3 : ¬ (xs.getD i default = ys.getD i default) := by
              intro e
              simp_all
              done
            exact (decide_eq_false (fun e => h3 (by rw [e]))).symm)
         | (have h := of_decide_eq_true (show decide ((i : Int) < (xs.length : Nat)) = true by with_reducible assumption)
            have h3 : xs.getD i default = ys.getD i default := by
              simp only [Bool.not_eq_false', Bool.and_eq_true, decide_eq_true_eq] at *
              first
                | assumption
                | (rename_i h4; cases hx : xs.getD i default; cases hy : ys.getD i default; simp_all)
            refine ⟨i + 1, ⟨by omega, fun j hj => ?_⟩, by show xs.length - (i + 1) < xs.length - i; omega, ?_⟩
            · rcases Nat.lt_succ_iff_lt_or_eq.1 hj with h4 | h4
              · exact hi.2 j h4
              · subst h4; exact h3
            · (repeat' (first | ((with_reducible refine BdI ?_); (first | ((with_reducible refine SqI ?_ (fun Kv hN hX hR => ?_)); (next => exact rfl)) | ((with_reducible refine JnI ?_ ?_); (next => exact rfl)) | (conv => whnf))) | (with_reducible first | refine BdS (fun Kv hN hX hR => ?_) | refine Stop.mk ?_ | refine Join.mk ⟨fun Kv hN hX hR => ?_, ?_⟩ | refine DrawJ.each ?_ | exact SubJ.self _) | with_reducible refine SubJ.of ?_ | (with_reducible first | refine FlS (fun Kf hF => ?_) | refine FlN ?_ | refine NdS (fun Kg hG => ?_) | (refine hF _ _ ?_; clear hF; clear Kf) | (refine hG _ _ _ _ ?_; clear hG; clear Kg)) | ((with_reducible refine SqI ?_ (fun Kv hN hX hR => ?_)); (next => exact rfl)) | ((with_reducible refine JnI ?_ ?_); (next => exact rfl)) | ((with_reducible first | refine hN _ ?_ | refine hX _ _ ?_ | refine hR _ ?_); (try (clear hG; clear Kg)); clear hN hX hR; clear Kv) | ((conv => whnf); first | (with_reducible first | rfl | exact True.intro | intro _ | refine And.intro ?_ ?_) | ((with_reducible first | refine hN _ ?_ | refine hX _ _ ?_ | refine hR _ ?_); (try (clear hG; clear Kg)); clear hN hX hR; clear Kv) | (with_reducible first | refine BdS (fun Kv hN hX hR => ?_) | refine Stop.mk ?_ | refine Join.mk ⟨fun Kv hN hX hR => ?_, ?_⟩ | refine DrawJ.each ?_ | exact SubJ.self _) | with_reducible refine SubJ.of ?_ | (with_reducible first | refine FlS (fun Kf hF => ?_) | refine FlN ?_ | refine NdS (fun Kg hG => ?_) | (refine hF _ _ ?_; clear hF; clear Kf) | (refine hG _ _ _ _ ?_; clear hG; clear Kg))))); all_goals (conv => whnf); all_goals (repeat ((try (clear hG; clear Kg)); clear hN hX hR; clear Kv))
              all_goals first
                | exact wrapI (by omega) (by omega)
                | rfl)
         | (have h := of_decide_eq_false (show decide ((i : Int) < (xs.length : Nat)) = false by with_reducible assumption)
            exact (decide_eq_true (eq_of_take (d := default) (by omega) fun j hj => hi.2 j (by omega))).symm)
         | trace_state)
    | trace_state
end Go.Proofs.Ytaapoiikbolgnaa

/- Contracts: the laws' comparisons: Items. -/
namespace Go.Proofs.Ytaapoiikbolgnaa
open Go.RowKit
set_option maxRecDepth 20000

theorem k_SameItems : Known Try.prog tau 40 (S2 dItems dItems fun a b => okB (decide (a = b))) := by
  refine known2 hmix tau_ok ctx_nil (fn := Try.f40) (by kernel_rfl) [(6, [(0, 0), (1, 0), (2, 3), (3, 4), (4, 0), (5, 0), (6, 48), (7, 64), (8, 136)])] (by kernel_rfl) _ _ _ fun xs ys hfit => ⟨rfl,
    [(4, invN [4, 5, 11, 12, 13, 14, 15, 16, 17, 18, 19, 20, 21, 22, 23, 24, 25] (fun i => i ≤ xs.length ∧ ∀ j, j < i → xs.getD j default = ys.getD j default) (fun i => withS [(5, .int .i64 i)]) (fun i => xs.length - i))], ?_⟩
  have hlen : xs.length * 40 ≤ 140737488355328 := hfit.1
  clear hfit
  (repeat' (first | ((with_reducible refine BdI ?_); (first | ((with_reducible refine SqI ?_ (fun Kv hN hX hR => ?_)); (next => exact rfl)) | ((with_reducible refine JnI ?_ ?_); (next => exact rfl)) | (conv => whnf))) | (with_reducible first | refine BdS (fun Kv hN hX hR => ?_) | refine Stop.mk ?_ | refine Join.mk ⟨fun Kv hN hX hR => ?_, ?_⟩ | refine DrawJ.each ?_ | exact SubJ.self _) | with_reducible refine SubJ.of ?_ | (with_reducible first | refine FlS (fun Kf hF => ?_) | refine FlN ?_ | refine NdS (fun Kg hG => ?_) | (refine hF _ _ ?_; clear hF; clear Kf) | (refine hG _ _ _ _ ?_; clear hG; clear Kg)) | ((with_reducible refine SqI ?_ (fun Kv hN hX hR => ?_)); (next => exact rfl)) | ((with_reducible refine JnI ?_ ?_); (next => exact rfl)) | ((with_reducible first | refine hN _ ?_ | refine hX _ _ ?_ | refine hR _ ?_); (try (clear hG; clear Kg)); clear hN hX hR; clear Kv) | ((conv => whnf); first | (with_reducible first | rfl | exact True.intro | refine (fun (_ : (_ : Prop)) => ?_) | refine And.intro ?_ ?_) | ((with_reducible first | refine hN _ ?_ | refine hX _ _ ?_ | refine hR _ ?_); (try (clear hG; clear Kg)); clear hN hX hR; clear Kv) | (with_reducible first | refine BdS (fun Kv hN hX hR => ?_) | refine Stop.mk ?_ | refine Join.mk ⟨fun Kv hN hX hR => ?_, ?_⟩ | refine DrawJ.each ?_ | exact SubJ.self _) | with_reducible refine SubJ.of ?_ | (with_reducible first | refine FlS (fun Kf hF => ?_) | refine FlN ?_ | refine NdS (fun Kg hG => ?_) | (refine hF _ _ ?_; clear hF; clear Kf) | (refine hG _ _ _ _ ?_; clear hG; clear Kg))))); all_goals (conv => whnf); all_goals (repeat ((try (clear hG; clear Kg)); clear hN hX hR; clear Kv))
  all_goals first
    | (have h := of_decide_eq_false (nf (by with_reducible assumption))
       exact (decide_eq_false (fun e => h (by rw [e]))).symm)
    | (refine ⟨0, ⟨by omega, by intros; omega⟩, ?_⟩
       (repeat' (first | ((with_reducible refine BdI ?_); (first | ((with_reducible refine SqI ?_ (fun Kv hN hX hR => ?_)); (next => exact rfl)) | ((with_reducible refine JnI ?_ ?_); (next => exact rfl)) | (conv => whnf))) | (with_reducible first | refine BdS (fun Kv hN hX hR => ?_) | refine Stop.mk ?_ | refine Join.mk ⟨fun Kv hN hX hR => ?_, ?_⟩ | refine DrawJ.each ?_ | exact SubJ.self _) | with_reducible refine SubJ.of ?_ | (with_reducible first | refine FlS (fun Kf hF => ?_) | refine FlN ?_ | refine NdS (fun Kg hG => ?_) | (refine hF _ _ ?_; clear hF; clear Kf) | (refine hG _ _ _ _ ?_; clear hG; clear Kg)) | ((with_reducible refine SqI ?_ (fun Kv hN hX hR => ?_)); (next => exact rfl)) | ((with_reducible refine JnI ?_ ?_); (next => exact rfl)) | ((with_reducible first | refine hN _ ?_ | refine hX _ _ ?_ | refine hR _ ?_); (try (clear hG; clear Kg)); clear hN hX hR; clear Kv) | ((conv => whnf); first | (with_reducible first | rfl | exact True.intro | intro _ | refine And.intro ?_ ?_) | ((with_reducible first | refine hN _ ?_ | refine hX _ _ ?_ | refine hR _ ?_); (try (clear hG; clear Kg)); clear hN hX hR; clear Kv) | (with_reducible first | refine BdS (fun Kv hN hX hR => ?_) | refine Stop.mk ?_ | refine Join.mk ⟨fun Kv hN hX hR => ?_, ?_⟩ | refine DrawJ.each ?_ | exact SubJ.self _) | with_reducible refine SubJ.of ?_ | (with_reducible first | refine FlS (fun Kf hF => ?_) | refine FlN ?_ | refine NdS (fun Kg hG => ?_) | (refine hF _ _ ?_; clear hF; clear Kf) | (refine hG _ _ _ _ ?_; clear hG; clear Kg))))); all_goals (conv => whnf); all_goals (repeat ((try (clear hG; clear Kg)); clear hN hX hR; clear Kv))
       all_goals rfl)
    | (with_reducible intro i hi
       have hl : (xs.length : Int) = ys.length := of_decide_eq_true (nt (by with_reducible assumption))
       (repeat' (first | ((with_reducible refine BdI ?_); (first | ((with_reducible refine SqI ?_ (fun Kv hN hX hR => ?_)); (next => exact rfl)) | ((with_reducible refine JnI ?_ ?_); (next => exact rfl)) | (conv => whnf))) | (with_reducible first | refine BdS (fun Kv hN hX hR => ?_) | refine Stop.mk ?_ | refine Join.mk ⟨fun Kv hN hX hR => ?_, ?_⟩ | refine DrawJ.each ?_ | exact SubJ.self _) | with_reducible refine SubJ.of ?_ | (with_reducible first | refine FlS (fun Kf hF => ?_) | refine FlN ?_ | refine NdS (fun Kg hG => ?_) | (refine hF _ _ ?_; clear hF; clear Kf) | (refine hG _ _ _ _ ?_; clear hG; clear Kg)) | ((with_reducible refine SqI ?_ (fun Kv hN hX hR => ?_)); (next => exact rfl)) | ((with_reducible refine JnI ?_ ?_); (next => exact rfl)) | ((with_reducible first | refine hN _ ?_ | refine hX _ _ ?_ | refine hR _ ?_); (try (clear hG; clear Kg)); clear hN hX hR; clear Kv) | ((conv => whnf); first | (with_reducible first | rfl | exact True.intro | intro _ | refine And.intro ?_ ?_) | ((with_reducible first | refine hN _ ?_ | refine hX _ _ ?_ | refine hR _ ?_); (try (clear hG; clear Kg)); clear hN hX hR; clear Kv) | (with_reducible first | refine BdS (fun Kv hN hX hR => ?_) | refine Stop.mk ?_ | refine Join.mk ⟨fun Kv hN hX hR => ?_, ?_⟩ | refine DrawJ.each ?_ | exact SubJ.self _) | with_reducible refine SubJ.of ?_ | (with_reducible first | refine FlS (fun Kf hF => ?_) | refine FlN ?_ | refine NdS (fun Kg hG => ?_) | (refine hF _ _ ?_; clear hF; clear Kf) | (refine hG _ _ _ _ ?_; clear hG; clear Kg))))); all_goals (conv => whnf); all_goals (repeat ((try (clear hG; clear Kg)); clear hN hX hR; clear Kv))
       all_goals (try simp only [Int.toNat_natCast] at *)
       all_goals first
         | (have h := of_decide_eq_true (show decide ((i : Int) < (xs.length : Nat)) = true by with_reducible assumption)
            exact Ob.mk ⟨by omega, by omega⟩)
         | (have h := of_decide_eq_true (show decide ((i : Int) < (xs.length : Nat)) = true by with_reducible assumption)
            have h3 : ¬ (xs.getD i default = ys.getD i default) := by
              intro e
              simp_all
              done
            exact (decide_eq_false (fun e => h3 (by rw [e]))).symm)
         | (have h := of_decide_eq_true (show decide ((i : Int) < (xs.length : Nat)) = true by with_reducible assumption)
            have h3 : xs.getD i default = ys.getD i default := by
              have key : ∀ p q : GItem, (!(decide (p.key = q.key) && (decide (p.ver.count = q.ver.count) && (decide (p.ver.writer = q.ver.writer) && (decide (p.value = q.value) && p.gone == q.gone))))) = false → p = q := by
                rintro ⟨_, ⟨_, _⟩, _, _⟩ ⟨_, ⟨_, _⟩, _, _⟩ h
                simp_all
              exact key _ _ (by with_reducible assumption)
            refine ⟨i + 1, ⟨by omega, fun j hj => ?_⟩, by show xs.length - (i + 1) < xs.length - i; omega, ?_⟩
            · rcases Nat.lt_succ_iff_lt_or_eq.1 hj with h4 | h4
              · exact hi.2 j h4
              · subst h4; exact h3
            · (repeat' (first | ((with_reducible refine BdI ?_); (first | ((with_reducible refine SqI ?_ (fun Kv hN hX hR => ?_)); (next => exact rfl)) | ((with_reducible refine JnI ?_ ?_); (next => exact rfl)) | (conv => whnf))) | (with_reducible first | refine BdS (fun Kv hN hX hR => ?_) | refine Stop.mk ?_ | refine Join.mk ⟨fun Kv hN hX hR => ?_, ?_⟩ | refine DrawJ.each ?_ | exact SubJ.self _) | with_reducible refine SubJ.of ?_ | (with_reducible first | refine FlS (fun Kf hF => ?_) | refine FlN ?_ | refine NdS (fun Kg hG => ?_) | (refine hF _ _ ?_; clear hF; clear Kf) | (refine hG _ _ _ _ ?_; clear hG; clear Kg)) | ((with_reducible refine SqI ?_ (fun Kv hN hX hR => ?_)); (next => exact rfl)) | ((with_reducible refine JnI ?_ ?_); (next => exact rfl)) | ((with_reducible first | refine hN _ ?_ | refine hX _ _ ?_ | refine hR _ ?_); (try (clear hG; clear Kg)); clear hN hX hR; clear Kv) | ((conv => whnf); first | (with_reducible first | rfl | exact True.intro | intro _ | refine And.intro ?_ ?_) | ((with_reducible first | refine hN _ ?_ | refine hX _ _ ?_ | refine hR _ ?_); (try (clear hG; clear Kg)); clear hN hX hR; clear Kv) | (with_reducible first | refine BdS (fun Kv hN hX hR => ?_) | refine Stop.mk ?_ | refine Join.mk ⟨fun Kv hN hX hR => ?_, ?_⟩ | refine DrawJ.each ?_ | exact SubJ.self _) | with_reducible refine SubJ.of ?_ | (with_reducible first | refine FlS (fun Kf hF => ?_) | refine FlN ?_ | refine NdS (fun Kg hG => ?_) | (refine hF _ _ ?_; clear hF; clear Kf) | (refine hG _ _ _ _ ?_; clear hG; clear Kg))))); all_goals (conv => whnf); all_goals (repeat ((try (clear hG; clear Kg)); clear hN hX hR; clear Kv))
              all_goals first
                | exact wrapI (by omega) (by omega)
                | rfl)
         | (have h := of_decide_eq_false (show decide ((i : Int) < (xs.length : Nat)) = false by with_reducible assumption)
            exact (decide_eq_true (eq_of_take (d := default) (by omega) fun j hj => hi.2 j (by omega))).symm)
         | trace_state)
    | trace_state
end Go.Proofs.Ytaapoiikbolgnaa

/- Contracts: the laws' comparisons: Tolds. -/
namespace Go.Proofs.Ytaapoiikbolgnaa
open Go.RowKit
set_option maxRecDepth 20000

theorem k_SameTolds : Known Try.prog tau 41 (S2 dTolds dTolds fun a b => okB (decide (a = b))) := by
  refine known2 hmix tau_ok ctx_nil (fn := Try.f41) (by kernel_rfl) [(6, [(0, 0), (1, 0), (2, 3), (3, 4), (4, 0), (5, 0), (6, 48), (7, 64), (8, 136)])] (by kernel_rfl) _ _ _ fun xs ys hfit => ⟨rfl,
    [(4, invN [4, 5, 11, 12, 13, 14, 15, 16, 17, 18, 19, 20, 21, 22, 23, 24, 25] (fun i => i ≤ xs.length ∧ ∀ j, j < i → xs.getD j default = ys.getD j default) (fun i => withS [(5, .int .i64 i)]) (fun i => xs.length - i))], ?_⟩
  have hlen : xs.length * 24 ≤ 140737488355328 := hfit.1
  clear hfit
  (repeat' (first | ((with_reducible refine BdI ?_); (first | ((with_reducible refine SqI ?_ (fun Kv hN hX hR => ?_)); (next => exact rfl)) | ((with_reducible refine JnI ?_ ?_); (next => exact rfl)) | (conv => whnf))) | (with_reducible first | refine BdS (fun Kv hN hX hR => ?_) | refine Stop.mk ?_ | refine Join.mk ⟨fun Kv hN hX hR => ?_, ?_⟩ | refine DrawJ.each ?_ | exact SubJ.self _) | with_reducible refine SubJ.of ?_ | (with_reducible first | refine FlS (fun Kf hF => ?_) | refine FlN ?_ | refine NdS (fun Kg hG => ?_) | (refine hF _ _ ?_; clear hF; clear Kf) | (refine hG _ _ _ _ ?_; clear hG; clear Kg)) | ((with_reducible refine SqI ?_ (fun Kv hN hX hR => ?_)); (next => exact rfl)) | ((with_reducible refine JnI ?_ ?_); (next => exact rfl)) | ((with_reducible first | refine hN _ ?_ | refine hX _ _ ?_ | refine hR _ ?_); (try (clear hG; clear Kg)); clear hN hX hR; clear Kv) | ((conv => whnf); first | (with_reducible first | rfl | exact True.intro | refine (fun (_ : (_ : Prop)) => ?_) | refine And.intro ?_ ?_) | ((with_reducible first | refine hN _ ?_ | refine hX _ _ ?_ | refine hR _ ?_); (try (clear hG; clear Kg)); clear hN hX hR; clear Kv) | (with_reducible first | refine BdS (fun Kv hN hX hR => ?_) | refine Stop.mk ?_ | refine Join.mk ⟨fun Kv hN hX hR => ?_, ?_⟩ | refine DrawJ.each ?_ | exact SubJ.self _) | with_reducible refine SubJ.of ?_ | (with_reducible first | refine FlS (fun Kf hF => ?_) | refine FlN ?_ | refine NdS (fun Kg hG => ?_) | (refine hF _ _ ?_; clear hF; clear Kf) | (refine hG _ _ _ _ ?_; clear hG; clear Kg))))); all_goals (conv => whnf); all_goals (repeat ((try (clear hG; clear Kg)); clear hN hX hR; clear Kv))
  all_goals first
    | (have h := of_decide_eq_false (nf (by with_reducible assumption))
       exact (decide_eq_false (fun e => h (by rw [e]))).symm)
    | (refine ⟨0, ⟨by omega, by intros; omega⟩, ?_⟩
       (repeat' (first | ((with_reducible refine BdI ?_); (first | ((with_reducible refine SqI ?_ (fun Kv hN hX hR => ?_)); (next => exact rfl)) | ((with_reducible refine JnI ?_ ?_); (next => exact rfl)) | (conv => whnf))) | (with_reducible first | refine BdS (fun Kv hN hX hR => ?_) | refine Stop.mk ?_ | refine Join.mk ⟨fun Kv hN hX hR => ?_, ?_⟩ | refine DrawJ.each ?_ | exact SubJ.self _) | with_reducible refine SubJ.of ?_ | (with_reducible first | refine FlS (fun Kf hF => ?_) | refine FlN ?_ | refine NdS (fun Kg hG => ?_) | (refine hF _ _ ?_; clear hF; clear Kf) | (refine hG _ _ _ _ ?_; clear hG; clear Kg)) | ((with_reducible refine SqI ?_ (fun Kv hN hX hR => ?_)); (next => exact rfl)) | ((with_reducible refine JnI ?_ ?_); (next => exact rfl)) | ((with_reducible first | refine hN _ ?_ | refine hX _ _ ?_ | refine hR _ ?_); (try (clear hG; clear Kg)); clear hN hX hR; clear Kv) | ((conv => whnf); first | (with_reducible first | rfl | exact True.intro | intro _ | refine And.intro ?_ ?_) | ((with_reducible first | refine hN _ ?_ | refine hX _ _ ?_ | refine hR _ ?_); (try (clear hG; clear Kg)); clear hN hX hR; clear Kv) | (with_reducible first | refine BdS (fun Kv hN hX hR => ?_) | refine Stop.mk ?_ | refine Join.mk ⟨fun Kv hN hX hR => ?_, ?_⟩ | refine DrawJ.each ?_ | exact SubJ.self _) | with_reducible refine SubJ.of ?_ | (with_reducible first | refine FlS (fun Kf hF => ?_) | refine FlN ?_ | refine NdS (fun Kg hG => ?_) | (refine hF _ _ ?_; clear hF; clear Kf) | (refine hG _ _ _ _ ?_; clear hG; clear Kg))))); all_goals (conv => whnf); all_goals (repeat ((try (clear hG; clear Kg)); clear hN hX hR; clear Kv))
       all_goals rfl)
    | (with_reducible intro i hi
       have hl : (xs.length : Int) = ys.length := of_decide_eq_true (nt (by with_reducible assumption))
       (repeat' (first | ((with_reducible refine BdI ?_); (first | ((with_reducible refine SqI ?_ (fun Kv hN hX hR => ?_)); (next => exact rfl)) | ((with_reducible refine JnI ?_ ?_); (next => exact rfl)) | (conv => whnf))) | (with_reducible first | refine BdS (fun Kv hN hX hR => ?_) | refine Stop.mk ?_ | refine Join.mk ⟨fun Kv hN hX hR => ?_, ?_⟩ | refine DrawJ.each ?_ | exact SubJ.self _) | with_reducible refine SubJ.of ?_ | (with_reducible first | refine FlS (fun Kf hF => ?_) | refine FlN ?_ | refine NdS (fun Kg hG => ?_) | (refine hF _ _ ?_; clear hF; clear Kf) | (refine hG _ _ _ _ ?_; clear hG; clear Kg)) | ((with_reducible refine SqI ?_ (fun Kv hN hX hR => ?_)); (next => exact rfl)) | ((with_reducible refine JnI ?_ ?_); (next => exact rfl)) | ((with_reducible first | refine hN _ ?_ | refine hX _ _ ?_ | refine hR _ ?_); (try (clear hG; clear Kg)); clear hN hX hR; clear Kv) | ((conv => whnf); first | (with_reducible first | rfl | exact True.intro | intro _ | refine And.intro ?_ ?_) | ((with_reducible first | refine hN _ ?_ | refine hX _ _ ?_ | refine hR _ ?_); (try (clear hG; clear Kg)); clear hN hX hR; clear Kv) | (with_reducible first | refine BdS (fun Kv hN hX hR => ?_) | refine Stop.mk ?_ | refine Join.mk ⟨fun Kv hN hX hR => ?_, ?_⟩ | refine DrawJ.each ?_ | exact SubJ.self _) | with_reducible refine SubJ.of ?_ | (with_reducible first | refine FlS (fun Kf hF => ?_) | refine FlN ?_ | refine NdS (fun Kg hG => ?_) | (refine hF _ _ ?_; clear hF; clear Kf) | (refine hG _ _ _ _ ?_; clear hG; clear Kg))))); all_goals (conv => whnf); all_goals (repeat ((try (clear hG; clear Kg)); clear hN hX hR; clear Kv))
       all_goals (try simp only [Int.toNat_natCast] at *)
       all_goals first
         | (have h := of_decide_eq_true (show decide ((i : Int) < (xs.length : Nat)) = true by with_reducible assumption)
            exact Ob.mk ⟨by omega, by omega⟩)
         | (have h := of_decide_eq_true (show decide ((i : Int) < (xs.length : Nat)) = true by with_reducible assumption)
            have h3 : ¬ (xs.getD i default = ys.getD i default) := by
              intro e
              simp_all
              done
            exact (decide_eq_false (fun e => h3 (by rw [e]))).symm)
         | (have h := of_decide_eq_true (show decide ((i : Int) < (xs.length : Nat)) = true by with_reducible assumption)
            have h3 : xs.getD i default = ys.getD i default := by
              simp only [Bool.not_eq_false', Bool.and_eq_true, decide_eq_true_eq] at *
              first
                | assumption
                | (rename_i h4; cases hx : xs.getD i default; cases hy : ys.getD i default; simp_all)
            refine ⟨i + 1, ⟨by omega, fun j hj => ?_⟩, by show xs.length - (i + 1) < xs.length - i; omega, ?_⟩
            · rcases Nat.lt_succ_iff_lt_or_eq.1 hj with h4 | h4
              · exact hi.2 j h4
              · subst h4; exact h3
            · (repeat' (first | ((with_reducible refine BdI ?_); (first | ((with_reducible refine SqI ?_ (fun Kv hN hX hR => ?_)); (next => exact rfl)) | ((with_reducible refine JnI ?_ ?_); (next => exact rfl)) | (conv => whnf))) | (with_reducible first | refine BdS (fun Kv hN hX hR => ?_) | refine Stop.mk ?_ | refine Join.mk ⟨fun Kv hN hX hR => ?_, ?_⟩ | refine DrawJ.each ?_ | exact SubJ.self _) | with_reducible refine SubJ.of ?_ | (with_reducible first | refine FlS (fun Kf hF => ?_) | refine FlN ?_ | refine NdS (fun Kg hG => ?_) | (refine hF _ _ ?_; clear hF; clear Kf) | (refine hG _ _ _ _ ?_; clear hG; clear Kg)) | ((with_reducible refine SqI ?_ (fun Kv hN hX hR => ?_)); (next => exact rfl)) | ((with_reducible refine JnI ?_ ?_); (next => exact rfl)) | ((with_reducible first | refine hN _ ?_ | refine hX _ _ ?_ | refine hR _ ?_); (try (clear hG; clear Kg)); clear hN hX hR; clear Kv) | ((conv => whnf); first | (with_reducible first | rfl | exact True.intro | intro _ | refine And.intro ?_ ?_) | ((with_reducible first | refine hN _ ?_ | refine hX _ _ ?_ | refine hR _ ?_); (try (clear hG; clear Kg)); clear hN hX hR; clear Kv) | (with_reducible first | refine BdS (fun Kv hN hX hR => ?_) | refine Stop.mk ?_ | refine Join.mk ⟨fun Kv hN hX hR => ?_, ?_⟩ | refine DrawJ.each ?_ | exact SubJ.self _) | with_reducible refine SubJ.of ?_ | (with_reducible first | refine FlS (fun Kf hF => ?_) | refine FlN ?_ | refine NdS (fun Kg hG => ?_) | (refine hF _ _ ?_; clear hF; clear Kf) | (refine hG _ _ _ _ ?_; clear hG; clear Kg))))); all_goals (conv => whnf); all_goals (repeat ((try (clear hG; clear Kg)); clear hN hX hR; clear Kv))
              all_goals first
                | exact wrapI (by omega) (by omega)
                | rfl)
         | (have h := of_decide_eq_false (show decide ((i : Int) < (xs.length : Nat)) = false by with_reducible assumption)
            exact (decide_eq_true (eq_of_take (d := default) (by omega) fun j hj => hi.2 j (by omega))).symm)
         | trace_state)
    | trace_state
end Go.Proofs.Ytaapoiikbolgnaa

/- Chapter 16: the laws' functions. -/
namespace Go.Proofs.Ytaapoiikbolgnaa
open Go.RowKit
set_option maxRecDepth 20000

theorem k_SameView : Known Try.prog tau 27 (S2 dView dView fun a b => okB (decide (a = b))) := by
  refine known2 hmix tau_ok (ctx_cons k_SamePeers (ctx_cons k_SameInts ctx_nil)) (fn := Try.f27) (by kernel_rfl) [] (by kernel_rfl) _ _ _ fun a b hfit => ⟨rfl, [], ?_⟩
  clear hfit
  (repeat' (first | ((with_reducible refine BdI ?_); (first | ((with_reducible refine SqI ?_ (fun Kv hN hX hR => ?_)); (next => exact rfl)) | ((with_reducible refine JnI ?_ ?_); (next => exact rfl)) | (conv => whnf))) | (with_reducible first | refine BdS (fun Kv hN hX hR => ?_) | refine Stop.mk ?_ | refine Join.mk ⟨fun Kv hN hX hR => ?_, ?_⟩ | refine DrawJ.each ?_ | exact SubJ.self _) | with_reducible refine SubJ.of ?_ | (with_reducible first | refine FlS (fun Kf hF => ?_) | refine FlN ?_ | refine NdS (fun Kg hG => ?_) | (refine hF _ _ ?_; clear hF; clear Kf) | (refine hG _ _ _ _ ?_; clear hG; clear Kg)) | ((with_reducible refine SqI ?_ (fun Kv hN hX hR => ?_)); (next => exact rfl)) | ((with_reducible refine JnI ?_ ?_); (next => exact rfl)) | ((with_reducible first | refine hN _ ?_ | refine hX _ _ ?_ | refine hR _ ?_); (try (clear hG; clear Kg)); clear hN hX hR; clear Kv) | ((conv => whnf); first | (with_reducible first | rfl | exact True.intro | intro _ | refine And.intro ?_ ?_) | ((with_reducible first | refine hN _ ?_ | refine hX _ _ ?_ | refine hR _ ?_); (try (clear hG; clear Kg)); clear hN hX hR; clear Kv) | (with_reducible first | refine BdS (fun Kv hN hX hR => ?_) | refine Stop.mk ?_ | refine Join.mk ⟨fun Kv hN hX hR => ?_, ?_⟩ | refine DrawJ.each ?_ | exact SubJ.self _) | with_reducible refine SubJ.of ?_ | (with_reducible first | refine FlS (fun Kf hF => ?_) | refine FlN ?_ | refine NdS (fun Kg hG => ?_) | (refine hF _ _ ?_; clear hF; clear Kf) | (refine hG _ _ _ _ ?_; clear hG; clear Kg))))); all_goals (conv => whnf); all_goals (repeat ((try (clear hG; clear Kg)); clear hN hX hR; clear Kv))
  all_goals (cases a; cases b; simp_all)
theorem k_SameNode : Known Try.prog tau 15 (S2 dNode dNode fun a b => okB (decide (a = b))) := by
  refine known2 hmix tau_ok (ctx_cons k_SameView (ctx_cons k_SameItems (ctx_cons k_SameTolds ctx_nil))) (fn := Try.f15) (by kernel_rfl) [] (by kernel_rfl) _ _ _ fun a b hfit => ⟨rfl, [], ?_⟩
  clear hfit
  (repeat' (first | ((with_reducible refine BdI ?_); (first | ((with_reducible refine SqI ?_ (fun Kv hN hX hR => ?_)); (next => exact rfl)) | ((with_reducible refine JnI ?_ ?_); (next => exact rfl)) | (conv => whnf))) | (with_reducible first | refine BdS (fun Kv hN hX hR => ?_) | refine Stop.mk ?_ | refine Join.mk ⟨fun Kv hN hX hR => ?_, ?_⟩ | refine DrawJ.each ?_ | exact SubJ.self _) | with_reducible refine SubJ.of ?_ | (with_reducible first | refine FlS (fun Kf hF => ?_) | refine FlN ?_ | refine NdS (fun Kg hG => ?_) | (refine hF _ _ ?_; clear hF; clear Kf) | (refine hG _ _ _ _ ?_; clear hG; clear Kg)) | ((with_reducible refine SqI ?_ (fun Kv hN hX hR => ?_)); (next => exact rfl)) | ((with_reducible refine JnI ?_ ?_); (next => exact rfl)) | ((with_reducible first | refine hN _ ?_ | refine hX _ _ ?_ | refine hR _ ?_); (try (clear hG; clear Kg)); clear hN hX hR; clear Kv) | ((conv => whnf); first | (with_reducible first | rfl | exact True.intro | intro _ | refine And.intro ?_ ?_) | ((with_reducible first | refine hN _ ?_ | refine hX _ _ ?_ | refine hR _ ?_); (try (clear hG; clear Kg)); clear hN hX hR; clear Kv) | (with_reducible first | refine BdS (fun Kv hN hX hR => ?_) | refine Stop.mk ?_ | refine Join.mk ⟨fun Kv hN hX hR => ?_, ?_⟩ | refine DrawJ.each ?_ | exact SubJ.self _) | with_reducible refine SubJ.of ?_ | (with_reducible first | refine FlS (fun Kf hF => ?_) | refine FlN ?_ | refine NdS (fun Kg hG => ?_) | (refine hF _ _ ?_; clear hF; clear Kf) | (refine hG _ _ _ _ ?_; clear hG; clear Kg))))); all_goals (conv => whnf); all_goals (repeat ((try (clear hG; clear Kg)); clear hN hX hR; clear Kv))
  all_goals (rcases a with ⟨a1, ⟨a2, a3, a4⟩, a5, a6⟩; rcases b with ⟨b1, ⟨b2, b3, b4⟩, b5, b6⟩; simp_all)
theorem k_it : Known Try.prog tau 23 (S2 dInt dInt fun k c => .ok (.agg [.int .i64 k, .int .i64 c, .int .i64 1, .int .i64 (bits .and .i64 c 255), .bool false]) []) := by
  refine known2 hmix tau_ok ctx_nil (fn := Try.f23) (by kernel_rfl) [] (by kernel_rfl) _ _ _ fun k c hfit => ⟨rfl, [], ?_⟩
  clear hfit
  (repeat' (first | ((with_reducible refine BdI ?_); (first | ((with_reducible refine SqI ?_ (fun Kv hN hX hR => ?_)); (next => exact rfl)) | ((with_reducible refine JnI ?_ ?_); (next => exact rfl)) | (conv => whnf))) | (with_reducible first | refine BdS (fun Kv hN hX hR => ?_) | refine Stop.mk ?_ | refine Join.mk ⟨fun Kv hN hX hR => ?_, ?_⟩ | refine DrawJ.each ?_ | exact SubJ.self _) | with_reducible refine SubJ.of ?_ | (with_reducible first | refine FlS (fun Kf hF => ?_) | refine FlN ?_ | refine NdS (fun Kg hG => ?_) | (refine hF _ _ ?_; clear hF; clear Kf) | (refine hG _ _ _ _ ?_; clear hG; clear Kg)) | ((with_reducible refine SqI ?_ (fun Kv hN hX hR => ?_)); (next => exact rfl)) | ((with_reducible refine JnI ?_ ?_); (next => exact rfl)) | ((with_reducible first | refine hN _ ?_ | refine hX _ _ ?_ | refine hR _ ?_); (try (clear hG; clear Kg)); clear hN hX hR; clear Kv) | ((conv => whnf); first | (with_reducible first | rfl | exact True.intro | intro _ | refine And.intro ?_ ?_) | ((with_reducible first | refine hN _ ?_ | refine hX _ _ ?_ | refine hR _ ?_); (try (clear hG; clear Kg)); clear hN hX hR; clear Kv) | (with_reducible first | refine BdS (fun Kv hN hX hR => ?_) | refine Stop.mk ?_ | refine Join.mk ⟨fun Kv hN hX hR => ?_, ?_⟩ | refine DrawJ.each ?_ | exact SubJ.self _) | with_reducible refine SubJ.of ?_ | (with_reducible first | refine FlS (fun Kf hF => ?_) | refine FlN ?_ | refine NdS (fun Kg hG => ?_) | (refine hF _ _ ?_; clear hF; clear Kf) | (refine hG _ _ _ _ ?_; clear hG; clear Kg))))); all_goals (conv => whnf); all_goals (repeat ((try (clear hG; clear Kg)); clear hN hX hR; clear Kv))
  all_goals rfl
end Go.Proofs.Ytaapoiikbolgnaa

/- Chapter 16: the laws' functions: awake. -/
namespace Go.Proofs.Ytaapoiikbolgnaa
open Go.RowKit
set_option maxRecDepth 20000

def n100 : GNode := ⟨true, ⟨100, [⟨101, 2⟩, ⟨200, 0⟩, ⟨90, 1⟩], [7]⟩, [⟨95, ⟨1, 1⟩, 1, false⟩, ⟨99, ⟨3, 1⟩, 3, false⟩, ⟨250, ⟨2, 1⟩, 2, false⟩], []⟩
def nOwn (n : GNode) : List SV := [.bool n.up, .int .i64 n.view.id, .own 0, .own 1, .own 2, .row .new (.tolds n.log)]
theorem k_node100 : Known Try.prog tau 22 (S0 (.ok (.agg (nOwn n100)) [.peers n100.view.peers, .ints n100.view.passive, .items n100.items])) := by
  refine known0 hmix tau_ok (ctx_cons k_it ctx_nil) (fn := Try.f22) (by kernel_rfl) [] (by kernel_rfl) _ fun hfit => ⟨rfl, [], ?_⟩
  clear hfit
  (repeat' (first | ((with_reducible refine BdI ?_); (first | ((with_reducible refine SqI ?_ (fun Kv hN hX hR => ?_)); (next => exact rfl)) | ((with_reducible refine JnI ?_ ?_); (next => exact rfl)) | (conv => whnf))) | (with_reducible first | refine BdS (fun Kv hN hX hR => ?_) | refine Stop.mk ?_ | refine Join.mk ⟨fun Kv hN hX hR => ?_, ?_⟩ | refine DrawJ.each ?_ | exact SubJ.self _) | with_reducible refine SubJ.of ?_ | (with_reducible first | refine FlS (fun Kf hF => ?_) | refine FlN ?_ | refine NdS (fun Kg hG => ?_) | (refine hF _ _ ?_; clear hF; clear Kf) | (refine hG _ _ _ _ ?_; clear hG; clear Kg)) | ((with_reducible refine SqI ?_ (fun Kv hN hX hR => ?_)); (next => exact rfl)) | ((with_reducible refine JnI ?_ ?_); (next => exact rfl)) | ((with_reducible first | refine hN _ ?_ | refine hX _ _ ?_ | refine hR _ ?_); (try (clear hG; clear Kg)); clear hN hX hR; clear Kv) | ((conv => whnf); first | (with_reducible first | rfl | exact True.intro | intro _ | refine And.intro ?_ ?_) | ((with_reducible first | refine hN _ ?_ | refine hX _ _ ?_ | refine hR _ ?_); (try (clear hG; clear Kg)); clear hN hX hR; clear Kv) | (with_reducible first | refine BdS (fun Kv hN hX hR => ?_) | refine Stop.mk ?_ | refine Join.mk ⟨fun Kv hN hX hR => ?_, ?_⟩ | refine DrawJ.each ?_ | exact SubJ.self _) | with_reducible refine SubJ.of ?_ | (with_reducible first | refine FlS (fun Kf hF => ?_) | refine FlN ?_ | refine NdS (fun Kg hG => ?_) | (refine hF _ _ ?_; clear hF; clear Kf) | (refine hG _ _ _ _ ?_; clear hG; clear Kg))))); all_goals (conv => whnf); all_goals (repeat ((try (clear hG; clear Kg)); clear hN hX hR; clear Kv))
  all_goals first
    | (refine Ob.mk ?_; decide)
    | rfl
    | trace_state
/-- The same, to be reckoned. -/
def withC (l : List Int) (x : Int) : List Int × Int := if passB l = true ∧ placeB x = true then (if hasI l x = true then (l, (0 : Int)) else if l.length = 16 then ([], 801) else (insP l x, 0)) else ([], 800)
def newC (id : Int) : List Int → List Int → Option (List Int)
  | acc, [] => some acc
  | acc, y :: ys => if y = id then newC id acc ys else if (withC acc y).2 = 0 then newC id (withC acc y).1 ys else none
def nodeC (id : Int) (ids : List Int) : GNode × Int := if placeB id = true then (match newC id [] ids with
  | some l => ((⟨true, ⟨id, [], l⟩, [], []⟩ : GNode), (0 : Int))
  | none => (nodeZ, 1600)) else (nodeZ, 1600)
theorem withC_eq (l : List Int) (x : Int) : withP l x = withC l x := withP_def l x
theorem newC_eq (id : Int) : ∀ (ids acc : List Int), newP id acc ids = newC id acc ids
  | [], acc => rfl
  | y :: ys, acc => by
    unfold newP newC
    rw [withC_eq, newC_eq id ys, newC_eq id ys]
theorem nodeC_eq (id : Int) (ids : List Int) : newN id ids = nodeC id ids := by
  rw [newN_def, newC_eq]
  rfl
theorem aw16_a : newN 5 [9, 5, 3, 9] = (⟨true, ⟨5, [], [3, 9]⟩, [], []⟩, 0) := by rw [nodeC_eq]; decide
theorem aw16_b : newN 256 [] = (nodeZ, 1600) := by rw [nodeC_eq]; decide
theorem aw16_c : newN 5 [-1] = (nodeZ, 1600) := by rw [nodeC_eq]; decide
theorem n100_may : nodeB n100 = true := by decide
theorem aw16_d : nodeB ⟨false, ⟨9, [], []⟩, [], []⟩ = true := by decide
theorem aw16_e : nodeB ⟨false, ⟨9, [], []⟩, [], [⟨0, false, 0⟩]⟩ = false := by decide
set_option maxHeartbeats 1000000 in
theorem k_awake16 : Known Try.prog tau 21 (S0 (okB true)) := by
  refine known0 hmix tau_ok (ctx_cons k_New (ctx_cons k_SameNode (ctx_cons k_Num (ctx_cons k_nodeMay (ctx_cons k_node100 ctx_nil))))) (fn := Try.f21) (by kernel_rfl) [] (by kernel_rfl) _ fun hfit => ⟨rfl, [], ?_⟩
  clear hfit
  (repeat' (first | ((with_reducible refine BdI ?_); (first | ((with_reducible refine SqI ?_ (fun Kv hN hX hR => ?_)); (next => exact rfl)) | ((with_reducible refine JnI ?_ ?_); (next => exact rfl)) | (conv => whnf))) | (with_reducible first | refine BdS (fun Kv hN hX hR => ?_) | refine Stop.mk ?_ | refine Join.mk ⟨fun Kv hN hX hR => ?_, ?_⟩ | refine DrawJ.each ?_ | exact SubJ.self _) | with_reducible refine SubJ.of ?_ | (with_reducible first | refine FlS (fun Kf hF => ?_) | refine FlN ?_ | refine NdS (fun Kg hG => ?_) | (refine hF _ _ ?_; clear hF; clear Kf) | (refine hG _ _ _ _ ?_; clear hG; clear Kg)) | ((with_reducible refine SqI ?_ (fun Kv hN hX hR => ?_)); (next => exact rfl)) | ((with_reducible refine JnI ?_ ?_); (next => exact rfl)) | ((with_reducible first | refine hN _ ?_ | refine hX _ _ ?_ | refine hR _ ?_); (try (clear hG; clear Kg)); clear hN hX hR; clear Kv) | ((conv => whnf); first | (with_reducible first | rfl | exact True.intro | intro _ | refine And.intro ?_ ?_) | ((with_reducible first | refine hN _ ?_ | refine hX _ _ ?_ | refine hR _ ?_); (try (clear hG; clear Kg)); clear hN hX hR; clear Kv) | (with_reducible first | refine BdS (fun Kv hN hX hR => ?_) | refine Stop.mk ?_ | refine Join.mk ⟨fun Kv hN hX hR => ?_, ?_⟩ | refine DrawJ.each ?_ | exact SubJ.self _) | with_reducible refine SubJ.of ?_ | (with_reducible first | refine FlS (fun Kf hF => ?_) | refine FlN ?_ | refine NdS (fun Kg hG => ?_) | (refine hF _ _ ?_; clear hF; clear Kf) | (refine hG _ _ _ _ ?_; clear hG; clear Kg))))); all_goals (conv => whnf); all_goals (repeat ((try (clear hG; clear Kg)); clear hN hX hR; clear Kv))
  all_goals (try simp only [etaNode, aw16_a, aw16_b, aw16_c, aw16_d, aw16_e, n100_may] at *)
  all_goals first
    | (refine Ob.mk ?_; decide)
    | (simp_all; done)
    | rfl
    | trace_state
end Go.Proofs.Ytaapoiikbolgnaa

/- Chapter 16: a node that is down. -/
namespace Go.Proofs.Ytaapoiikbolgnaa
open Go.RowKit
set_option maxRecDepth 20000

end Go.Proofs.Ytaapoiikbolgnaa

/- Chapter 16: a new node knows just whom it is told. -/
namespace Go.Proofs.Ytaapoiikbolgnaa
open Go.RowKit
set_option maxRecDepth 20000

end Go.Proofs.Ytaapoiikbolgnaa

/- A symbolic executor for loaded Go code: the library's Grow of nil. -/
namespace Go.Proofs.Ytaapoiikbolgnaa
open Go.RowKit

section
variable {P : Program} {τ : Tys}
/-- What is known of slices.Grow of nil at one type: its walk. -/
structure GrowW (P : Program) (f : FuncId) (e : TypeId) (sz bts : Nat) : Prop where
  ent : Enters P f
  run : ∀ (n : Nat) (w : World), n * bts ≤ 140737488355328 → Calls P f #[.slice none 0 0, .int .i64 n] w fun x w' => ∃ v', x = .returned v' ∧ w'.ownsRow w.heap.size e sz v' 0 [] ∧ Below w.heap.size w w'
end
end Go.Proofs.Ytaapoiikbolgnaa

/- slices.Clone at one type: its walk. -/
namespace Go.Proofs.Ytaapoiikbolgnaa
open Go.RowKit
end Go.Proofs.Ytaapoiikbolgnaa

/- Contracts: Grow of nil, Concat of rows of ints; Ids; Copy of a view. -/
namespace Go.Proofs.Ytaapoiikbolgnaa
open Go.RowKit
set_option maxRecDepth 20000
end Go.Proofs.Ytaapoiikbolgnaa

/- Contracts: peers that age; a view's copy; time that goes by. -/
namespace Go.Proofs.Ytaapoiikbolgnaa
open Go.RowKit
set_option maxRecDepth 20000
end Go.Proofs.Ytaapoiikbolgnaa

/- Contracts: time that goes by: the program's. -/
namespace Go.Proofs.Ytaapoiikbolgnaa
open Go.RowKit
set_option maxRecDepth 20000
end Go.Proofs.Ytaapoiikbolgnaa

/- Time that goes by, without a program: a view that may be stays one. -/
namespace Go.Proofs.Ytaapoiikbolgnaa
open Go.RowKit

end Go.Proofs.Ytaapoiikbolgnaa

/- Contracts: time that goes by: the document's. -/
namespace Go.Proofs.Ytaapoiikbolgnaa
open Go.RowKit
set_option maxRecDepth 20000
end Go.Proofs.Ytaapoiikbolgnaa

/- Chapter 11: awake; a view that hears nobody. -/
namespace Go.Proofs.Ytaapoiikbolgnaa
open Go.RowKit
set_option maxRecDepth 20000
end Go.Proofs.Ytaapoiikbolgnaa

/- A symbolic executor for loaded Go code: rows that are written over. -/
namespace Go.Proofs.Ytaapoiikbolgnaa
open Go.RowKit

/-! ### 1. Whole numbers of one block may have become others -/
structure Hav (g0 : Nat) (w w' : World) : Prop where
  below : Below g0 w w'
  size : w'.heap.size = w.heap.size
  out : ∀ g, g ≠ g0 → w'.heap[g]? = w.heap[g]?
  obj : ∀ o, w.heap[g0]? = some o → (w'.heap[g0]? = some o) ∨ ∃ c c' T f, o = .cells c T f ∧ w'.heap[g0]? = some (.cells c' T f) ∧ c'.size = c.size
  cell : ∀ a : Addr, w'.cell? a = w.cell? a ∨ ∃ z z', w.cell? a = some (.int .i64 z) ∧ w'.cell? a = some (.int .i64 z')
theorem Hav.refl (g0 : Nat) (w : World) : Hav g0 w w := ⟨Below.refl _ _, rfl, fun _ _ => rfl, fun _ h => .inl h, fun _ => .inl rfl⟩
theorem Hav.store {g0 : Nat} {w wr : World} (h : Hav g0 w wr) {a : Addr} (ha : a.block = g0) (hs : a.spot = none) {z z' : Int} (hz : wr.cell? a = some (.int .i64 z)) : Hav g0 w (wr.setCell a (.int .i64 z')) := by
  refine ⟨h.below.setCell (by omega) _, by rw [← h.size]; simp [World.setCell], fun g hg => ?_, fun o ho => ?_, fun b => ?_⟩
  · rw [Below.heap_setCell _ _ _ _ (by omega)]; exact h.out g hg
  · have key : ∀ o1, wr.heap[g0]? = some o1 → (∃ c T f, o1 = .cells c T f ∧ (wr.setCell a (.int .i64 z')).heap[g0]? = some (.cells (c.setIfInBounds a.off (.int .i64 z')) T f)) := by
      intro o1 ho1
      have hc := hz
      unfold World.cell? at hc
      rw [ha, ho1] at hc
      cases o1 with
      | cells c T f =>
        refine ⟨c, T, f, rfl, ?_⟩
        simp only [World.setCell, Array.getElem?_modify, ha, if_true, ho1, Option.map_some, hs]
        rfl
      | _ => simp at hc
    rcases h.obj o ho with h1 | ⟨c, c', T, f, rfl, h1, h2⟩
    · obtain ⟨c, T, f, rfl, h3⟩ := key o h1
      exact .inr ⟨c, _, T, f, rfl, h3, by simp⟩
    · obtain ⟨c2, T2, f2, e, h3⟩ := key _ h1
      injection e with e1 e2 e3
      subst e1 e2 e3
      exact .inr ⟨c, _, _, _, rfl, h3, by simpa using h2⟩
  · by_cases hb : a = b
    · subst hb
      refine .inr ?_
      rw [World.cell?_setCell_same _ _ _ hz]
      rcases h.cell a with h1 | ⟨y, y', h1, h2⟩
      · exact ⟨z, z', by rw [← h1]; exact hz, rfl⟩
      · exact ⟨y, z', h1, rfl⟩
    · rw [World.cell?_setCell_other _ _ _ _ hb]
      exact h.cell b
theorem Hav.unfz {g0 : Nat} {w w' : World} (h : Hav g0 w w') {g : Nat} (hu : unfz w g) : unfz w' g := by
  by_cases hg : g = g0
  · subst hg
    intro c T lo hi hc
    have hlt : g < w'.heap.size := (Array.getElem?_eq_some_iff.1 hc).1
    rw [h.size] at hlt
    rcases h.obj _ (Array.getElem?_eq_getElem hlt) with h1 | ⟨c1, c', T1, f, e, h1, h2⟩
    · exact hu c T lo hi (by rw [← hc, h1]; exact Array.getElem?_eq_getElem hlt)
    · rw [h1] at hc
      injection hc with hc
      injection hc with e1 e2 e3
      subst e1
      have := hu c1 T1 lo hi (by rw [Array.getElem?_eq_getElem hlt, e, e3])
      rw [h2]
      exact this
  · exact hu.of (h.out g hg)
theorem unfz_frozen {w : World} {a : Addr} {v : Value} (h : unfz w a.block) (hc : w.cell? a = some v) : w.frozen? a = false := by
  unfold World.cell? at hc
  unfold World.frozen?
  split at hc
  · rename_i c T f hh
    obtain ⟨lo, hi⟩ := f
    rw [hh]
    have := h c T lo hi hh
    split at hc
    · simp at hc
    · have hlt := (Array.getElem?_eq_some_iff.1 hc).1
      simp only [Bool.and_eq_false_iff, decide_eq_false_iff_not]
      omega
  · simp at hc
/-! ### 2. Rows, read again -/
theorem like_zeros (r : Rw) (i : Nat) : likeL ((Rw.zeros r.kd 1).cell .any 0) (r.cell .any i) := by
  cases r <;> refine ⟨rfl, fun j y hy => ?_⟩ <;> simp only [Rw.kd, Rw.zeros, Rw.cell, List.replicate, List.getD_cons_zero, GItem.cells, GPeer.cells, GTold.cells, GCut.cells, GMsg.cells, GNode.cells, GAct.cells] at hy ⊢ <;>
    (match j, hy with
      | 0, hy | 1, hy | 2, hy | 3, hy | 4, hy | 5, hy | 6, hy | 7, hy | 8, hy | 9, hy | 10, hy => first
        | (simp at hy; done)
        | (simp at hy; subst hy; exact ⟨_, rfl, _, rfl⟩)
        | (simp at hy; subst hy; exact ⟨_, rfl, _, rfl, rfl⟩)
      | j + 11, hy => simp at hy)
/-- Of the same shape. -/
def alike : SV → SV → Prop
  | .int k _, x => ∃ n, x = .int k n
  | .bool _, x => ∃ b, x = .bool b
  | .str _, x => ∃ s, x = .str s
  | .row _ r, x => ∃ r' : Rw, x = .row .any r' ∧ r'.kd = r.kd
  | _, _ => False
theorem like_trans {z x y : SV} (h : like z x) (h2 : alike x y) : like z y := by
  cases z <;> first
    | exact h.elim
    | (obtain ⟨n, rfl⟩ := h; exact h2)
    | (obtain ⟨r', rfl, hk⟩ := h; obtain ⟨r2, rfl, hk2⟩ := h2; exact ⟨r2, rfl, hk2.trans hk⟩)
/-- A row, rebuilt cell by cell. -/
theorem rebuild (r : Rw) (Q : Nat → Nat → SV → Prop) (h : ∀ i j x, i < r.len → (r.cell .any i)[j]? = some x → ∃ y, alike x y ∧ Q i j y) :
    ∃ r' : Rw, r'.kd = r.kd ∧ r'.len = r.len ∧ ∀ i j y, i < r.len → (r'.cell .any i)[j]? = some y → Q i j y := by
  have h1 : ∀ i j, ∃ y, ∀ x, i < r.len → (r.cell .any i)[j]? = some x → alike x y ∧ Q i j y := by
    intro i j
    by_cases hi : i < r.len
    · cases hx : (r.cell .any i)[j]? with
      | none => exact ⟨.junk, fun x _ h => by simp at h⟩
      | some x =>
        obtain ⟨y, h2, h3⟩ := h i j x hi hx
        exact ⟨y, fun x' _ h' => by injection h' with h'; subst h'; exact ⟨h2, h3⟩⟩
    · exact ⟨.junk, fun x h' => absurd h' hi⟩
  obtain ⟨Y, hY⟩ : ∃ Y : Nat → Nat → SV, ∀ i j x, i < r.len → (r.cell .any i)[j]? = some x → alike x (Y i j) ∧ Q i j (Y i j) := ⟨fun i j => Classical.choose (h1 i j), fun i j => Classical.choose_spec (h1 i j)⟩
  have hX : ∀ i (hi : i < r.len), ((List.range (r.cell .any i).length).map (Y i)).length = (r.cell .any i).length ∧ ∀ j x, (r.cell .any i)[j]? = some x → ∃ y, ((List.range (r.cell .any i).length).map (Y i))[j]? = some y ∧ alike x y ∧ Q i j y := by
    intro i hi
    refine ⟨by simp, fun j x hx => ⟨Y i j, ?_, hY i j x hi hx⟩⟩
    have hjl := (List.getElem?_eq_some_iff.1 hx).1
    simp only [List.getElem?_map, List.getElem?_range hjl, Option.map_some]
  have hk12 : r.kd < 12 := by cases r <;> simp [Rw.kd]
  obtain ⟨r', h1, h2, h3⟩ := mkLike r.kd r.len hk12 (fun i => (List.range (r.cell .any i).length).map (Y i)) fun i hi => by
    have hz := like_zeros r i
    obtain ⟨g1, g2⟩ := hX i hi
    refine ⟨hz.1.trans g1.symm, fun j z hzj => ?_⟩
    obtain ⟨x, hx, hzx⟩ := hz.2 j z hzj
    obtain ⟨y, hy, hxy, _⟩ := g2 j x hx
    exact ⟨y, hy, like_trans hzx hxy⟩
  refine ⟨r', h1, h2, fun i j y hi hy => ?_⟩
  rw [h3 i hi] at hy
  obtain ⟨g1, g2⟩ := hX i hi
  have hjl : j < (r.cell .any i).length := by rw [← g1]; exact (List.getElem?_eq_some_iff.1 hy).1
  obtain ⟨y', hy', _, hQ⟩ := g2 j _ (List.getElem?_eq_getElem hjl)
  rw [hy] at hy'
  injection hy' with hy'
  rw [hy']
  exact hQ
theorem cell_kind (r : Rw) {i j : Nat} {x : SV} (h : (r.cell .any i)[j]? = some x) : (∃ k n, x = .int k n) ∨ (∃ b, x = .bool b) ∨ (∃ s, x = .str s) ∨ ∃ r', x = .row .any r' ∧ r'.flat = true := by
  have hm := List.mem_of_getElem? h
  cases r <;> simp [Rw.cell, GItem.cells, GPeer.cells, GTold.cells, GCut.cells, GMsg.cells, GNode.cells, GAct.cells] at hm
  · exact .inl ⟨_, _, hm⟩
  · exact .inl ⟨_, _, hm⟩
  · exact .inr (.inr (.inl ⟨_, hm⟩))
  · rcases hm with h | h <;> exact .inl ⟨_, _, h⟩
  · rcases hm with h | h | h | h | h <;> first | exact .inl ⟨_, _, h⟩ | exact .inr (.inl ⟨_, h⟩)
  · rcases hm with h | h | h <;> first | exact .inl ⟨_, _, h⟩ | exact .inr (.inl ⟨_, h⟩)
  · rcases hm with h | h <;> exact .inl ⟨_, _, h⟩
  · rcases hm with h | h | h | h | h | h | h | h | h | h | h <;> first | exact .inl ⟨_, _, h⟩ | exact .inr (.inl ⟨_, h⟩) | exact .inr (.inr (.inr ⟨_, h, rfl⟩))
  · rcases hm with h | h | h | h | h | h <;> first | exact .inl ⟨_, _, h⟩ | exact .inr (.inl ⟨_, h⟩) | exact .inr (.inr (.inr ⟨_, h, rfl⟩))
  · rcases hm with h | h | h | h | h | h | h <;> first | exact .inl ⟨_, _, h⟩ | exact .inr (.inl ⟨_, h⟩) | exact .inr (.inr (.inr ⟨_, h, rfl⟩))
  · exact .inr (.inr (.inr ⟨_, hm, rfl⟩))
  · exact .inr (.inl ⟨_, hm⟩)
theorem hav_flat {g0 : Nat} {w w' : World} (h : Hav g0 w w') {F F' : Nat → Prop} (hF : ∀ g, F g → F' g) {r : Rw} {v : Value} (hd : RowD sc w F r v) : ∃ r' : Rw, r'.kd = r.kd ∧ r'.len = r.len ∧ RowD sc w' F' r' v := by
  obtain ⟨h0, A, c, hv, hn, hc⟩ := hd
  obtain ⟨r', h1, h2, h3⟩ := rebuild r (fun i j y => ∀ ad : Addr, A = some ad → ∃ u, w'.cell? (ad.add (i * r.sz + j)) = some u ∧ sc y u) (fun i j x hi hx => by
    obtain ⟨ad, hA, hs, hFb, hcell⟩ := hc (by omega)
    obtain ⟨u, hu, hsc⟩ := hcell i j x hi hx
    have hcc := h.cell (ad.add (i * r.sz + j))
    rcases cell_kind r hx with ⟨k, n, rfl⟩ | ⟨b, rfl⟩ | ⟨b, rfl⟩ | ⟨r1, rfl, _⟩
    · obtain rfl : u = .int k n := hsc
      rcases hcc with e | ⟨z, z', e1, e2⟩
      · exact ⟨.int k n, ⟨n, rfl⟩, fun ad' h' => ⟨_, by rw [hA] at h'; injection h' with h'; subst h'; rw [e]; exact hu, rfl⟩⟩
      · rw [hu] at e1
        injection e1 with e1
        injection e1 with e3 e4
        subst e3
        exact ⟨.int .i64 z', ⟨z', rfl⟩, fun ad' h' => ⟨_, by rw [hA] at h'; injection h' with h'; subst h'; exact e2, rfl⟩⟩
    · obtain rfl : u = .bool b := hsc
      rcases hcc with e | ⟨z, z', e1, e2⟩
      · exact ⟨.bool b, ⟨b, rfl⟩, fun ad' h' => ⟨_, by rw [hA] at h'; injection h' with h'; subst h'; rw [e]; exact hu, rfl⟩⟩
      · rw [hu] at e1; simp at e1
    · obtain rfl : u = .string b := hsc
      rcases hcc with e | ⟨z, z', e1, e2⟩
      · exact ⟨.str b, ⟨b, rfl⟩, fun ad' h' => ⟨_, by rw [hA] at h'; injection h' with h'; subst h'; rw [e]; exact hu, rfl⟩⟩
      · rw [hu] at e1; simp at e1
    · exact hsc.elim)
  have hsz : r'.sz = r.sz := Rw.sz_of_kd h1
  have hbt : r'.bts = r.bts := by unfold Rw.bts; rw [h1]
  refine ⟨r', h1, h2, by rw [h2, hbt]; exact h0, A, c, by rw [h2]; exact hv, by rw [h2]; exact hn, fun hp => ?_⟩
  rw [h2] at hp
  obtain ⟨ad, hA, hs, hFb, _⟩ := hc hp
  refine ⟨ad, hA, hs, hF _ hFb, fun i j y hi hy => ?_⟩
  rw [h2] at hi
  obtain ⟨u, hu, hsc⟩ := h3 i j y hi hy ad hA
  exact ⟨u, by rw [hsz]; exact hu, hsc⟩
/-- A cell, read again. -/
theorem hav_cd {g0 : Nat} {w w' : World} (h : Hav g0 w w') {F F' : Nat → Prop} (hF : ∀ g, F g → F' g) {r : Rw} {i j : Nat} {x : SV} (hx : (r.cell .any i)[j]? = some x) {u u' : Value} (hd : cd1 w F x u) (hu : u' = u ∨ ∃ z z', u = .int .i64 z ∧ u' = .int .i64 z') :
    ∃ y, alike x y ∧ cd1 w' F' y u' := by
  rcases cell_kind r hx with ⟨k, n, rfl⟩ | ⟨b, rfl⟩ | ⟨b, rfl⟩ | ⟨r1, rfl, _⟩
  · obtain rfl : u = .int k n := hd
    rcases hu with rfl | ⟨z, z', e1, rfl⟩
    · exact ⟨.int k n, ⟨n, rfl⟩, rfl⟩
    · injection e1 with e3 e4
      subst e3
      exact ⟨.int .i64 z', ⟨z', rfl⟩, rfl⟩
  · obtain rfl : u = .bool b := hd
    rcases hu with rfl | ⟨z, z', e1, rfl⟩
    · exact ⟨.bool b, ⟨b, rfl⟩, rfl⟩
    · simp at e1
  · obtain rfl : u = .string b := hd
    rcases hu with rfl | ⟨z, z', e1, rfl⟩
    · exact ⟨.str b, ⟨b, rfl⟩, rfl⟩
    · simp at e1
  · have hd' : RowD sc w F r1 u := hd
    obtain ⟨r2, h1, h2, h3⟩ := hav_flat h hF hd'
    rcases hu with rfl | ⟨z, z', e1, rfl⟩
    · exact ⟨.row .any r2, ⟨r2, rfl, h1⟩, h3⟩
    · obtain ⟨_, A, c, hv, _⟩ := hd'
      rw [hv] at e1
      simp at e1
theorem hav_den {g0 : Nat} {w w' : World} (h : Hav g0 w w') {F F' : Nat → Prop} (hF : ∀ g, F g → F' g) {r : Rw} {v : Value} (hd : RowDen w F r v) : ∃ r' : Rw, r'.kd = r.kd ∧ r'.len = r.len ∧ RowDen w' F' r' v := by
  obtain ⟨h0, A, c, hv, hn, hc⟩ := hd
  obtain ⟨r', h1, h2, h3⟩ := rebuild r (fun i j y => ∀ ad : Addr, A = some ad → ∃ u, w'.cell? (ad.add (i * r.sz + j)) = some u ∧ cd1 w' F' y u) (fun i j x hi hx => by
    obtain ⟨ad, hA, hs, hFb, hcell⟩ := hc (by omega)
    obtain ⟨u, hu, hsc⟩ := hcell i j x hi hx
    obtain ⟨u', hu', hrel⟩ : ∃ u', w'.cell? (ad.add (i * r.sz + j)) = some u' ∧ (u' = u ∨ ∃ z z', u = .int .i64 z ∧ u' = .int .i64 z') := by
      rcases h.cell (ad.add (i * r.sz + j)) with e | ⟨z, z', e1, e2⟩
      · exact ⟨u, by rw [e]; exact hu, .inl rfl⟩
      · rw [hu] at e1
        injection e1 with e1
        exact ⟨_, e2, .inr ⟨z, z', e1, rfl⟩⟩
    obtain ⟨y, hy1, hy2⟩ := hav_cd h hF hx hsc hrel
    exact ⟨y, hy1, fun ad' h' => ⟨u', by rw [hA] at h'; injection h' with h'; subst h'; exact hu', hy2⟩⟩)
  have hsz : r'.sz = r.sz := Rw.sz_of_kd h1
  have hbt : r'.bts = r.bts := by unfold Rw.bts; rw [h1]
  refine ⟨r', h1, h2, by rw [h2, hbt]; exact h0, A, c, by rw [h2]; exact hv, by rw [h2]; exact hn, fun hp => ?_⟩
  rw [h2] at hp
  obtain ⟨ad, hA, hs, hFb, _⟩ := hc hp
  refine ⟨ad, hA, hs, hF _ hFb, fun i j y hi hy => ?_⟩
  rw [h2] at hi
  obtain ⟨u, hu, hsc⟩ := h3 i j y hi hy ad hA
  exact ⟨u, by rw [hsz]; exact hu, hsc⟩
theorem hav_own {τ : Tys} {E : Env} {g0 : Nat} {w w' : World} (h : Hav g0 w w') (hg : ¬ E.ow g0) (hF : ∀ t g, E.F w t g → E.F w' t g) {k lo : Nat} {r : Rw} (hd : OwnD τ E w k lo r) : ∃ r' : Rw, r'.kd = r.kd ∧ r'.len = r.len ∧ OwnD τ E w' k lo r' := by
  obtain ⟨ho, hf, us, hrow, hc⟩ := hd
  obtain ⟨r', h1, h2, h3⟩ := rebuild r (fun i j y => ∃ u, us[i * r.sz + j]? = some u ∧ cd1 w' (E.F w' (if i < lo then .new else .any)) y u) (fun i j x hi hx => by
    obtain ⟨u, hu, hcd⟩ := hc i j x hi hx
    obtain ⟨y, hy1, hy2⟩ := hav_cd h (hF _) hx hcd (.inl rfl)
    exact ⟨y, hy1, u, hu, hy2⟩)
  have hsz : r'.sz = r.sz := Rw.sz_of_kd h1
  have hbt : r'.bts = r.bts := by unfold Rw.bts; rw [h1]
  refine ⟨r', h1, h2, ho, by rw [h2, hbt]; exact hf, us, ?_, fun i j y hi hy => ?_⟩
  · rw [h1, h2, hsz]
    refine ⟨hrow.1, ?_⟩
    rcases hrow.2 with h4 | ⟨g, cap, cur, hv, hb, hheap, h5⟩
    · exact .inl h4
    · refine .inr ⟨g, cap, cur, hv, hb, ?_, h5⟩
      rw [h.out g (fun e => hg (e ▸ ho g (by rw [hv]; rfl)))]
      exact hheap
  · rw [hsz]
    exact h3 i j y (by omega) hy
/-! ### 3. States -/
def havR (r : Rw) (K : Rw → Prop) : Prop := match r with
  | .ints l => ∀ l' : List Int, l'.length = l.length → K (.ints l')
  | .bytes l => ∀ l' : List Int, l'.length = l.length → K (.bytes l')
  | .strs l => ∀ l' : List ByteArray, l'.length = l.length → K (.strs l')
  | .peers l => ∀ l' : List GPeer, l'.length = l.length → K (.peers l')
  | .items l => ∀ l' : List GItem, l'.length = l.length → K (.items l')
  | .tolds l => ∀ l' : List GTold, l'.length = l.length → K (.tolds l')
  | .cuts l => ∀ l' : List GCut, l'.length = l.length → K (.cuts l')
  | .msgs l => ∀ l' : List GMsg, l'.length = l.length → K (.msgs l')
  | .nodes l => ∀ l' : List GNode, l'.length = l.length → K (.nodes l')
  | .acts l => ∀ l' : List GAct, l'.length = l.length → K (.acts l')
  | .intss l => ∀ l' : List (List Int), l'.length = l.length → K (.intss l')
  | .bools l => ∀ l' : List Bool, l'.length = l.length → K (.bools l')
theorem havR_use {r r' : Rw} {K : Rw → Prop} (h : havR r K) (h1 : r'.kd = r.kd) (h2 : r'.len = r.len) : K r' := by
  cases r <;> cases r' <;> first
    | exact h _ h2
    | (simp [Rw.kd] at h1; done)
def havV0 (v : SV) (K : SV → Prop) : Prop := match v with
  | .int k n => K (.int k n)
  | .bool b => K (.bool b)
  | .lit b => K (.lit b)
  | .str b => K (.str b)
  | .row .new r => havR r fun r' => K (.row .new r')
  | .row .old r => K (.row .old r)
  | .nilS r => K (.nilS r)
  | .pre .old r n => K (.pre .old r n)
  | .own k => K (.own k)
  | .box k off => K (.box k off)
  | .pt .old cs => K (.pt .old cs)
  | .oel k i off => K (.oel k i off)
  | _ => K .junk
def havL : List SV → (List SV → Prop) → Prop
  | [], K => K []
  | v :: l, K => havV0 v fun v' => havL l fun l' => K (v' :: l')
/-- A value of a frame: what isn't old is forgotten. -/
def hvT0 : SV → SV
  | .int k n => .int k n
  | .bool b => .bool b
  | .lit b => .lit b
  | .str b => .str b
  | .row .old r => .row .old r
  | .nilS r => .nilS r
  | .pre .old r n => .pre .old r n
  | .own k => .own k
  | .box k off => .box k off
  | .pt .old cs => .pt .old cs
  | .oel k i off => .oel k i off
  | _ => .junk
def hvL : List SV → List SV
  | [] => []
  | v :: l => hvT0 v :: hvL l
def hvT : SV → SV
  | .agg cs => .agg (hvL cs)
  | v => hvT0 v
def hvF : List (Nat × SV) → List (Nat × SV)
  | [] => []
  | (t, v) :: l => (t, hvT v) :: hvF l
def hvS : List (List (Nat × SV)) → List (List (Nat × SV))
  | [] => []
  | f :: l => hvF f :: hvS l
def havB : List (Nat × (TypeId × List SV)) → (List (Nat × (TypeId × List SV)) → Prop) → Prop
  | [], K => K []
  | (k, (T, cs)) :: l, K => havL cs fun cs' => havB l fun l' => K ((k, (T, cs')) :: l')
/-- Rows that are read alone, and aren't old, are forgotten. -/
def dropSh : List (Nat × Ent) → List (Nat × Ent)
  | [] => []
  | (k, e) :: l => match e with
    | .shared .old r => (k, .shared .old r) :: dropSh l
    | .shared _ _ => dropKey (dropSh l) k
    | .own r => (k, .own r) :: dropSh l
    | .part lo r => (k, .part lo r) :: dropSh l
def havE : List (Nat × Ent) → (List (Nat × Ent) → Prop) → Prop
  | [], K => K []
  | (k, e) :: l, K => match e with
    | .own r => match r.flat with
      | true => havE l fun l' => K ((k, .own r) :: l')
      | false => havR r fun r' => havE l fun l' => K ((k, .own r') :: l')
    | .part lo r => havR r fun r' => havE l fun l' => K ((k, .part lo r') :: l')
    | .shared t r => havE l fun l' => K ((k, .shared t r) :: l')
def havSt (s : St) (K : St → Prop) : Prop := match s with
  | ⟨fr, stk, bx, rw, dep⟩ => havE (dropSh rw) fun rw => forceF (hvF fr) fun fr => havB bx fun bx => K ⟨fr, hvS stk, bx, rw, dep⟩
section
variable {τ : Tys} {w0 : World} {E : Env} {w w' : World} {g0 : Nat}
theorem dropSh_lk : ∀ {R : List (Nat × Ent)} {k : Nat} {e : Ent}, lk (dropSh R) k = some e → lk R k = some e ∧ ∀ t r, e = .shared t r → t = .old
  | [], _, _, h => by simp [dropSh, lk] at h
  | (j, e) :: l, k, e', h => by
    have keep : ∀ e0, (∀ t r, e0 = Ent.shared t r → t = .old) → lk ((j, e0) :: dropSh l) k = some e' → lk ((j, e0) :: l) k = some e' ∧ ∀ t r, e' = .shared t r → t = .old := by
      intro e0 h0 hk
      simp only [lk] at hk ⊢
      split at hk
      · injection hk with hk; subst hk; exact ⟨rfl, h0⟩
      · exact dropSh_lk hk
    have dropped : lk (dropKey (dropSh l) j) k = some e' → lk ((j, e) :: l) k = some e' ∧ ∀ t r, e' = .shared t r → t = .old := by
      intro hk
      rw [lk_dropKey] at hk
      split at hk
      · simp at hk
      · rename_i hne
        have hb : Nat.beq j k = false := by
          cases hb : Nat.beq j k with
          | false => rfl
          | true => exact absurd (Nat.eq_of_beq_eq_true hb).symm hne
        simp only [lk, hb]
        exact dropSh_lk hk
    cases e with
    | own r => exact keep _ (fun t r h => by simp at h) h
    | part lo r => exact keep _ (fun t r h => by simp at h) h
    | shared t r =>
      cases t with
      | old => exact keep _ (fun t r h => by injection h with h1 h2; exact h1.symm) h
      | new => exact dropped h
      | any => exact dropped h
/-- What an entry is, read again. -/
def EntAgain (τ : Tys) (E : Env) (w w' : World) (k : Nat) (e e' : Ent) : Prop :=
  (∃ r, e = .shared .old r ∧ e' = .shared .old r) ∨ (∃ r r', e = .own r ∧ e' = .own r' ∧ r'.kd = r.kd ∧ r'.len = r.len ∧ (OwnD τ E w k r.len r → OwnD τ E w' k r'.len r')) ∨
  ∃ lo r r', e = .part lo r ∧ e' = .part lo r' ∧ r'.kd = r.kd ∧ r'.len = r.len ∧ (OwnD τ E w k lo r → OwnD τ E w' k lo r')
theorem own_flat (h : Hav g0 w w') (hg : ¬ E.ow g0) {k lo : Nat} {r : Rw} (hf : r.flat = true) (hd : OwnD τ E w k lo r) : OwnD τ E w' k lo r := by
  obtain ⟨ho, hfit, us, hrow, hc⟩ := hd
  refine ⟨ho, hfit, us, ⟨hrow.1, ?_⟩, fun i j x hi hx => ?_⟩
  · rcases hrow.2 with h4 | ⟨g, cap, cur, hv, hb, hheap, h5⟩
    · exact .inl h4
    · refine .inr ⟨g, cap, cur, hv, hb, ?_, h5⟩
      rw [h.out g (fun e => hg (e ▸ ho g (by rw [hv]; rfl)))]
      exact hheap
  · obtain ⟨u, hu, hd⟩ := hc i j x hi hx
    exact ⟨u, hu, (flat_sc hf hx _ _ _ _ u).1 hd⟩
theorem mem_dropKey {α : Type} {l : List (Nat × α)} {k : Nat} {p : Nat × α} (h : p ∈ dropKey l k) : p ∈ l := by
  induction l with
  | nil => simp [dropKey] at h
  | cons q l ih =>
    obtain ⟨j, v⟩ := q
    simp only [dropKey] at h
    split at h
    · exact List.mem_cons_of_mem _ (ih h)
    · rcases List.mem_cons.1 h with rfl | h
      · exact List.mem_cons_self
      · exact List.mem_cons_of_mem _ (ih h)
theorem dropSh_mem : ∀ {R : List (Nat × Ent)} {p : Nat × Ent}, p ∈ dropSh R → ∀ t r, p.2 = .shared t r → t = .old
  | [], p, h => by simp [dropSh] at h
  | (j, e) :: l, p, h => by
    cases e with
    | own r =>
      rcases List.mem_cons.1 h with rfl | h
      · intro t r' e; simp at e
      · exact dropSh_mem h
    | part lo r =>
      rcases List.mem_cons.1 h with rfl | h
      · intro t r' e; simp at e
      · exact dropSh_mem h
    | shared t r =>
      cases t with
      | old =>
        rcases List.mem_cons.1 h with rfl | h
        · intro t r' e; injection e with e1 e2; exact e1.symm
        · exact dropSh_mem h
      | new => exact dropSh_mem (mem_dropKey h)
      | any => exact dropSh_mem (mem_dropKey h)
theorem own_again (h : Hav g0 w w') (hg : ¬ E.ow g0) (hF : ∀ t g, E.F w t g → E.F w' t g) (k lo : Nat) (r : Rw) : ∃ r' : Rw, r'.kd = r.kd ∧ r'.len = r.len ∧ (OwnD τ E w k lo r → OwnD τ E w' k lo r') := by
  by_cases hd : OwnD τ E w k lo r
  · obtain ⟨r', h1, h2, h3⟩ := hav_own h hg hF hd
    exact ⟨r', h1, h2, fun _ => h3⟩
  · exact ⟨r, rfl, rfl, fun h => absurd h hd⟩
theorem havE_use (h : Hav g0 w w') (hg : ¬ E.ow g0) (hF : ∀ t g, E.F w t g → E.F w' t g) : ∀ {R : List (Nat × Ent)} {K : List (Nat × Ent) → Prop}, havE R K → (∀ p ∈ R, ∀ t r, p.2 = Ent.shared t r → t = .old) → ∃ R', K R' ∧ (∀ k e', lk R' k = some e' → ∃ e, lk R k = some e ∧ EntAgain τ E w w' k e e')
  | [], K, hK, _ => ⟨[], hK, fun k e' h => by simp [lk] at h⟩
  | (j, e) :: l, K, hK, hold => by
    have hold' : ∀ p ∈ l, ∀ t r, p.2 = Ent.shared t r → t = .old := fun p hp => hold p (List.mem_cons_of_mem _ hp)
    have step : ∀ (e0 : Ent), EntAgain τ E w w' j e e0 → (havE l fun l' => K ((j, e0) :: l')) → ∃ R', K R' ∧ ∀ k e', lk R' k = some e' → ∃ e1, lk ((j, e) :: l) k = some e1 ∧ EntAgain τ E w w' k e1 e' := by
      intro e0 h0 h1
      obtain ⟨l', h2, h3⟩ := havE_use h hg hF h1 hold'
      refine ⟨_, h2, fun k e' hk => ?_⟩
      simp only [lk] at hk ⊢
      split at hk
      · rename_i hb
        injection hk with hk
        subst hk
        obtain rfl := Nat.eq_of_beq_eq_true hb
        exact ⟨e, rfl, h0⟩
      · exact h3 k e' hk
    cases e with
    | own r =>
      simp only [havE] at hK
      split at hK
      · rename_i hf
        exact step _ (.inr (.inl ⟨r, r, rfl, rfl, rfl, rfl, own_flat h hg hf⟩)) hK
      · obtain ⟨r', h1, h2, h3⟩ := own_again (τ := τ) h hg hF j r.len r
        exact step _ (.inr (.inl ⟨r, r', rfl, rfl, h1, h2, by rw [h2]; exact h3⟩)) (havR_use hK h1 h2)
    | part lo r =>
      simp only [havE] at hK
      obtain ⟨r', h1, h2, h3⟩ := own_again (τ := τ) h hg hF j lo r
      exact step _ (.inr (.inr ⟨lo, r, r', rfl, rfl, h1, h2, h3⟩)) (havR_use hK h1 h2)
    | shared t r =>
      simp only [havE] at hK
      obtain rfl := hold _ List.mem_cons_self t r rfl
      exact step _ (.inl ⟨r, rfl, rfl⟩) hK
/-- A value, read again. -/
theorem havV0_use (h : Hav g0 w w') (hg : E.F w .new g0) (hF : ∀ t g, E.F w t g → E.F w' t g) {R R' : List (Nat × Ent)} (hR : ∀ k e', lk R' k = some e' → ∃ e, lk R k = some e ∧ EntAgain τ E w w' k e e') {v : SV} {K : SV → Prop} (hK : havV0 v K) (u : Value) :
    ∃ v', K v' ∧ (vd0 E R w v u → vd0 E R' w' v' u) ∧ (∀ cs, v' ≠ .agg cs) ∧ (∀ cs, v' ≠ .tup cs) ∧ ∀ f a c, v' ≠ .clo f a c := by
  have old : ∀ g, E.F w .old g → g < w.heap.size → w'.heap[g]? = w.heap[g]? ∧ E.F w' .old g := fun g hgo _ => ⟨h.out g (fun e => by
    subst e
    have h1 : g < E.M := hgo.2
    have h2 : E.M ≤ g := hg.2.1
    omega), hF _ _ hgo⟩
  have junk : K .junk → ∃ v', K v' ∧ (vd0 E R w v u → vd0 E R' w' v' u) ∧ (∀ cs, v' ≠ .agg cs) ∧ (∀ cs, v' ≠ .tup cs) ∧ ∀ f a c, v' ≠ .clo f a c := fun hk => ⟨.junk, hk, fun _ => trivial, by simp, by simp, by simp⟩
  cases v with
  | int k n => exact ⟨_, hK, id, by simp, by simp, by simp⟩
  | bool b => exact ⟨_, hK, id, by simp, by simp, by simp⟩
  | lit b => exact ⟨_, hK, id, by simp, by simp, by simp⟩
  | str b => exact ⟨_, hK, id, by simp, by simp, by simp⟩
  | nilS r => exact ⟨_, hK, id, by simp, by simp, by simp⟩
  | pre t r n =>
    cases t with
    | old => exact ⟨_, hK, fun hd => by
        obtain ⟨A, c, h1, h2, h3⟩ := hd
        exact ⟨A, c, h1, h2, RowDen.mono h3 old⟩, by simp, by simp, by simp⟩
    | any => exact junk hK
    | new => exact junk hK
  | box k off => exact ⟨_, hK, id, by simp, by simp, by simp⟩
  | row t r =>
    cases t with
    | old => exact ⟨_, hK, fun hd => RowDen.mono hd old, by simp, by simp, by simp⟩
    | any => exact junk hK
    | new =>
      by_cases hd : RowDen w (E.F w .new) r u
      · obtain ⟨r', h1, h2, h3⟩ := hav_den h (hF .new) hd
        exact ⟨.row .new r', havR_use (K := fun r' => K (.row .new r')) hK h1 h2, fun _ => h3, by simp, by simp, by simp⟩
      · exact ⟨.row .new r, havR_use (K := fun r' => K (.row .new r')) hK rfl rfl, fun h => absurd h hd, by simp, by simp, by simp⟩
  | own k =>
    refine ⟨_, hK, fun hd => ?_, by simp, by simp, by simp⟩
    simp only [vd0] at hd ⊢
    cases hk : lk R' k with
    | none => trivial
    | some e' =>
      obtain ⟨e, he, ha⟩ := hR k e' hk
      rw [he] at hd
      rcases ha with ⟨r, rfl, rfl⟩ | ⟨r, r', rfl, rfl, _⟩ | ⟨lo, r, r', rfl, rfl, _⟩
      · exact RowDen.mono hd old
      · exact hd
      · exact hd
  | pt t cs =>
    cases t with
    | old =>
      refine ⟨_, hK, fun hd => ?_, by simp, by simp, by simp⟩
      obtain ⟨ad, h1, h2, h3, h4, h5⟩ := hd
      obtain ⟨he, hF'⟩ := old _ h4 h3
      refine ⟨ad, h1, h2, by rw [h.size]; exact h3, hF', fun j x hx => ?_⟩
      obtain ⟨u', hu, hd⟩ := h5 j x hx
      have hb : (ad.add j).block = ad.block := by unfold Addr.add; split <;> rfl
      exact ⟨u', cell_of_heap hu (by rw [hb]; exact he), cd2.mono hd old⟩
    | new => exact junk hK
    | any => exact junk hK
  | oel k i off =>
    refine ⟨_, hK, fun hd => ?_, by simp, by simp, by simp⟩
    simp only [vd0] at hd ⊢
    cases hk : lk R' k with
    | none => trivial
    | some e' =>
      obtain ⟨e, he, ha⟩ := hR k e' hk
      rw [he] at hd
      rcases ha with ⟨r, rfl, rfl⟩ | ⟨r, r', rfl, rfl, h1, h2, _⟩ | ⟨lo, r, r', rfl, rfl, h1, h2, _⟩
      · trivial
      · obtain ⟨g, n, c, g1, g2, g3, g4⟩ := hd
        exact ⟨g, n, c, g1, g2, by rw [h2]; exact g3, by rw [Rw.sz_of_kd h1]; exact g4⟩
      · obtain ⟨g, n, c, g1, g2, g3, g4⟩ := hd
        exact ⟨g, n, c, g1, g2, by rw [h2]; exact g3, by rw [Rw.sz_of_kd h1]; exact g4⟩
  | agg cs => exact junk hK
  | tup cs => exact junk hK
  | clo f a c => exact junk hK
  | junk => exact junk hK
theorem havV0_use1 (h : Hav g0 w w') (hg : E.F w .new g0) (hF : ∀ t g, E.F w t g → E.F w' t g) {R R' : List (Nat × Ent)} (hR : ∀ k e', lk R' k = some e' → ∃ e, lk R k = some e ∧ EntAgain τ E w w' k e e') {v : SV} {K : SV → Prop} (hK : havV0 v K) (u : Value) :
    ∃ v', K v' ∧ (vd1 E R w v u → vd1 E R' w' v' u) ∧ (∀ cs, v' ≠ .agg cs) ∧ ∀ cs, v' ≠ .tup cs := by
  obtain ⟨v', h1, h2, h3, h4, h5⟩ := havV0_use h hg hF hR hK u
  by_cases hc : ∃ f a c, v = .clo f a c
  · obtain ⟨f, a, c, rfl⟩ := hc
    exact ⟨.junk, hK, fun _ => trivial, by simp, by simp⟩
  · refine ⟨v', h1, fun hd => ?_, h3, h4⟩
    have e1 : vd0 E R w v u := by cases v <;> first | exact hd | exact absurd ⟨_, _, _, rfl⟩ hc
    have e2 := h2 e1
    cases v' <;> first | exact e2 | exact absurd rfl (h5 _ _ _)
theorem havL_use (h : Hav g0 w w') (hg : E.F w .new g0) (hF : ∀ t g, E.F w t g → E.F w' t g) {R R' : List (Nat × Ent)} (hR : ∀ k e', lk R' k = some e' → ∃ e, lk R k = some e ∧ EntAgain τ E w w' k e e') : ∀ {cs : List SV} {K : List SV → Prop} (us : List Value), havL cs K → ∃ cs', K cs' ∧ (L0 (vd1 E R w) cs us → L0 (vd1 E R' w') cs' us)
  | [], K, us, hK => ⟨[], hK, fun hd => ⟨hd.1, fun j x hx => by simp at hx⟩⟩
  | v :: l, K, [], hK => by
    obtain ⟨v', h1, _⟩ := havV0_use1 h hg hF hR hK (.bool false)
    obtain ⟨l', h2, _⟩ := havL_use h hg hF hR [] h1
    exact ⟨_, h2, fun hd => by have := hd.1; simp at this⟩
  | v :: l, K, u :: us, hK => by
    obtain ⟨v', h1, h3, _⟩ := havV0_use1 h hg hF hR hK u
    obtain ⟨l', h2, h4⟩ := havL_use h hg hF hR us h1
    refine ⟨_, h2, fun hd => ?_⟩
    obtain ⟨u', us', e, g1, g2⟩ := hd.inv_cons
    injection e with e1 e2
    subst e1 e2
    exact .cons (h3 g1) (h4 g2)
theorem hvT0_vd (h : Hav g0 w w') (hg : E.F w .new g0) (hF : ∀ t g, E.F w t g → E.F w' t g) {R R' : List (Nat × Ent)} (hR : ∀ k e', lk R' k = some e' → ∃ e, lk R k = some e ∧ EntAgain τ E w w' k e e') {v : SV} {u : Value} (hd : vd1 E R w v u) : vd1 E R' w' (hvT0 v) u := by
  by_cases hn : ∃ r, v = .row .new r
  · obtain ⟨r, rfl⟩ := hn
    trivial
  · have hK : havV0 v fun v' => v' = hvT0 v := by
      cases v with
      | row t r => cases t <;> first | rfl | exact absurd ⟨_, rfl⟩ hn
      | pt t r => cases t <;> rfl
      | pre t r n => cases t <;> rfl
      | _ => rfl
    obtain ⟨v', h1, h2, _⟩ := havV0_use1 h hg hF hR hK u
    rw [← h1]
    exact h2 hd
theorem hvL_vd (h : Hav g0 w w') (hg : E.F w .new g0) (hF : ∀ t g, E.F w t g → E.F w' t g) {R R' : List (Nat × Ent)} (hR : ∀ k e', lk R' k = some e' → ∃ e, lk R k = some e ∧ EntAgain τ E w w' k e e') : ∀ {cs : List SV} {us : List Value}, L0 (vd1 E R w) cs us → L0 (vd1 E R' w') (hvL cs) us
  | [], us, hd => ⟨hd.1, fun j x hx => by simp [hvL] at hx⟩
  | v :: l, us, hd => by
    obtain ⟨u, us', rfl, g1, g2⟩ := hd.inv_cons
    exact .cons (hvT0_vd h hg hF hR g1) (hvL_vd h hg hF hR g2)
theorem hvT_vd (h : Hav g0 w w') (hg : E.F w .new g0) (hF : ∀ t g, E.F w t g → E.F w' t g) {R R' : List (Nat × Ent)} (hR : ∀ k e', lk R' k = some e' → ∃ e, lk R k = some e ∧ EntAgain τ E w w' k e e') {v : SV} {u : Value} (hd : vd3 E R w v u) : vd3 E R' w' (hvT v) u := by
  cases v with
  | agg cs =>
    obtain ⟨us, rfl, hl⟩ := hd
    exact ⟨us, rfl, hvL_vd h hg hF hR hl⟩
  | tup cs => trivial
  | clo f a c => trivial
  | row t r =>
    have := hvT0_vd h hg hF hR (v := .row t r) (u := u) hd
    cases t <;> exact this
  | pt t cs =>
    have := hvT0_vd h hg hF hR (v := .pt t cs) (u := u) hd
    cases t <;> exact this
  | int k n => exact hvT0_vd h hg hF hR (v := .int k n) hd
  | bool b => exact hvT0_vd h hg hF hR (v := .bool b) hd
  | lit b => exact hvT0_vd h hg hF hR (v := .lit b) hd
  | str b => exact hvT0_vd h hg hF hR (v := .str b) hd
  | nilS r => exact hvT0_vd h hg hF hR (v := .nilS r) hd
  | pre t r n =>
    have := hvT0_vd h hg hF hR (v := .pre t r n) (u := u) hd
    cases t <;> exact this
  | own k => exact hvT0_vd h hg hF hR (v := .own k) hd
  | box k off => exact hvT0_vd h hg hF hR (v := .box k off) hd
  | oel k i off => exact hvT0_vd h hg hF hR (v := .oel k i off) hd
  | junk => trivial
theorem hvF_lkv : ∀ (f : List (Nat × SV)) (t : Nat), lkv (hvF f) t = hvT (lkv f t)
  | [], t => rfl
  | (k, v) :: l, t => by
    simp only [hvF, lkv]
    split
    · rfl
    · exact hvF_lkv l t
theorem hvS_get : ∀ {l : List (List (Nat × SV))} {i : Nat} {f : List (Nat × SV)}, (hvS l)[i]? = some f → ∃ f0, l[i]? = some f0 ∧ f = hvF f0
  | [], i, f, h => by simp [hvS] at h
  | g :: l, 0, f, h => by simp [hvS] at h; exact ⟨g, rfl, h.symm⟩
  | g :: l, i + 1, f, h => by simpa using hvS_get (l := l) (i := i) (by simpa [hvS] using h)
theorem havB_use (h : Hav g0 w w') (hg : E.F w .new g0) (hF : ∀ t g, E.F w t g → E.F w' t g) {R R' : List (Nat × Ent)} (hR : ∀ k e', lk R' k = some e' → ∃ e, lk R k = some e ∧ EntAgain τ E w w' k e e') (U : Nat → List Value) : ∀ {l : List (Nat × (TypeId × List SV))} {K : List (Nat × (TypeId × List SV)) → Prop}, havB l K → ∃ l', K l' ∧ ∀ k T cs', lk l' k = some (T, cs') → ∃ cs, lk l k = some (T, cs) ∧ (L0 (vd1 E R w) cs (U k) → L0 (vd1 E R' w') cs' (U k))
  | [], K, hK => ⟨[], hK, fun k T cs' hk => by simp [lk] at hk⟩
  | (j, (T, cs)) :: l, K, hK => by
    obtain ⟨cs1, h1, h2⟩ := havL_use h hg hF hR (U j) hK
    obtain ⟨l', h3, h4⟩ := havB_use h hg hF hR U h1
    refine ⟨_, h3, fun k T' cs' hk => ?_⟩
    simp only [lk] at hk ⊢
    split at hk
    · rename_i hb
      obtain rfl := Nat.eq_of_beq_eq_true hb
      injection hk with hk
      injection hk with e1 e2
      subst e1 e2
      exact ⟨cs, rfl, h2⟩
    · exact h4 k T' cs' hk
/-- Behind such a call, whatever its rows now read aS. -/
theorem havSt_use {s : St} {bs : List (Array Value)} (hd : Den τ w0 E s bs w) (h : Hav g0 w w') (hg : E.F w .new g0) {K : St → Prop} (hK : havSt s K) : ∃ s', K s' ∧ Den τ w0 E s' bs w' := by
  obtain ⟨fr, stk, bx, rw', dep⟩ := s
  have hF : ∀ t g, E.F w t g → E.F w' t g := by
    rintro t g ⟨h1, h2⟩
    refine ⟨h1, ?_⟩
    cases t with
    | old => exact h2
    | new => exact ⟨h2.1, h.unfz h2.2⟩
    | any => trivial
  obtain ⟨R', hK1, hR'⟩ := havE_use (τ := τ) h hg.1 hF hK (fun p hp => dropSh_mem hp)
  have hR : ∀ k e', lk R' k = some e' → ∃ e, lk rw' k = some e ∧ EntAgain τ E w w' k e e' := fun k e' hk => by
    obtain ⟨e, h1, h2⟩ := hR' k e' hk
    exact ⟨e, (dropSh_lk h1).1, h2⟩
  have hK3 := hK1
  rw [forceF_eq] at hK3
  obtain ⟨U, hU⟩ : ∃ U : Nat → List Value, ∀ k T cs, lk bx k = some (T, cs) → w.heap[E.bs k]? = some (.cells (U k).toArray T (0, 0)) ∧ L0 (vd1 E rw' w) cs (U k) := by
    have hc : ∀ k, ∃ us : List Value, ∀ T cs, lk bx k = some (T, cs) → w.heap[E.bs k]? = some (.cells us.toArray T (0, 0)) ∧ L0 (vd1 E rw' w) cs us := by
      intro k
      cases hk : lk bx k with
      | none => exact ⟨[], fun T cs h => by simp at h⟩
      | some p =>
        obtain ⟨T, cs⟩ := p
        obtain ⟨_, us, h1, h2⟩ := hd.box k T cs hk
        exact ⟨us, fun T' cs' h' => by injection h' with h'; injection h' with e1 e2; subst e1 e2; exact ⟨h1, h2⟩⟩
    exact ⟨fun k => Classical.choose (hc k), fun k => Classical.choose_spec (hc k)⟩
  obtain ⟨bx', hK4, hbx⟩ := havB_use h hg hF hR U hK3
  have hM : E.M ≤ g0 := hg.2.1
  have mine : ∀ k e' m, lk R' k = some e' → e'.mine = some m → ∃ e m', lk rw' k = some e ∧ e.mine = some m' ∧ (OwnD τ E w k m'.1 m'.2 → OwnD τ E w' k m.1 m.2) := by
    intro k e' m hk hm
    obtain ⟨e, he, ha⟩ := hR k e' hk
    rcases ha with ⟨r, rfl, rfl⟩ | ⟨r, r', rfl, rfl, _, _, h5⟩ | ⟨lo, r, r', rfl, rfl, _, _, h5⟩
    · simp [Ent.mine] at hm
    · simp [Ent.mine] at hm
      subst hm
      exact ⟨_, _, he, rfl, h5⟩
    · simp [Ent.mine] at hm
      subst hm
      exact ⟨_, _, he, rfl, h5⟩
  refine ⟨_, hK4, ⟨hd.below.trans (h.below.mono (Nat.le_trans hd.bM hM)), hd.bM, by rw [h.size]; exact hd.Mh, fun g hgo => ⟨(hd.owb g hgo).1, by rw [h.size]; exact (hd.owb g hgo).2⟩, ?_, ?_, ?_, ?_, ?_, ?_⟩⟩
  · intro i f hf
    cases i with
    | zero =>
      simp at hf
      subst hf
      obtain ⟨b0, hb0, hf0⟩ := hd.fr 0 fr (by simp)
      refine ⟨b0, hb0, fun t => ?_⟩
      rw [hvF_lkv]
      exact hvT_vd h hg hF hR (hf0 t)
    | succ i =>
      obtain ⟨f0, h1, rfl⟩ := hvS_get (l := stk) (i := i) (by simpa using hf)
      obtain ⟨a, ha, hfa⟩ := hd.fr (i + 1) f0 (by simpa using h1)
      refine ⟨a, ha, fun t => ?_⟩
      rw [hvF_lkv]
      exact hvT_vd h hg hF hR (hfa t)
  · intro k T cs' hk
    obtain ⟨cs, h1, h2⟩ := hbx k T cs' hk
    obtain ⟨h3, h4⟩ := hU k T cs h1
    have ho := (hd.box k T cs h1).ow
    exact ⟨ho, U k, by rw [h.out _ (fun e => hg.1 (e ▸ ho))]; exact h3, h2 h4⟩
  · intro k e' lo r hk hm
    obtain ⟨e, m', h1, h2, h3⟩ := mine k e' _ hk hm
    exact h3 (hd.own k e m'.1 m'.2 h1 h2)
  · rintro k k' ⟨T, cs⟩ ⟨T', cs'⟩ hk hk' hne
    obtain ⟨_, h1, _⟩ := hbx k T cs hk
    obtain ⟨_, h2, _⟩ := hbx k' T' cs' hk'
    exact hd.bb k k' _ _ h1 h2 hne
  · rintro k k' ⟨T, cs⟩ e m hk hk' hm
    obtain ⟨_, h1, _⟩ := hbx k T cs hk
    obtain ⟨e0, m', h2, h3, _⟩ := mine k' e m hk' hm
    exact hd.br k k' _ e0 m' h1 h2 h3
  · intro k k' e e' m m' g hk hk' hm hm' hne hgo
    obtain ⟨e0, m0, h2, h3, _⟩ := mine k e m hk hm
    obtain ⟨e1, m1, h4, h5, _⟩ := mine k' e' m' hk' hm'
    exact hd.rr k k' e0 e1 m0 m1 g h2 h4 h3 h5 hne hgo
end
/-! ### 4. Calls that write over a row -/
/-- What is known of such a function at one type: its walk. -/
structure SpoilW (P : Program) (f : FuncId) (sz off : Nat) : Prop where
  ent : Enters P f
  run : ∀ (A : Option Addr) (n c : Nat) (w : World), n ≤ 140737488355328 → (0 < n → ∃ ad, A = some ad ∧ ad.spot = none ∧ unfz w ad.block ∧ ∀ i, i < n → ∃ z, w.cell? (ad.add (i * sz + off)) = some (.int .i64 z)) →
    Calls P f #[.slice A n c] w fun x w' => x = .returned (.tuple #[]) ∧ ((n = 0 ∧ w' = w) ∨ (0 < n ∧ ∃ ad, A = some ad ∧ Hav ad.block w w'))
/-- Of that kind of row one cell in each element is a whole number. -/
def offOk (kd off : Nat) : Prop := ∀ (r : Rw) (i : Nat), r.kd = kd → ∃ z, (r.cell .any i)[off]? = some (.int .i64 z)
def spoilT (kd : Nat) : CallT := fun args s K => match args, s with
  | [.nilS _], s => K (.tup []) s
  | [.row .new r], s => match Nat.beq r.kd kd with
    | true => havSt s fun s' => K (.tup []) s'
    | false => False
  | [.own k], ⟨fr, stk, bx, rw, dep⟩ => match lk (demote1 rw k) k with
    | some (.shared .new r) => match Nat.beq r.kd kd with
      | true => havSt ⟨fr, stk, bx, demote1 rw k, dep⟩ fun s' => K (.tup []) s'
      | false => False
    | _ => False
  | _, _ => False
section
variable {P : Program} {τ : Tys}
theorem spoil_core {f kd sz off : Nat} (hW : SpoilW P f sz off) (hsz : kdSz kd = sz) (hoff : offOk kd off) {w0 : World} {E : Env} {s : St} {aS : List (Array Value)} {w : World} (hd : Den τ w0 E s aS w) {r : Rw} (hk : r.kd = kd) {v : Value} (hv : RowDen w (E.F w .new) r v) {K : St → Prop} (hK : havSt s K) :
    Calls P f #[v] w fun x w' => x = .returned (.tuple #[]) ∧ ∃ s', K s' ∧ Den τ w0 E s' aS w' := by
  obtain ⟨h0, A, c, rfl, hn, hc⟩ := hv
  have hb := bts_pos r
  have hlen : r.len ≤ 140737488355328 := by
    have : r.len * 1 ≤ r.len * r.bts := Nat.mul_le_mul_left _ hb
    omega
  have hrs : r.sz = sz := by rw [← hsz]; unfold Rw.sz; rw [hk]
  have hcalls := hW.run A r.len c w hlen (fun hp => by
    obtain ⟨ad, hA, hs, hF, hcell⟩ := hc hp
    refine ⟨ad, hA, hs, hF.2.2, fun i hi => ?_⟩
    obtain ⟨z, hz⟩ := hoff r i hk
    obtain ⟨u, hu, hd⟩ := hcell i off _ hi hz
    obtain rfl : u = .int .i64 z := hd
    exact ⟨z, by rw [← hrs]; exact hu⟩)
  refine hcalls.mono ?_
  rintro x w' ⟨rfl, hh⟩
  refine ⟨rfl, ?_⟩
  rcases hh with ⟨hn0, rfl⟩ | ⟨hp, ad, rfl, hH⟩
  · refine havSt_use hd (Hav.refl w'.heap.size w') ⟨fun ho => absurd (hd.owb _ ho).2 (Nat.lt_irrefl _), hd.Mh, fun c T lo hi hc => ?_⟩ hK
    rw [Array.getElem?_eq_none (Nat.le_refl _)] at hc
    simp at hc
  · obtain ⟨ad', hA, hs, hF, _⟩ := hc hp
    injection hA with hA
    subst hA
    exact havSt_use hd hH hF hK
theorem spoil_tr {f kd sz off : Nat} (hW : SpoilW P f sz off) (hsz : kdSz kd = sz) (hoff : offOk kd off) : TrKnown P τ f (spoilT kd) := by
  refine ⟨hW.ent, ?_⟩
  intro w0 E s aS w args vals K hd hargs hT
  have unit : ∀ (E : Env) (R : List (Nat × Ent)) (w : World), vd3 E R w (.tup []) (.tuple #[]) := fun E R w => ⟨[], rfl, rfl, fun j x hx => by simp at hx⟩
  unfold spoilT at hT
  split at hT
  · obtain ⟨v, vs, rfl, h1, h2⟩ := hargs.inv_cons
    obtain rfl := h2.inv_nil
    obtain ⟨rfl, _⟩ : v = .slice none 0 0 ∧ _ := h1
    refine (hW.run none 0 0 w (by omega) (fun h => absurd h (Nat.lt_irrefl _))).mono ?_
    rintro x w' ⟨rfl, hh⟩
    rcases hh with ⟨_, rfl⟩ | ⟨hp, _⟩
    · exact ⟨_, _, _, E, rfl, hT, hd, rfl, Nat.le_refl _, unit _ _ _⟩
    · exact absurd hp (Nat.lt_irrefl _)
  · obtain ⟨v, vs, rfl, h1, h2⟩ := hargs.inv_cons
    obtain rfl := h2.inv_nil
    split at hT
    · rename_i hk
      refine (spoil_core hW hsz hoff hd (Nat.eq_of_beq_eq_true hk) h1 hT).mono ?_
      rintro x w' ⟨rfl, s', h3, h4⟩
      exact ⟨_, _, s', E, rfl, h3, h4, rfl, Nat.le_refl _, unit _ _ _⟩
    · exact hT.elim
  · rename_i k fr stk bx rw' dep
    obtain ⟨v, vs, rfl, h1, h2⟩ := hargs.inv_cons
    obtain rfl := h2.inv_nil
    obtain ⟨E', g1, g2, _, _, _, hd', _, g8⟩ := hd.demoteL [.own k]
    have h3 := g8 _ _ h1
    have e1 : demoteL [.own k] rw' = demote1 rw' k := rfl
    rw [e1] at hd' h3
    split at hT
    · rename_i r hr
      split at hT
      · rename_i hk
        have h4 : RowDen w (E'.F w .new) r v := by
          simp only [vd3, vd2, vd1, vd0] at h3
          rw [hr] at h3
          exact h3
        refine (spoil_core hW hsz hoff hd' (Nat.eq_of_beq_eq_true hk) h4 hT).mono ?_
        rintro x w' ⟨rfl, s', h5, h6⟩
        exact ⟨_, _, s', E', rfl, h5, h6, g1, by rw [g2]; exact Nat.le_refl _, unit _ _ _⟩
      · exact hT.elim
    · exact hT.elim
  · exact hT.elim
end
end Go.Proofs.Ytaapoiikbolgnaa
