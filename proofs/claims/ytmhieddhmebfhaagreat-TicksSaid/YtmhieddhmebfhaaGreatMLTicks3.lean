/- A part of the proof of Ticks: F16d, F16e, F16f, F16g, F16h, F16i, F16j, VLe, ClPeers, F11a, F11b, F11c, P11, F11d, F19a, ClItems, ClTolds. -/
import Derived.Test.YtmhieddhmebfhaaGreatMLTicks2
import Derived.Shelf.RegionOpenPlain
import Derived.Lib.Walk
import Derived.Lib.SliceRun
import Derived.Laws.AppendOwn
import Derived.Conc.AppendEvents2
import Derived.Lib.AppendZeros
/- Contracts: who is heard: the program's. -/
namespace Go.Proofs.YtmhieddhmebfhaaGreat
open Go.RowKit
set_option maxRecDepth 20000

/-- A struct of one number. -/
def dOrd : Dec Int := ⟨fun x => match x with
  | .agg [.int .i64 b] => some b
  | _ => none, fun b => .agg [.int .i64 b], fun x a h => by
    split at h <;> simp at h; subst h; rfl⟩
/-- A method's value, bound to a struct of one number. -/
def dBound (f : FuncId) : Dec Int := ⟨fun x => match x with
  | .clo g [.agg [.int .i64 b]] [] => match Nat.beq g f with
    | true => some b
    | false => none
  | _ => none, fun b => .clo f [.agg [.int .i64 b]] [], fun x a h => by
    split at h
    · split at h
      · rename_i hg; simp at h; subst h; rw [Nat.eq_of_beq_eq_true hg]
      · simp at h
    · simp at h⟩
/-- A view's place. -/
def dPView : Dec GView := ⟨fun x => match x with
  | .pt .any [.int .i64 id, .row .any (.peers p), .row .any (.ints q)] => some ⟨id, p, q⟩
  | _ => none, fun v => .pt .any [.int .i64 v.id, .row .any (.peers v.peers), .row .any (.ints v.passive)], fun x a h => by
    split at h <;> simp at h; subst h; rfl⟩
/-- A function that has a view's place. -/
def dFnView (f : FuncId) : Dec GView := ⟨fun x => match x with
  | .clo g [] [.pt .any [.int .i64 id, .row .any (.peers p), .row .any (.ints q)]] => match Nat.beq g f with
    | true => some ⟨id, p, q⟩
    | false => none
  | _ => none, fun v => .clo f [] [.pt .any [.int .i64 v.id, .row .any (.peers v.peers), .row .any (.ints v.passive)]], fun x a h => by
    split at h
    · split at h
      · rename_i hg; simp at h; subst h; rw [Nat.eq_of_beq_eq_true hg]
      · simp at h
    · simp at h⟩
theorem k_find : Known Tryz.prog tau 151 (S3 dOrd dPeer dInt fun b p x => .ok (.int .i64 (cmpI (farI b p.id) (farI b x))) []) := by
  refine known3 hmix tau_ok (ctx_cons k_Far (ctx_cons k_cmpCompare ctx_nil)) (fn := Tryz.f151) (by kernel_rfl) [(1, [(0, 0), (1, 1), (2, 0), (3, 4), (4, 10), (5, 0), (6, 32), (7, 0), (8, 208), (9, 272), (10, 1023)])] (by kernel_rfl) _ _ _ _ fun b p x hfit => ⟨rfl, [], ?_⟩
  (repeat' (first | ((with_reducible refine BdI ?_); (first | ((with_reducible refine SqI ?_ (fun Kv hN hX hR => ?_)); (next => exact rfl)) | ((with_reducible refine JnI ?_ ?_); (next => exact rfl)) | (conv => whnf))) | (with_reducible first | refine BdS (fun Kv hN hX hR => ?_) | refine Stop.mk ?_ | refine Join.mk ⟨fun Kv hN hX hR => ?_, ?_⟩ | apply DrawJ.join | exact SubJ.self _) | ((with_reducible refine SubJ.of ?_); (repeat' (first | with_reducible rfl | ((conv => whnf) <;> (first | with_reducible exact True.intro | with_reducible refine And.intro ?_ ?_ | with_reducible rfl | ((conv => rhs; whnf) <;> with_reducible rfl))))); done) | (with_reducible first | refine FlS (fun Kf hF => ?_) | refine FlN ?_ | refine NdS (fun Kg hG => ?_) | (refine hF _ _ ?_; clear hF; clear Kf) | (refine hG _ _ _ _ ?_; clear hG; clear Kg)) | ((with_reducible refine SqI ?_ (fun Kv hN hX hR => ?_)); (next => exact rfl)) | ((with_reducible refine JnI ?_ ?_); (next => exact rfl)) | ((with_reducible first | refine hN _ ?_ | refine hX _ _ ?_ | refine hR _ ?_); (try (clear hG; clear Kg)); clear hN hX hR; clear Kv) | ((conv => whnf); first | (with_reducible first | rfl | exact True.intro | intro _ | refine And.intro ?_ ?_) | ((with_reducible first | refine hN _ ?_ | refine hX _ _ ?_ | refine hR _ ?_); (try (clear hG; clear Kg)); clear hN hX hR; clear Kv) | (with_reducible first | refine BdS (fun Kv hN hX hR => ?_) | refine Stop.mk ?_ | refine Join.mk ⟨fun Kv hN hX hR => ?_, ?_⟩ | apply DrawJ.join | exact SubJ.self _) | ((with_reducible refine SubJ.of ?_); (repeat' (first | with_reducible rfl | ((conv => whnf) <;> (first | with_reducible exact True.intro | with_reducible refine And.intro ?_ ?_ | with_reducible rfl | ((conv => rhs; whnf) <;> with_reducible rfl))))); done) | (with_reducible first | refine FlS (fun Kf hF => ?_) | refine FlN ?_ | refine NdS (fun Kg hG => ?_) | (refine hF _ _ ?_; clear hF; clear Kf) | (refine hG _ _ _ _ ?_; clear hG; clear Kg))))); all_goals (conv => whnf); all_goals (repeat ((try (clear hG; clear Kg)); clear hN hX hR; clear Kv))
  all_goals first
    | rfl
    | trace_state
def RisingP (b : Int) (l : List GPeer) : Prop := ∀ s t, s < t → t < l.length → farI b (l.getD s default).id < farI b (l.getD t default).id
theorem risingP_lt {b : Int} {l : List GPeer} (hs : RisingP b l) {s t : Nat} (h : s ≤ t) (ht : t < l.length) : farI b (l.getD s default).id ≤ farI b (l.getD t default).id := by
  rcases Nat.lt_or_eq_of_le h with h | rfl
  · exact Int.le_of_lt (hs s t h ht)
  · exact Int.le_refl _
def cntP (b : Int) (l : List GPeer) (x : Int) : Int := ((l.countP fun p => decide (farI b p.id < farI b x) : Nat) : Int)
def hasP (b : Int) (l : List GPeer) (x : Int) : Bool := l.any fun p => decide (farI b p.id = farI b x)
theorem cmpI_lt (a b : Int) : decide (cmpI a b < 0) = decide (a < b) := by
  unfold cmpI
  split
  · simp [*]
  · split <;> simp <;> omega
theorem cmpI_eq (a b : Int) : decide (cmpI a b = 0) = decide (a = b) := by
  unfold cmpI
  split
  · simp; omega
  · split <;> simp <;> omega
theorem k_searchP : Known Tryz.prog tau 152 (S3 dPeers dInt (dBound 151) fun l x b => .ob (RisingP b l) (.tup [.int .i64 (cntP b l x), .bool (hasP b l x)]) []) := by
  refine known3 hmix tau_ok (ctx_cons k_find ctx_nil) (fn := Tryz.f152) (by kernel_rfl) [] (by kernel_rfl) _ _ _ _ fun l x b hfit hs => ⟨rfl,
    [(3, invX (Nat × Nat) [9, 10, 11, 15, 16, 17, 18, 19, 20, 21, 22, 23, 24, 25, 26, 27, 28, 29, 30, 31, 32, 33, 34] [] (fun g => g.1 ≤ g.2 ∧ g.2 ≤ l.length ∧ (∀ t, t < g.1 → farI b (l.getD t default).id < farI b x) ∧ ∀ t, g.2 ≤ t → t < l.length → farI b x ≤ farI b (l.getD t default).id) (fun g => withS [(9, .int .i64 g.1), (10, .int .i64 g.2)]) (fun g => g.2 - g.1))], ?_⟩
  have hlen : l.length * 16 ≤ 140737488355328 := hfit.1
  clear hfit
  (repeat' (first | ((with_reducible refine BdI ?_); (first | ((with_reducible refine SqI ?_ (fun Kv hN hX hR => ?_)); (next => exact rfl)) | ((with_reducible refine JnI ?_ ?_); (next => exact rfl)) | (conv => whnf))) | (with_reducible first | refine BdS (fun Kv hN hX hR => ?_) | refine Stop.mk ?_ | refine Join.mk ⟨fun Kv hN hX hR => ?_, ?_⟩ | refine DrawJ.each ?_ | exact SubJ.self _) | with_reducible refine SubJ.of ?_ | (with_reducible first | refine FlS (fun Kf hF => ?_) | refine FlN ?_ | refine NdS (fun Kg hG => ?_) | (refine hF _ _ ?_; clear hF; clear Kf) | (refine hG _ _ _ _ ?_; clear hG; clear Kg)) | ((with_reducible refine SqI ?_ (fun Kv hN hX hR => ?_)); (next => exact rfl)) | ((with_reducible refine JnI ?_ ?_); (next => exact rfl)) | ((with_reducible first | refine hN _ ?_ | refine hX _ _ ?_ | refine hR _ ?_); (try (clear hG; clear Kg)); clear hN hX hR; clear Kv) | ((conv => whnf); first | (with_reducible first | rfl | exact True.intro | refine (fun (_ : (_ : Prop)) => ?_) | refine And.intro ?_ ?_) | ((with_reducible first | refine hN _ ?_ | refine hX _ _ ?_ | refine hR _ ?_); (try (clear hG; clear Kg)); clear hN hX hR; clear Kv) | (with_reducible first | refine BdS (fun Kv hN hX hR => ?_) | refine Stop.mk ?_ | refine Join.mk ⟨fun Kv hN hX hR => ?_, ?_⟩ | refine DrawJ.each ?_ | exact SubJ.self _) | with_reducible refine SubJ.of ?_ | (with_reducible first | refine FlS (fun Kf hF => ?_) | refine FlN ?_ | refine NdS (fun Kg hG => ?_) | (refine hF _ _ ?_; clear hF; clear Kf) | (refine hG _ _ _ _ ?_; clear hG; clear Kg))))); all_goals (conv => whnf); all_goals (repeat ((try (clear hG; clear Kg)); clear hN hX hR; clear Kv))
  all_goals first
    | (refine ⟨(0, l.length), ⟨Nat.zero_le _, Nat.le_refl _, by intros; omega, by intros; omega⟩, ?_⟩
       (repeat' (first | ((with_reducible refine BdI ?_); (first | ((with_reducible refine SqI ?_ (fun Kv hN hX hR => ?_)); (next => exact rfl)) | ((with_reducible refine JnI ?_ ?_); (next => exact rfl)) | (conv => whnf))) | (with_reducible first | refine BdS (fun Kv hN hX hR => ?_) | refine Stop.mk ?_ | refine Join.mk ⟨fun Kv hN hX hR => ?_, ?_⟩ | refine DrawJ.each ?_ | exact SubJ.self _) | with_reducible refine SubJ.of ?_ | (with_reducible first | refine FlS (fun Kf hF => ?_) | refine FlN ?_ | refine NdS (fun Kg hG => ?_) | (refine hF _ _ ?_; clear hF; clear Kf) | (refine hG _ _ _ _ ?_; clear hG; clear Kg)) | ((with_reducible refine SqI ?_ (fun Kv hN hX hR => ?_)); (next => exact rfl)) | ((with_reducible refine JnI ?_ ?_); (next => exact rfl)) | ((with_reducible first | refine hN _ ?_ | refine hX _ _ ?_ | refine hR _ ?_); (try (clear hG; clear Kg)); clear hN hX hR; clear Kv) | ((conv => whnf); first | (with_reducible first | rfl | exact True.intro | intro _ | refine And.intro ?_ ?_) | ((with_reducible first | refine hN _ ?_ | refine hX _ _ ?_ | refine hR _ ?_); (try (clear hG; clear Kg)); clear hN hX hR; clear Kv) | (with_reducible first | refine BdS (fun Kv hN hX hR => ?_) | refine Stop.mk ?_ | refine Join.mk ⟨fun Kv hN hX hR => ?_, ?_⟩ | refine DrawJ.each ?_ | exact SubJ.self _) | with_reducible refine SubJ.of ?_ | (with_reducible first | refine FlS (fun Kf hF => ?_) | refine FlN ?_ | refine NdS (fun Kg hG => ?_) | (refine hF _ _ ?_; clear hF; clear Kf) | (refine hG _ _ _ _ ?_; clear hG; clear Kg))))); all_goals (conv => whnf); all_goals (repeat ((try (clear hG; clear Kg)); clear hN hX hR; clear Kv))
       all_goals rfl)
    | (rintro ⟨i, j⟩ ⟨hij, hj, h1, h2⟩
       dsimp only at hij hj h1 h2
       (repeat' (first | ((with_reducible refine BdI ?_); (first | ((with_reducible refine SqI ?_ (fun Kv hN hX hR => ?_)); (next => exact rfl)) | ((with_reducible refine JnI ?_ ?_); (next => exact rfl)) | (conv => whnf))) | (with_reducible first | refine BdS (fun Kv hN hX hR => ?_) | refine Stop.mk ?_ | refine Join.mk ⟨fun Kv hN hX hR => ?_, ?_⟩ | refine DrawJ.each ?_ | exact SubJ.self _) | with_reducible refine SubJ.of ?_ | (with_reducible first | refine FlS (fun Kf hF => ?_) | refine FlN ?_ | refine NdS (fun Kg hG => ?_) | (refine hF _ _ ?_; clear hF; clear Kf) | (refine hG _ _ _ _ ?_; clear hG; clear Kg)) | ((with_reducible refine SqI ?_ (fun Kv hN hX hR => ?_)); (next => exact rfl)) | ((with_reducible refine JnI ?_ ?_); (next => exact rfl)) | ((with_reducible first | refine hN _ ?_ | refine hX _ _ ?_ | refine hR _ ?_); (try (clear hG; clear Kg)); clear hN hX hR; clear Kv) | ((conv => whnf); first | (with_reducible first | rfl | exact True.intro | intro _ | refine And.intro ?_ ?_) | ((with_reducible first | refine hN _ ?_ | refine hX _ _ ?_ | refine hR _ ?_); (try (clear hG; clear Kg)); clear hN hX hR; clear Kv) | (with_reducible first | refine BdS (fun Kv hN hX hR => ?_) | refine Stop.mk ?_ | refine Join.mk ⟨fun Kv hN hX hR => ?_, ?_⟩ | refine DrawJ.each ?_ | exact SubJ.self _) | with_reducible refine SubJ.of ?_ | (with_reducible first | refine FlS (fun Kf hF => ?_) | refine FlN ?_ | refine NdS (fun Kg hG => ?_) | (refine hF _ _ ?_; clear hF; clear Kf) | (refine hG _ _ _ _ ?_; clear hG; clear Kg))))); all_goals (conv => whnf); all_goals (repeat ((try (clear hG; clear Kg)); clear hN hX hR; clear Kv))
       all_goals (try dsimp only at *)
       all_goals (try simp only [cmpI_lt, cmpI_eq] at *)
       all_goals first
         | (refine Ob.mk ?_; decide)
         | (have hlt := of_decide_eq_true (show decide ((i : Int) < (j : Int)) = true by with_reducible assumption)
            obtain ⟨h, eh, h3, h4⟩ := mid_ok (i := i) (j := j) (n := l.length) (by omega) hj (by omega)
            simp only [eh, Int.toNat_natCast] at *
            first
              | exact Ob.mk ⟨by omega, by omega⟩
              | (have hc := of_decide_eq_true (show decide (farI b (l.getD h default).id < farI b x) = true by with_reducible assumption)
                 refine ⟨(h + 1, j), ⟨by omega, hj, fun t ht => ?_, h2⟩, by show j - (h + 1) < j - i; omega, ?_⟩
                 · have := risingP_lt hs (s := t) (t := h) (by omega) (by omega)
                   omega
                 · have e1 := wrap_up (h := h) (n := l.length) (by omega) (by omega)
                   (repeat' (first | ((with_reducible refine BdI ?_); (first | ((with_reducible refine SqI ?_ (fun Kv hN hX hR => ?_)); (next => exact rfl)) | ((with_reducible refine JnI ?_ ?_); (next => exact rfl)) | (conv => whnf))) | (with_reducible first | refine BdS (fun Kv hN hX hR => ?_) | refine Stop.mk ?_ | refine Join.mk ⟨fun Kv hN hX hR => ?_, ?_⟩ | refine DrawJ.each ?_ | exact SubJ.self _) | with_reducible refine SubJ.of ?_ | (with_reducible first | refine FlS (fun Kf hF => ?_) | refine FlN ?_ | refine NdS (fun Kg hG => ?_) | (refine hF _ _ ?_; clear hF; clear Kf) | (refine hG _ _ _ _ ?_; clear hG; clear Kg)) | ((with_reducible refine SqI ?_ (fun Kv hN hX hR => ?_)); (next => exact rfl)) | ((with_reducible refine JnI ?_ ?_); (next => exact rfl)) | ((with_reducible first | refine hN _ ?_ | refine hX _ _ ?_ | refine hR _ ?_); (try (clear hG; clear Kg)); clear hN hX hR; clear Kv) | ((conv => whnf); first | (with_reducible first | rfl | exact True.intro | intro _ | refine And.intro ?_ ?_) | ((with_reducible first | refine hN _ ?_ | refine hX _ _ ?_ | refine hR _ ?_); (try (clear hG; clear Kg)); clear hN hX hR; clear Kv) | (with_reducible first | refine BdS (fun Kv hN hX hR => ?_) | refine Stop.mk ?_ | refine Join.mk ⟨fun Kv hN hX hR => ?_, ?_⟩ | refine DrawJ.each ?_ | exact SubJ.self _) | with_reducible refine SubJ.of ?_ | (with_reducible first | refine FlS (fun Kf hF => ?_) | refine FlN ?_ | refine NdS (fun Kg hG => ?_) | (refine hF _ _ ?_; clear hF; clear Kf) | (refine hG _ _ _ _ ?_; clear hG; clear Kg))))); all_goals (conv => whnf); all_goals (repeat ((try (clear hG; clear Kg)); clear hN hX hR; clear Kv))
                   all_goals first
                     | exact e1
                     | rfl)
              | (have hc := of_decide_eq_false (show decide (farI b (l.getD h default).id < farI b x) = false by with_reducible assumption)
                 refine ⟨(i, h), ⟨by omega, by omega, h1, fun t ht ht2 => ?_⟩, by show h - i < j - i; omega, ?_⟩
                 · have := risingP_lt hs (s := h) (t := t) ht ht2
                   omega
                 · (repeat' (first | ((with_reducible refine BdI ?_); (first | ((with_reducible refine SqI ?_ (fun Kv hN hX hR => ?_)); (next => exact rfl)) | ((with_reducible refine JnI ?_ ?_); (next => exact rfl)) | (conv => whnf))) | (with_reducible first | refine BdS (fun Kv hN hX hR => ?_) | refine Stop.mk ?_ | refine Join.mk ⟨fun Kv hN hX hR => ?_, ?_⟩ | refine DrawJ.each ?_ | exact SubJ.self _) | with_reducible refine SubJ.of ?_ | (with_reducible first | refine FlS (fun Kf hF => ?_) | refine FlN ?_ | refine NdS (fun Kg hG => ?_) | (refine hF _ _ ?_; clear hF; clear Kf) | (refine hG _ _ _ _ ?_; clear hG; clear Kg)) | ((with_reducible refine SqI ?_ (fun Kv hN hX hR => ?_)); (next => exact rfl)) | ((with_reducible refine JnI ?_ ?_); (next => exact rfl)) | ((with_reducible first | refine hN _ ?_ | refine hX _ _ ?_ | refine hR _ ?_); (try (clear hG; clear Kg)); clear hN hX hR; clear Kv) | ((conv => whnf); first | (with_reducible first | rfl | exact True.intro | intro _ | refine And.intro ?_ ?_) | ((with_reducible first | refine hN _ ?_ | refine hX _ _ ?_ | refine hR _ ?_); (try (clear hG; clear Kg)); clear hN hX hR; clear Kv) | (with_reducible first | refine BdS (fun Kv hN hX hR => ?_) | refine Stop.mk ?_ | refine Join.mk ⟨fun Kv hN hX hR => ?_, ?_⟩ | refine DrawJ.each ?_ | exact SubJ.self _) | with_reducible refine SubJ.of ?_ | (with_reducible first | refine FlS (fun Kf hF => ?_) | refine FlN ?_ | refine NdS (fun Kg hG => ?_) | (refine hF _ _ ?_; clear hF; clear Kf) | (refine hG _ _ _ _ ?_; clear hG; clear Kg))))); all_goals (conv => whnf); all_goals (repeat ((try (clear hG; clear Kg)); clear hN hX hR; clear Kv))
                   all_goals rfl))
         | (have hge := of_decide_eq_false (show decide ((i : Int) < (j : Int)) = false by with_reducible assumption)
            obtain rfl : i = j := by omega
            have e1 : cntP b l x = (i : Int) := congrArg Int.ofNat (search_end (d := default) (κ := fun p : GPeer => farI b p.id) (K := farI b x) hj h1 h2)
            have e2 : hasP b l x = (decide (i < l.length) && decide (farI b (l.getD i default).id = farI b x)) := search_there (d := default) (κ := fun p : GPeer => farI b p.id) hs h1 h2
            (try simp only [Int.toNat_natCast] at *)
            first
              | exact Ob.mk ⟨by omega, of_decide_eq_true (by with_reducible assumption)⟩
              | exact e1.symm
              | (have a1 := of_decide_eq_true (show decide ((i : Int) < (l.length : Nat)) = true by with_reducible assumption)
                 rw [e2, decide_eq_true (show i < l.length by omega), Bool.true_and]
                 done)
              | (have a2 := of_decide_eq_true (show decide (farI b (l.getD i default).id = farI b x) = true by with_reducible assumption)
                 have a1 := of_decide_eq_true (show decide ((i : Int) < (l.length : Nat)) = true by with_reducible assumption)
                 rw [e2, decide_eq_true a2, decide_eq_true (show i < l.length by omega)]
                 rfl)
              | (have a2 := of_decide_eq_false (show decide (farI b (l.getD i default).id = farI b x) = false by with_reducible assumption)
                 rw [e2, decide_eq_false a2, Bool.and_false])
              | (have a1 := of_decide_eq_false (show decide ((i : Int) < (l.length : Nat)) = false by with_reducible assumption)
                 rw [e2, decide_eq_false (show ¬ i < l.length by omega), Bool.false_and]))
         | trace_state)
    | trace_state
theorem k_Find : Known Tryz.prog tau 138 (S3 dInt dPeers dInt fun b l x => .ob (RisingP b l) (.tup [.int .i64 (cntP b l x), .bool (hasP b l x)]) []) := by
  refine known3 hmix tau_ok (ctx_cons k_find (ctx_cons k_searchP ctx_nil)) (fn := Tryz.f138) (by kernel_rfl) [] (by kernel_rfl) _ _ _ _ fun b l x hfit hs => ⟨rfl, [], ?_⟩
  clear hfit
  (repeat' (first | ((with_reducible refine BdI ?_); (first | ((with_reducible refine SqI ?_ (fun Kv hN hX hR => ?_)); (next => exact rfl)) | ((with_reducible refine JnI ?_ ?_); (next => exact rfl)) | (conv => whnf))) | (with_reducible first | refine BdS (fun Kv hN hX hR => ?_) | refine Stop.mk ?_ | refine Join.mk ⟨fun Kv hN hX hR => ?_, ?_⟩ | refine DrawJ.each ?_ | exact SubJ.self _) | with_reducible refine SubJ.of ?_ | (with_reducible first | refine FlS (fun Kf hF => ?_) | refine FlN ?_ | refine NdS (fun Kg hG => ?_) | (refine hF _ _ ?_; clear hF; clear Kf) | (refine hG _ _ _ _ ?_; clear hG; clear Kg)) | ((with_reducible refine SqI ?_ (fun Kv hN hX hR => ?_)); (next => exact rfl)) | ((with_reducible refine JnI ?_ ?_); (next => exact rfl)) | ((with_reducible first | refine hN _ ?_ | refine hX _ _ ?_ | refine hR _ ?_); (try (clear hG; clear Kg)); clear hN hX hR; clear Kv) | ((conv => whnf); first | (with_reducible first | rfl | exact True.intro | intro _ | refine And.intro ?_ ?_) | ((with_reducible first | refine hN _ ?_ | refine hX _ _ ?_ | refine hR _ ?_); (try (clear hG; clear Kg)); clear hN hX hR; clear Kv) | (with_reducible first | refine BdS (fun Kv hN hX hR => ?_) | refine Stop.mk ?_ | refine Join.mk ⟨fun Kv hN hX hR => ?_, ?_⟩ | refine DrawJ.each ?_ | exact SubJ.self _) | with_reducible refine SubJ.of ?_ | (with_reducible first | refine FlS (fun Kf hF => ?_) | refine FlN ?_ | refine NdS (fun Kg hG => ?_) | (refine hF _ _ ?_; clear hF; clear Kf) | (refine hG _ _ _ _ ?_; clear hG; clear Kg))))); all_goals (conv => whnf); all_goals (repeat ((try (clear hG; clear Kg)); clear hN hX hR; clear Kv))
  all_goals first
    | exact Ob.mk hs
    | rfl
    | trace_state
theorem k_viewPeer : Known Tryz.prog tau 117 (S2 dPView dInt fun v x => .ob (RisingP v.id v.peers) (.bool (hasP v.id v.peers x)) []) := by
  refine known2 hmix tau_ok (ctx_cons k_Find ctx_nil) (fn := Tryz.f117) (by kernel_rfl) [(1, [(0, 0), (1, 1), (2, 2), (3, 4), (4, 0), (5, 16), (6, 32), (7, 64), (8, 0), (9, 392), (10, 512), (11, 1024), (12, 1024), (13, 4095), (14, 16383)])] (by kernel_rfl) _ _ _ fun v x hfit hs => ⟨rfl, [], ?_⟩
  clear hfit
  (repeat' (first | ((with_reducible refine BdI ?_); (first | ((with_reducible refine SqI ?_ (fun Kv hN hX hR => ?_)); (next => exact rfl)) | ((with_reducible refine JnI ?_ ?_); (next => exact rfl)) | (conv => whnf))) | (with_reducible first | refine BdS (fun Kv hN hX hR => ?_) | refine Stop.mk ?_ | refine Join.mk ⟨fun Kv hN hX hR => ?_, ?_⟩ | apply DrawJ.join | exact SubJ.self _) | ((with_reducible refine SubJ.of ?_); (repeat' (first | with_reducible rfl | ((conv => whnf) <;> (first | with_reducible exact True.intro | with_reducible refine And.intro ?_ ?_ | with_reducible rfl | ((conv => rhs; whnf) <;> with_reducible rfl))))); done) | (with_reducible first | refine FlS (fun Kf hF => ?_) | refine FlN ?_ | refine NdS (fun Kg hG => ?_) | (refine hF _ _ ?_; clear hF; clear Kf) | (refine hG _ _ _ _ ?_; clear hG; clear Kg)) | ((with_reducible refine SqI ?_ (fun Kv hN hX hR => ?_)); (next => exact rfl)) | ((with_reducible refine JnI ?_ ?_); (next => exact rfl)) | ((with_reducible first | refine hN _ ?_ | refine hX _ _ ?_ | refine hR _ ?_); (try (clear hG; clear Kg)); clear hN hX hR; clear Kv) | ((conv => whnf); first | (with_reducible first | rfl | exact True.intro | intro _ | refine And.intro ?_ ?_) | ((with_reducible first | refine hN _ ?_ | refine hX _ _ ?_ | refine hR _ ?_); (try (clear hG; clear Kg)); clear hN hX hR; clear Kv) | (with_reducible first | refine BdS (fun Kv hN hX hR => ?_) | refine Stop.mk ?_ | refine Join.mk ⟨fun Kv hN hX hR => ?_, ?_⟩ | apply DrawJ.join | exact SubJ.self _) | ((with_reducible refine SubJ.of ?_); (repeat' (first | with_reducible rfl | ((conv => whnf) <;> (first | with_reducible exact True.intro | with_reducible refine And.intro ?_ ?_ | with_reducible rfl | ((conv => rhs; whnf) <;> with_reducible rfl))))); done) | (with_reducible first | refine FlS (fun Kf hF => ?_) | refine FlN ?_ | refine NdS (fun Kg hG => ?_) | (refine hF _ _ ?_; clear hF; clear Kf) | (refine hG _ _ _ _ ?_; clear hG; clear Kg))))); all_goals (conv => whnf); all_goals (repeat ((try (clear hG; clear Kg)); clear hN hX hR; clear Kv))
  all_goals first
    | exact Ob.mk hs
    | rfl
    | trace_state
def oddV (v : GView) (x : Int) : Bool := decide (x = v.id) || hasP v.id v.peers x
theorem k_vMay1 : Known Tryz.prog tau 116 (S2 dInt dPView fun x v => .ob (RisingP v.id v.peers) (.bool (oddV v x)) []) := by
  refine known2 hmix tau_ok (ctx_cons k_viewPeer ctx_nil) (fn := Tryz.f116) (by kernel_rfl) [] (by kernel_rfl) _ _ _ fun x v hfit hs => ⟨rfl, [], ?_⟩
  clear hfit
  (repeat' (first | ((with_reducible refine BdI ?_); (first | ((with_reducible refine SqI ?_ (fun Kv hN hX hR => ?_)); (next => exact rfl)) | ((with_reducible refine JnI ?_ ?_); (next => exact rfl)) | (conv => whnf))) | (with_reducible first | refine BdS (fun Kv hN hX hR => ?_) | refine Stop.mk ?_ | refine Join.mk ⟨fun Kv hN hX hR => ?_, ?_⟩ | refine DrawJ.each ?_ | exact SubJ.self _) | with_reducible refine SubJ.of ?_ | (with_reducible first | refine FlS (fun Kf hF => ?_) | refine FlN ?_ | refine NdS (fun Kg hG => ?_) | (refine hF _ _ ?_; clear hF; clear Kf) | (refine hG _ _ _ _ ?_; clear hG; clear Kg)) | ((with_reducible refine SqI ?_ (fun Kv hN hX hR => ?_)); (next => exact rfl)) | ((with_reducible refine JnI ?_ ?_); (next => exact rfl)) | ((with_reducible first | refine hN _ ?_ | refine hX _ _ ?_ | refine hR _ ?_); (try (clear hG; clear Kg)); clear hN hX hR; clear Kv) | ((conv => whnf); first | (with_reducible first | rfl | exact True.intro | intro _ | refine And.intro ?_ ?_) | ((with_reducible first | refine hN _ ?_ | refine hX _ _ ?_ | refine hR _ ?_); (try (clear hG; clear Kg)); clear hN hX hR; clear Kv) | (with_reducible first | refine BdS (fun Kv hN hX hR => ?_) | refine Stop.mk ?_ | refine Join.mk ⟨fun Kv hN hX hR => ?_, ?_⟩ | refine DrawJ.each ?_ | exact SubJ.self _) | with_reducible refine SubJ.of ?_ | (with_reducible first | refine FlS (fun Kf hF => ?_) | refine FlN ?_ | refine NdS (fun Kg hG => ?_) | (refine hF _ _ ?_; clear hF; clear Kf) | (refine hG _ _ _ _ ?_; clear hG; clear Kg))))); all_goals (conv => whnf); all_goals (repeat ((try (clear hG; clear Kg)); clear hN hX hR; clear Kv))
  all_goals first
    | exact Ob.mk hs
    | (simp_all [oddV]; done)
    | trace_state

theorem k_vIndex : Known Tryz.prog tau 105 (S2 dInts (dFnView 116) fun l v => .ob (RisingP v.id v.peers) (.int .i64 (idxI (oddV v) l)) []) := by
  refine known2 hmix tau_ok (ctx_cons k_vMay1 ctx_nil) (fn := Tryz.f105) (by kernel_rfl) [] (by kernel_rfl) _ _ _ fun xs v hfit hs => ⟨rfl,
    [(2, invN [4, 5, 8, 9, 10, 11, 12, 13, 14, 15, 16, 17, 18] (fun i => i ≤ xs.length ∧ ∀ x ∈ xs.take i, oddV v x = false) (fun i => withS [(8, .int .i64 i)]) (fun i => xs.length - i))], ?_⟩
  have hlen : xs.length * 8 ≤ 140737488355328 := hfit.1
  clear hfit
  (repeat' (first | ((with_reducible refine BdI ?_); (first | ((with_reducible refine SqI ?_ (fun Kv hN hX hR => ?_)); (next => exact rfl)) | ((with_reducible refine JnI ?_ ?_); (next => exact rfl)) | (conv => whnf))) | (with_reducible first | refine BdS (fun Kv hN hX hR => ?_) | refine Stop.mk ?_ | refine Join.mk ⟨fun Kv hN hX hR => ?_, ?_⟩ | refine DrawJ.each ?_ | exact SubJ.self _) | with_reducible refine SubJ.of ?_ | (with_reducible first | refine FlS (fun Kf hF => ?_) | refine FlN ?_ | refine NdS (fun Kg hG => ?_) | (refine hF _ _ ?_; clear hF; clear Kf) | (refine hG _ _ _ _ ?_; clear hG; clear Kg)) | ((with_reducible refine SqI ?_ (fun Kv hN hX hR => ?_)); (next => exact rfl)) | ((with_reducible refine JnI ?_ ?_); (next => exact rfl)) | ((with_reducible first | refine hN _ ?_ | refine hX _ _ ?_ | refine hR _ ?_); (try (clear hG; clear Kg)); clear hN hX hR; clear Kv) | ((conv => whnf); first | (with_reducible first | rfl | exact True.intro | refine (fun (_ : (_ : Prop)) => ?_) | refine And.intro ?_ ?_) | ((with_reducible first | refine hN _ ?_ | refine hX _ _ ?_ | refine hR _ ?_); (try (clear hG; clear Kg)); clear hN hX hR; clear Kv) | (with_reducible first | refine BdS (fun Kv hN hX hR => ?_) | refine Stop.mk ?_ | refine Join.mk ⟨fun Kv hN hX hR => ?_, ?_⟩ | refine DrawJ.each ?_ | exact SubJ.self _) | with_reducible refine SubJ.of ?_ | (with_reducible first | refine FlS (fun Kf hF => ?_) | refine FlN ?_ | refine NdS (fun Kg hG => ?_) | (refine hF _ _ ?_; clear hF; clear Kf) | (refine hG _ _ _ _ ?_; clear hG; clear Kg))))); all_goals (conv => whnf); all_goals (repeat ((try (clear hG; clear Kg)); clear hN hX hR; clear Kv))
  all_goals first
    | (refine ⟨0, ⟨by omega, by simp⟩, ?_⟩
       (repeat' (first | ((with_reducible refine BdI ?_); (first | ((with_reducible refine SqI ?_ (fun Kv hN hX hR => ?_)); (next => exact rfl)) | ((with_reducible refine JnI ?_ ?_); (next => exact rfl)) | (conv => whnf))) | (with_reducible first | refine BdS (fun Kv hN hX hR => ?_) | refine Stop.mk ?_ | refine Join.mk ⟨fun Kv hN hX hR => ?_, ?_⟩ | refine DrawJ.each ?_ | exact SubJ.self _) | with_reducible refine SubJ.of ?_ | (with_reducible first | refine FlS (fun Kf hF => ?_) | refine FlN ?_ | refine NdS (fun Kg hG => ?_) | (refine hF _ _ ?_; clear hF; clear Kf) | (refine hG _ _ _ _ ?_; clear hG; clear Kg)) | ((with_reducible refine SqI ?_ (fun Kv hN hX hR => ?_)); (next => exact rfl)) | ((with_reducible refine JnI ?_ ?_); (next => exact rfl)) | ((with_reducible first | refine hN _ ?_ | refine hX _ _ ?_ | refine hR _ ?_); (try (clear hG; clear Kg)); clear hN hX hR; clear Kv) | ((conv => whnf); first | (with_reducible first | rfl | exact True.intro | intro _ | refine And.intro ?_ ?_) | ((with_reducible first | refine hN _ ?_ | refine hX _ _ ?_ | refine hR _ ?_); (try (clear hG; clear Kg)); clear hN hX hR; clear Kv) | (with_reducible first | refine BdS (fun Kv hN hX hR => ?_) | refine Stop.mk ?_ | refine Join.mk ⟨fun Kv hN hX hR => ?_, ?_⟩ | refine DrawJ.each ?_ | exact SubJ.self _) | with_reducible refine SubJ.of ?_ | (with_reducible first | refine FlS (fun Kf hF => ?_) | refine FlN ?_ | refine NdS (fun Kg hG => ?_) | (refine hF _ _ ?_; clear hF; clear Kf) | (refine hG _ _ _ _ ?_; clear hG; clear Kg))))); all_goals (conv => whnf); all_goals (repeat ((try (clear hG; clear Kg)); clear hN hX hR; clear Kv))
       all_goals rfl)
    | (with_reducible intro i hi
       (repeat' (first | ((with_reducible refine BdI ?_); (first | ((with_reducible refine SqI ?_ (fun Kv hN hX hR => ?_)); (next => exact rfl)) | ((with_reducible refine JnI ?_ ?_); (next => exact rfl)) | (conv => whnf))) | (with_reducible first | refine BdS (fun Kv hN hX hR => ?_) | refine Stop.mk ?_ | refine Join.mk ⟨fun Kv hN hX hR => ?_, ?_⟩ | refine DrawJ.each ?_ | exact SubJ.self _) | with_reducible refine SubJ.of ?_ | (with_reducible first | refine FlS (fun Kf hF => ?_) | refine FlN ?_ | refine NdS (fun Kg hG => ?_) | (refine hF _ _ ?_; clear hF; clear Kf) | (refine hG _ _ _ _ ?_; clear hG; clear Kg)) | ((with_reducible refine SqI ?_ (fun Kv hN hX hR => ?_)); (next => exact rfl)) | ((with_reducible refine JnI ?_ ?_); (next => exact rfl)) | ((with_reducible first | refine hN _ ?_ | refine hX _ _ ?_ | refine hR _ ?_); (try (clear hG; clear Kg)); clear hN hX hR; clear Kv) | ((conv => whnf); first | (with_reducible first | rfl | exact True.intro | intro _ | refine And.intro ?_ ?_) | ((with_reducible first | refine hN _ ?_ | refine hX _ _ ?_ | refine hR _ ?_); (try (clear hG; clear Kg)); clear hN hX hR; clear Kv) | (with_reducible first | refine BdS (fun Kv hN hX hR => ?_) | refine Stop.mk ?_ | refine Join.mk ⟨fun Kv hN hX hR => ?_, ?_⟩ | refine DrawJ.each ?_ | exact SubJ.self _) | with_reducible refine SubJ.of ?_ | (with_reducible first | refine FlS (fun Kf hF => ?_) | refine FlN ?_ | refine NdS (fun Kg hG => ?_) | (refine hF _ _ ?_; clear hF; clear Kf) | (refine hG _ _ _ _ ?_; clear hG; clear Kg))))); all_goals (conv => whnf); all_goals (repeat ((try (clear hG; clear Kg)); clear hN hX hR; clear Kv))
       all_goals (try simp only [Int.toNat_natCast] at *)
       all_goals first
         | exact Ob.mk ⟨by omega, of_decide_eq_true (by with_reducible assumption)⟩
         | exact Ob.mk hs
         | (have h := of_decide_eq_true (show decide ((i : Int) < (xs.length : Nat)) = true by with_reducible assumption)
            exact (idxI_at (d := 0) (by omega) hi.2 (by with_reducible assumption)).symm)
         | (have h := of_decide_eq_true (show decide ((i : Int) < (xs.length : Nat)) = true by with_reducible assumption)
            refine ⟨i + 1, ⟨by omega, all_take_succ (d := 0) (by omega) hi.2 (by with_reducible assumption)⟩, by show xs.length - (i + 1) < xs.length - i; omega, ?_⟩
            (repeat' (first | ((with_reducible refine BdI ?_); (first | ((with_reducible refine SqI ?_ (fun Kv hN hX hR => ?_)); (next => exact rfl)) | ((with_reducible refine JnI ?_ ?_); (next => exact rfl)) | (conv => whnf))) | (with_reducible first | refine BdS (fun Kv hN hX hR => ?_) | refine Stop.mk ?_ | refine Join.mk ⟨fun Kv hN hX hR => ?_, ?_⟩ | refine DrawJ.each ?_ | exact SubJ.self _) | with_reducible refine SubJ.of ?_ | (with_reducible first | refine FlS (fun Kf hF => ?_) | refine FlN ?_ | refine NdS (fun Kg hG => ?_) | (refine hF _ _ ?_; clear hF; clear Kf) | (refine hG _ _ _ _ ?_; clear hG; clear Kg)) | ((with_reducible refine SqI ?_ (fun Kv hN hX hR => ?_)); (next => exact rfl)) | ((with_reducible refine JnI ?_ ?_); (next => exact rfl)) | ((with_reducible first | refine hN _ ?_ | refine hX _ _ ?_ | refine hR _ ?_); (try (clear hG; clear Kg)); clear hN hX hR; clear Kv) | ((conv => whnf); first | (with_reducible first | rfl | exact True.intro | intro _ | refine And.intro ?_ ?_) | ((with_reducible first | refine hN _ ?_ | refine hX _ _ ?_ | refine hR _ ?_); (try (clear hG; clear Kg)); clear hN hX hR; clear Kv) | (with_reducible first | refine BdS (fun Kv hN hX hR => ?_) | refine Stop.mk ?_ | refine Join.mk ⟨fun Kv hN hX hR => ?_, ?_⟩ | refine DrawJ.each ?_ | exact SubJ.self _) | with_reducible refine SubJ.of ?_ | (with_reducible first | refine FlS (fun Kf hF => ?_) | refine FlN ?_ | refine NdS (fun Kg hG => ?_) | (refine hF _ _ ?_; clear hF; clear Kf) | (refine hG _ _ _ _ ?_; clear hG; clear Kg))))); all_goals (conv => whnf); all_goals (repeat ((try (clear hG; clear Kg)); clear hN hX hR; clear Kv))
            all_goals first
              | exact wrapI (by omega) (by omega)
              | rfl)
         | (have h := of_decide_eq_false (show decide ((i : Int) < (xs.length : Nat)) = false by with_reducible assumption)
            have h2 := hi.2
            rw [List.take_of_length_le (by omega)] at h2
            exact (idxI_none h2).symm)
         | trace_state)
    | trace_state
theorem k_vContains : Known Tryz.prog tau 65 (S2 dInts (dFnView 116) fun l v => .ob (RisingP v.id v.peers) (.bool (l.any (oddV v))) []) := by
  refine known2 hmix tau_ok (ctx_cons k_vIndex ctx_nil) (fn := Tryz.f65) (by kernel_rfl) [] (by kernel_rfl) _ _ _ fun xs v hfit hs => ⟨rfl, [], ?_⟩
  clear hfit
  (repeat' (first | ((with_reducible refine BdI ?_); (first | ((with_reducible refine SqI ?_ (fun Kv hN hX hR => ?_)); (next => exact rfl)) | ((with_reducible refine JnI ?_ ?_); (next => exact rfl)) | (conv => whnf))) | (with_reducible first | refine BdS (fun Kv hN hX hR => ?_) | refine Stop.mk ?_ | refine Join.mk ⟨fun Kv hN hX hR => ?_, ?_⟩ | refine DrawJ.each ?_ | exact SubJ.self _) | with_reducible refine SubJ.of ?_ | (with_reducible first | refine FlS (fun Kf hF => ?_) | refine FlN ?_ | refine NdS (fun Kg hG => ?_) | (refine hF _ _ ?_; clear hF; clear Kf) | (refine hG _ _ _ _ ?_; clear hG; clear Kg)) | ((with_reducible refine SqI ?_ (fun Kv hN hX hR => ?_)); (next => exact rfl)) | ((with_reducible refine JnI ?_ ?_); (next => exact rfl)) | ((with_reducible first | refine hN _ ?_ | refine hX _ _ ?_ | refine hR _ ?_); (try (clear hG; clear Kg)); clear hN hX hR; clear Kv) | ((conv => whnf); first | (with_reducible first | rfl | exact True.intro | intro _ | refine And.intro ?_ ?_) | ((with_reducible first | refine hN _ ?_ | refine hX _ _ ?_ | refine hR _ ?_); (try (clear hG; clear Kg)); clear hN hX hR; clear Kv) | (with_reducible first | refine BdS (fun Kv hN hX hR => ?_) | refine Stop.mk ?_ | refine Join.mk ⟨fun Kv hN hX hR => ?_, ?_⟩ | refine DrawJ.each ?_ | exact SubJ.self _) | with_reducible refine SubJ.of ?_ | (with_reducible first | refine FlS (fun Kf hF => ?_) | refine FlN ?_ | refine NdS (fun Kg hG => ?_) | (refine hF _ _ ?_; clear hF; clear Kf) | (refine hG _ _ _ _ ?_; clear hG; clear Kg))))); all_goals (conv => whnf); all_goals (repeat ((try (clear hG; clear Kg)); clear hN hX hR; clear Kv))
  all_goals first
    | exact Ob.mk hs
    | exact idxI_ge _ _
    | trace_state
def peerB (b : Int) (p : GPeer) : Bool := placeB p.id && (decide (0 ≤ p.missed) && (decide (p.missed < 3) && decide (0 < farI b p.id)))
def peersB (b : Int) (l : List GPeer) : Bool := placeB b && (decide (l.length ≤ 16) && (decide (l.Pairwise fun p q => farI b p.id < farI b q.id) && l.all (peerB b)))
theorem etaP {l : List GPeer} {i : Nat} (h : i < l.length) : l.getD i default = l[i] := by simp [List.getD_eq_getElem?_getD, h]
theorem risingP_iff {b : Int} {l : List GPeer} : RisingP b l ↔ l.Pairwise fun p q => farI b p.id < farI b q.id := by
  rw [List.pairwise_iff_getElem]
  constructor
  · intro h i j hi hj hij
    have := h i j hij hj
    rwa [etaP hi, etaP hj] at this
  · intro h i j hij hj
    rw [etaP (show i < l.length by omega), etaP hj]
    exact h i j (by omega) hj hij
theorem peersB_iff {b : Int} {l : List GPeer} : peersB b l = true ↔ placeB b = true ∧ l.length ≤ 16 ∧ RisingP b l ∧ ∀ p ∈ l, peerB b p = true := by
  simp only [peersB, Bool.and_eq_true, decide_eq_true_eq, risingP_iff, List.all_eq_true]
theorem peersB_no {b : Int} {l : List GPeer} (h : ¬ (placeB b = true ∧ l.length ≤ 16 ∧ RisingP b l ∧ ∀ p ∈ l, peerB b p = true)) : peersB b l = false := by
  rw [← peersB_iff] at h
  simpa using h
theorem risingP_adj {b : Int} {l : List GPeer} (h : ∀ t, t + 1 < l.length → farI b (l.getD t default).id < farI b (l.getD (t + 1) default).id) : RisingP b l := by
  intro s t
  induction t with
  | zero => intro h1; omega
  | succ t ih =>
    intro h1 h2
    have := h t h2
    rcases Nat.lt_or_eq_of_le (Nat.le_of_lt_succ h1) with h3 | rfl
    · have := ih h3 (by omega)
      omega
    · exact this
/-- How far the last one is, of the first i. -/
def lastF (b : Int) (l : List GPeer) : Nat → Int
  | 0 => 0
  | i + 1 => farI b (l.getD i default).id
theorem lastF_ge {b : Int} {l : List GPeer} {i : Nat} (hi : i ≤ l.length) (h : ∀ x ∈ l.take i, peerB b x = true) : 0 ≤ lastF b l i := by
  rcases i with _ | i
  · exact Int.le_refl _
  · have hm : l.getD i default ∈ l.take (i + 1) := by
      rw [etaP (by omega), List.mem_take_iff_getElem]
      exact ⟨i, by omega, rfl⟩
    have := h _ hm
    simp only [peerB, Bool.and_eq_true, decide_eq_true_eq] at this
    show 0 ≤ farI b (l.getD i default).id
    omega
set_option maxHeartbeats 2000000 in
theorem k_peersMay : Known Tryz.prog tau 115 (S2 dInt dPeers fun b l => okB (peersB b l)) := by
  refine known2 hmix tau_ok (ctx_cons k_Place (ctx_cons k_Far ctx_nil)) (fn := Tryz.f115) (by kernel_rfl) [] (by kernel_rfl) _ _ _ fun b xs hfit => ⟨rfl,
    [(5, invN (4 :: 5 :: 7 :: 18 :: 19 :: 20 :: 21 :: 22 :: 23 :: 24 :: 25 :: 26 :: 27 :: 28 :: 29 :: 30 :: 31 :: 32 :: 33 :: 34 :: 35 :: 36 :: 37 :: 38 :: 39 :: 40 :: 41 :: 42 :: 43 :: 44 :: 45 :: 46 :: 47 :: 48 :: []) (fun i => i ≤ xs.length ∧ (∀ x ∈ xs.take i, peerB b x = true) ∧ ∀ t, t + 1 < i → farI b (xs.getD t default).id < farI b (xs.getD (t + 1) default).id) (fun i => withS [(18, .int .i64 i), (5, .int .i64 (lastF b xs i))]) (fun i => xs.length - i))], ?_⟩
  have hlen : xs.length * 16 ≤ 140737488355328 := hfit.2.1
  clear hfit
  (repeat' (first | ((with_reducible refine BdI ?_); (first | ((with_reducible refine SqI ?_ (fun Kv hN hX hR => ?_)); (next => exact rfl)) | ((with_reducible refine JnI ?_ ?_); (next => exact rfl)) | (conv => whnf))) | (with_reducible first | refine BdS (fun Kv hN hX hR => ?_) | refine Stop.mk ?_ | refine Join.mk ⟨fun Kv hN hX hR => ?_, ?_⟩ | refine DrawJ.each ?_ | exact SubJ.self _) | with_reducible refine SubJ.of ?_ | (with_reducible first | refine FlS (fun Kf hF => ?_) | refine FlN ?_ | refine NdS (fun Kg hG => ?_) | (refine hF _ _ ?_; clear hF; clear Kf) | (refine hG _ _ _ _ ?_; clear hG; clear Kg)) | ((with_reducible refine SqI ?_ (fun Kv hN hX hR => ?_)); (next => exact rfl)) | ((with_reducible refine JnI ?_ ?_); (next => exact rfl)) | ((with_reducible first | refine hN _ ?_ | refine hX _ _ ?_ | refine hR _ ?_); (try (clear hG; clear Kg)); clear hN hX hR; clear Kv) | ((conv => whnf); first | (with_reducible first | rfl | exact True.intro | refine (fun (_ : (_ : Prop)) => ?_) | refine And.intro ?_ ?_) | ((with_reducible first | refine hN _ ?_ | refine hX _ _ ?_ | refine hR _ ?_); (try (clear hG; clear Kg)); clear hN hX hR; clear Kv) | (with_reducible first | refine BdS (fun Kv hN hX hR => ?_) | refine Stop.mk ?_ | refine Join.mk ⟨fun Kv hN hX hR => ?_, ?_⟩ | refine DrawJ.each ?_ | exact SubJ.self _) | with_reducible refine SubJ.of ?_ | (with_reducible first | refine FlS (fun Kf hF => ?_) | refine FlN ?_ | refine NdS (fun Kg hG => ?_) | (refine hF _ _ ?_; clear hF; clear Kf) | (refine hG _ _ _ _ ?_; clear hG; clear Kg))))); all_goals (conv => whnf); all_goals (repeat ((try (clear hG; clear Kg)); clear hN hX hR; clear Kv))
  all_goals first
    | (have h0 := nf (show (!placeB b) = true by with_reducible assumption)
       exact (peersB_no fun h => by rw [h.1] at h0; simp at h0).symm)
    | (have h0 := of_decide_eq_true (show decide ((16 : Int) < (xs.length : Nat)) = true by with_reducible assumption)
       exact (peersB_no fun h => by have := h.2.1; omega).symm)
    | (refine ⟨0, ⟨by omega, by simp, by intros; omega⟩, ?_⟩
       (repeat' (first | ((with_reducible refine BdI ?_); (first | ((with_reducible refine SqI ?_ (fun Kv hN hX hR => ?_)); (next => exact rfl)) | ((with_reducible refine JnI ?_ ?_); (next => exact rfl)) | (conv => whnf))) | (with_reducible first | refine BdS (fun Kv hN hX hR => ?_) | refine Stop.mk ?_ | refine Join.mk ⟨fun Kv hN hX hR => ?_, ?_⟩ | refine DrawJ.each ?_ | exact SubJ.self _) | with_reducible refine SubJ.of ?_ | (with_reducible first | refine FlS (fun Kf hF => ?_) | refine FlN ?_ | refine NdS (fun Kg hG => ?_) | (refine hF _ _ ?_; clear hF; clear Kf) | (refine hG _ _ _ _ ?_; clear hG; clear Kg)) | ((with_reducible refine SqI ?_ (fun Kv hN hX hR => ?_)); (next => exact rfl)) | ((with_reducible refine JnI ?_ ?_); (next => exact rfl)) | ((with_reducible first | refine hN _ ?_ | refine hX _ _ ?_ | refine hR _ ?_); (try (clear hG; clear Kg)); clear hN hX hR; clear Kv) | ((conv => whnf); first | (with_reducible first | rfl | exact True.intro | intro _ | refine And.intro ?_ ?_) | ((with_reducible first | refine hN _ ?_ | refine hX _ _ ?_ | refine hR _ ?_); (try (clear hG; clear Kg)); clear hN hX hR; clear Kv) | (with_reducible first | refine BdS (fun Kv hN hX hR => ?_) | refine Stop.mk ?_ | refine Join.mk ⟨fun Kv hN hX hR => ?_, ?_⟩ | refine DrawJ.each ?_ | exact SubJ.self _) | with_reducible refine SubJ.of ?_ | (with_reducible first | refine FlS (fun Kf hF => ?_) | refine FlN ?_ | refine NdS (fun Kg hG => ?_) | (refine hF _ _ ?_; clear hF; clear Kf) | (refine hG _ _ _ _ ?_; clear hG; clear Kg))))); all_goals (conv => whnf); all_goals (repeat ((try (clear hG; clear Kg)); clear hN hX hR; clear Kv))
       all_goals rfl)
    | (with_reducible intro i hi
       (repeat' (first | ((with_reducible refine BdI ?_); (first | ((with_reducible refine SqI ?_ (fun Kv hN hX hR => ?_)); (next => exact rfl)) | ((with_reducible refine JnI ?_ ?_); (next => exact rfl)) | (conv => whnf))) | (with_reducible first | refine BdS (fun Kv hN hX hR => ?_) | refine Stop.mk ?_ | refine Join.mk ⟨fun Kv hN hX hR => ?_, ?_⟩ | refine DrawJ.each ?_ | exact SubJ.self _) | with_reducible refine SubJ.of ?_ | (with_reducible first | refine FlS (fun Kf hF => ?_) | refine FlN ?_ | refine NdS (fun Kg hG => ?_) | (refine hF _ _ ?_; clear hF; clear Kf) | (refine hG _ _ _ _ ?_; clear hG; clear Kg)) | ((with_reducible refine SqI ?_ (fun Kv hN hX hR => ?_)); (next => exact rfl)) | ((with_reducible refine JnI ?_ ?_); (next => exact rfl)) | ((with_reducible first | refine hN _ ?_ | refine hX _ _ ?_ | refine hR _ ?_); (try (clear hG; clear Kg)); clear hN hX hR; clear Kv) | ((conv => whnf); first | (with_reducible first | rfl | exact True.intro | intro _ | refine And.intro ?_ ?_) | ((with_reducible first | refine hN _ ?_ | refine hX _ _ ?_ | refine hR _ ?_); (try (clear hG; clear Kg)); clear hN hX hR; clear Kv) | (with_reducible first | refine BdS (fun Kv hN hX hR => ?_) | refine Stop.mk ?_ | refine Join.mk ⟨fun Kv hN hX hR => ?_, ?_⟩ | refine DrawJ.each ?_ | exact SubJ.self _) | with_reducible refine SubJ.of ?_ | (with_reducible first | refine FlS (fun Kf hF => ?_) | refine FlN ?_ | refine NdS (fun Kg hG => ?_) | (refine hF _ _ ?_; clear hF; clear Kf) | (refine hG _ _ _ _ ?_; clear hG; clear Kg))))); all_goals (conv => whnf); all_goals (repeat ((try (clear hG; clear Kg)); clear hN hX hR; clear Kv))
       all_goals first
         | exact Ob.mk ⟨by omega, of_decide_eq_true (by with_reducible assumption)⟩
         | (have h := of_decide_eq_true (show decide ((i : Int) < (xs.length : Nat)) = true by with_reducible assumption)
            first
              | (refine (peersB_no ?_).symm
                 rintro ⟨_, _, h3, h4⟩
                 have h5 := h4 _ (getD_mem (l := xs) (i := i) (d := default) (by omega))
                 simp only [peerB, Bool.and_eq_true] at h5
                 simp only [decide_eq_true_eq, decide_eq_false_iff_not, Bool.not_eq_true', Bool.not_eq_false', Int.toNat_natCast] at *
                 first
                   | (simp_all; done)
                   | omega
                   | (rcases i with _ | i
                      · simp only [lastF] at *
                        omega
                      · have := h3 i (i + 1) (by omega) (by omega)
                        simp only [lastF] at *
                        omega))
              | (have hp : peerB b (xs.getD i default) = true := by
                   have hge := lastF_ge hi.1 hi.2.1
                   simp only [peerB, Bool.and_eq_true]
                   simp only [decide_eq_true_eq, decide_eq_false_iff_not, Bool.not_eq_true', Bool.not_eq_false', Int.toNat_natCast] at *
                   refine ⟨by assumption, by omega, by omega, by omega⟩
                 have hl : lastF b xs i < farI b (xs.getD i default).id := by
                   simp only [decide_eq_true_eq, decide_eq_false_iff_not, Bool.not_eq_true', Bool.not_eq_false', Int.toNat_natCast] at *
                   omega
                 refine ⟨i + 1, ⟨by omega, all_take_succ (d := default) (by omega) hi.2.1 hp, fun t ht => ?_⟩, by show xs.length - (i + 1) < xs.length - i; omega, ?_⟩
                 · rcases Nat.lt_or_eq_of_le (Nat.le_of_lt_succ ht) with h3 | h3
                   · exact hi.2.2 t h3
                   · subst h3
                     exact hl
                 · (repeat' (first | ((with_reducible refine BdI ?_); (first | ((with_reducible refine SqI ?_ (fun Kv hN hX hR => ?_)); (next => exact rfl)) | ((with_reducible refine JnI ?_ ?_); (next => exact rfl)) | (conv => whnf))) | (with_reducible first | refine BdS (fun Kv hN hX hR => ?_) | refine Stop.mk ?_ | refine Join.mk ⟨fun Kv hN hX hR => ?_, ?_⟩ | refine DrawJ.each ?_ | exact SubJ.self _) | with_reducible refine SubJ.of ?_ | (with_reducible first | refine FlS (fun Kf hF => ?_) | refine FlN ?_ | refine NdS (fun Kg hG => ?_) | (refine hF _ _ ?_; clear hF; clear Kf) | (refine hG _ _ _ _ ?_; clear hG; clear Kg)) | ((with_reducible refine SqI ?_ (fun Kv hN hX hR => ?_)); (next => exact rfl)) | ((with_reducible refine JnI ?_ ?_); (next => exact rfl)) | ((with_reducible first | refine hN _ ?_ | refine hX _ _ ?_ | refine hR _ ?_); (try (clear hG; clear Kg)); clear hN hX hR; clear Kv) | ((conv => whnf); first | (with_reducible first | rfl | exact True.intro | intro _ | refine And.intro ?_ ?_) | ((with_reducible first | refine hN _ ?_ | refine hX _ _ ?_ | refine hR _ ?_); (try (clear hG; clear Kg)); clear hN hX hR; clear Kv) | (with_reducible first | refine BdS (fun Kv hN hX hR => ?_) | refine Stop.mk ?_ | refine Join.mk ⟨fun Kv hN hX hR => ?_, ?_⟩ | refine DrawJ.each ?_ | exact SubJ.self _) | with_reducible refine SubJ.of ?_ | (with_reducible first | refine FlS (fun Kf hF => ?_) | refine FlN ?_ | refine NdS (fun Kg hG => ?_) | (refine hF _ _ ?_; clear hF; clear Kf) | (refine hG _ _ _ _ ?_; clear hG; clear Kg))))); all_goals (conv => whnf); all_goals (repeat ((try (clear hG; clear Kg)); clear hN hX hR; clear Kv))
                   all_goals first
                     | exact wrapI (by omega) (by omega)
                     | rfl))
         | (have h := of_decide_eq_false (show decide ((i : Int) < (xs.length : Nat)) = false by with_reducible assumption)
            obtain rfl : i = xs.length := by omega
            have h2 := hi.2.1
            rw [List.take_of_length_le (Nat.le_refl _)] at h2
            have h16 := of_decide_eq_false (show decide ((16 : Int) < (xs.length : Nat)) = false by with_reducible assumption)
            exact (peersB_iff.2 ⟨nt (by with_reducible assumption), by omega, risingP_adj hi.2.2, h2⟩).symm)
         | trace_state)
    | trace_state
end Go.Proofs.YtmhieddhmebfhaaGreat

/- Contracts: who is heard: the document's. -/
namespace Go.Proofs.YtmhieddhmebfhaaGreat
open Go.RowKit
set_option maxRecDepth 20000

def refPB (b : Int) (p : GPeer) : Bool := placeB p.id && (!decide (p.id = b) && (decide (0 ≤ p.missed) && decide (p.missed < 3)))
theorem far_pos {b x : Int} (h1 : placeB b = true) (h2 : placeB x = true) : (0 < farI b x ↔ x ≠ b) ∧ 0 ≤ farI b x := by
  simp only [placeB, Bool.and_eq_true, decide_eq_true_eq] at h1 h2
  rw [farI_eq h1.1 h1.2 h2.1 h2.2]
  omega
theorem far_inj {b x y : Int} (h1 : placeB b = true) (h2 : placeB x = true) (h3 : placeB y = true) : farI b x = farI b y ↔ x = y := by
  simp only [placeB, Bool.and_eq_true, decide_eq_true_eq] at h1 h2 h3
  rw [farI_eq h1.1 h1.2 h2.1 h2.2, farI_eq h1.1 h1.2 h3.1 h3.2]
  omega
theorem refPB_iff {b : Int} {p : GPeer} (h : placeB b = true) : refPB b p = peerB b p := by
  unfold refPB peerB
  cases hp : placeB p.id with
  | false => simp
  | true =>
    have h1 := (far_pos h hp).1
    by_cases e : p.id = b
    · have : ¬ 0 < farI b p.id := fun h2 => h1.1 h2 e
      simp [e, this]
      intro _ _
      rw [e] at this
      omega
    · have : 0 < farI b p.id := h1.2 e
      simp [e, this]
set_option maxHeartbeats 4000000 in
theorem k_refPeers : Known Tryz.prog tau 125 (S2 dInt dPeers fun b l => okB (peersB b l)) := by
  refine known2 hmix tau_ok (ctx_cons k_refPlace (ctx_cons k_reffar ctx_nil)) (fn := Tryz.f125) (by kernel_rfl) [(4, ((0, 0) :: (1, 0) :: (2, 3) :: (3, 4) :: (4, 8) :: (5, 16) :: (6, 32) :: (7, 96) :: (8, 128) :: (9, 128) :: (10, 896) :: (11, 1152) :: (12, 2176) :: (13, 128) :: (14, 12416) :: (15, 16512) :: (16, 32896) :: (17, 65536) :: (18, 65536) :: (19, 458752) :: (20, 589824) :: (21, 1114112) :: (22, 2162688) :: (23, 4259840) :: (24, 8454144) :: (25, 16777216) :: (26, 16777216) :: (27, 117440512) :: (28, 150994944) :: (29, 285212672) :: (30, 553648128) :: (31, 1090519040) :: (32, 2164260864) :: (33, 4294967296) :: (34, 12884901888) :: (35, 21474836480) :: (36, 34359738368) :: (37, 34359738368) :: (38, 34359738368) :: (39, 309237645312) :: (40, 721554505728) :: (41, 1133871366144) :: (42, 2233382993920) :: (43, 4501125726208) :: (44, 34359738368) :: (45, 34359738368) :: (46, 34359738368) :: (47, 105587476004864) :: (48, 140771848093696) :: (49, 281509336449024) :: (50, 589372592226304) :: (51, 1134730359603200) :: (52, 2251838468390912) :: (53, 4503603922337792) :: []))] (by kernel_rfl) _ _ _ fun b xs hfit => ⟨rfl,
    [(2, invN (4 :: 5 :: 6 :: 7 :: 8 :: 9 :: 10 :: 11 :: 12 :: 13 :: 14 :: 15 :: 16 :: 17 :: 18 :: 19 :: 20 :: 21 :: 22 :: 23 :: 24 :: 25 :: 26 :: 27 :: 28 :: 29 :: 30 :: 31 :: 32 :: 33 :: 34 :: 35 :: 36 :: 37 :: 38 :: 39 :: 40 :: 41 :: 42 :: 43 :: 44 :: 45 :: 46 :: 47 :: 48 :: 49 :: 50 :: 51 :: 52 :: 53 :: 54 :: 55 :: 56 :: 57 :: 58 :: 59 :: 60 :: 61 :: 62 :: 63 :: 64 :: 65 :: []) (fun i => i ≤ xs.length ∧ (∀ x ∈ xs.take i, refPB b x = true) ∧ ∀ t, t + 1 < i → farI b (xs.getD t default).id < farI b (xs.getD (t + 1) default).id) (fun i => withS [(5, .int .i64 i)]) (fun i => xs.length - i))], ?_⟩
  have hlen : xs.length * 16 ≤ 140737488355328 := hfit.2.1
  clear hfit
  (repeat' (first | ((with_reducible refine BdI ?_); (first | ((with_reducible refine SqI ?_ (fun Kv hN hX hR => ?_)); (next => exact rfl)) | ((with_reducible refine JnI ?_ ?_); (next => exact rfl)) | (conv => whnf))) | (with_reducible first | refine BdS (fun Kv hN hX hR => ?_) | refine Stop.mk ?_ | refine Join.mk ⟨fun Kv hN hX hR => ?_, ?_⟩ | refine DrawJ.each ?_ | exact SubJ.self _) | with_reducible refine SubJ.of ?_ | (with_reducible first | refine FlS (fun Kf hF => ?_) | refine FlN ?_ | refine NdS (fun Kg hG => ?_) | (refine hF _ _ ?_; clear hF; clear Kf) | (refine hG _ _ _ _ ?_; clear hG; clear Kg)) | ((with_reducible refine SqI ?_ (fun Kv hN hX hR => ?_)); (next => exact rfl)) | ((with_reducible refine JnI ?_ ?_); (next => exact rfl)) | ((with_reducible first | refine hN _ ?_ | refine hX _ _ ?_ | refine hR _ ?_); (try (clear hG; clear Kg)); clear hN hX hR; clear Kv) | ((conv => whnf); first | (with_reducible first | rfl | exact True.intro | refine (fun (_ : (_ : Prop)) => ?_) | refine And.intro ?_ ?_) | ((with_reducible first | refine hN _ ?_ | refine hX _ _ ?_ | refine hR _ ?_); (try (clear hG; clear Kg)); clear hN hX hR; clear Kv) | (with_reducible first | refine BdS (fun Kv hN hX hR => ?_) | refine Stop.mk ?_ | refine Join.mk ⟨fun Kv hN hX hR => ?_, ?_⟩ | refine DrawJ.each ?_ | exact SubJ.self _) | with_reducible refine SubJ.of ?_ | (with_reducible first | refine FlS (fun Kf hF => ?_) | refine FlN ?_ | refine NdS (fun Kg hG => ?_) | (refine hF _ _ ?_; clear hF; clear Kf) | (refine hG _ _ _ _ ?_; clear hG; clear Kg))))); all_goals (conv => whnf); all_goals (repeat ((try (clear hG; clear Kg)); clear hN hX hR; clear Kv))
  all_goals first
    | (refine ⟨0, ⟨by omega, by simp, by intros; omega⟩, ?_⟩
       (repeat' (first | ((with_reducible refine BdI ?_); (first | ((with_reducible refine SqI ?_ (fun Kv hN hX hR => ?_)); (next => exact rfl)) | ((with_reducible refine JnI ?_ ?_); (next => exact rfl)) | (conv => whnf))) | (with_reducible first | refine BdS (fun Kv hN hX hR => ?_) | refine Stop.mk ?_ | refine Join.mk ⟨fun Kv hN hX hR => ?_, ?_⟩ | refine DrawJ.each ?_ | exact SubJ.self _) | with_reducible refine SubJ.of ?_ | (with_reducible first | refine FlS (fun Kf hF => ?_) | refine FlN ?_ | refine NdS (fun Kg hG => ?_) | (refine hF _ _ ?_; clear hF; clear Kf) | (refine hG _ _ _ _ ?_; clear hG; clear Kg)) | ((with_reducible refine SqI ?_ (fun Kv hN hX hR => ?_)); (next => exact rfl)) | ((with_reducible refine JnI ?_ ?_); (next => exact rfl)) | ((with_reducible first | refine hN _ ?_ | refine hX _ _ ?_ | refine hR _ ?_); (try (clear hG; clear Kg)); clear hN hX hR; clear Kv) | ((conv => whnf); first | (with_reducible first | rfl | exact True.intro | intro _ | refine And.intro ?_ ?_) | ((with_reducible first | refine hN _ ?_ | refine hX _ _ ?_ | refine hR _ ?_); (try (clear hG; clear Kg)); clear hN hX hR; clear Kv) | (with_reducible first | refine BdS (fun Kv hN hX hR => ?_) | refine Stop.mk ?_ | refine Join.mk ⟨fun Kv hN hX hR => ?_, ?_⟩ | refine DrawJ.each ?_ | exact SubJ.self _) | with_reducible refine SubJ.of ?_ | (with_reducible first | refine FlS (fun Kf hF => ?_) | refine FlN ?_ | refine NdS (fun Kg hG => ?_) | (refine hF _ _ ?_; clear hF; clear Kf) | (refine hG _ _ _ _ ?_; clear hG; clear Kg))))); all_goals (conv => whnf); all_goals (repeat ((try (clear hG; clear Kg)); clear hN hX hR; clear Kv))
       all_goals rfl)
    | (with_reducible intro i hi
       (repeat' (first | ((with_reducible refine BdI ?_); (first | ((with_reducible refine SqI ?_ (fun Kv hN hX hR => ?_)); (next => exact rfl)) | ((with_reducible refine JnI ?_ ?_); (next => exact rfl)) | (conv => whnf))) | (with_reducible first | refine BdS (fun Kv hN hX hR => ?_) | refine Stop.mk ?_ | refine Join.mk ⟨fun Kv hN hX hR => ?_, ?_⟩ | refine DrawJ.each ?_ | exact SubJ.self _) | with_reducible refine SubJ.of ?_ | (with_reducible first | refine FlS (fun Kf hF => ?_) | refine FlN ?_ | refine NdS (fun Kg hG => ?_) | (refine hF _ _ ?_; clear hF; clear Kf) | (refine hG _ _ _ _ ?_; clear hG; clear Kg)) | ((with_reducible refine SqI ?_ (fun Kv hN hX hR => ?_)); (next => exact rfl)) | ((with_reducible refine JnI ?_ ?_); (next => exact rfl)) | ((with_reducible first | refine hN _ ?_ | refine hX _ _ ?_ | refine hR _ ?_); (try (clear hG; clear Kg)); clear hN hX hR; clear Kv) | ((conv => whnf); first | (with_reducible first | rfl | exact True.intro | intro _ | refine And.intro ?_ ?_) | ((with_reducible first | refine hN _ ?_ | refine hX _ _ ?_ | refine hR _ ?_); (try (clear hG; clear Kg)); clear hN hX hR; clear Kv) | (with_reducible first | refine BdS (fun Kv hN hX hR => ?_) | refine Stop.mk ?_ | refine Join.mk ⟨fun Kv hN hX hR => ?_, ?_⟩ | refine DrawJ.each ?_ | exact SubJ.self _) | with_reducible refine SubJ.of ?_ | (with_reducible first | refine FlS (fun Kf hF => ?_) | refine FlN ?_ | refine NdS (fun Kg hG => ?_) | (refine hF _ _ ?_; clear hF; clear Kf) | (refine hG _ _ _ _ ?_; clear hG; clear Kg))))); all_goals (conv => whnf); all_goals (repeat ((try (clear hG; clear Kg)); clear hN hX hR; clear Kv))
       all_goals first
               | (have h := of_decide_eq_true (show decide ((i : Int) < (xs.length : Nat)) = true by with_reducible assumption)
                  first
                    | exact Ob.mk ⟨by omega, h⟩
                    | (have h0 := of_decide_eq_true (show decide (0 < (i : Int)) = true by with_reducible assumption)
                       have hb := back1 (i := i) (by omega) (by omega)
                       exact Ob.mk (by rw [hb.2]; omega))
                    | (refine (peersB_no ?_).symm
                       rintro ⟨h0, _, h3, h4⟩
                       have h5 := h4 _ (getD_mem (l := xs) (i := i) (d := default) (by omega))
                       rw [← refPB_iff h0] at h5
                       simp only [refPB, Bool.and_eq_true] at h5
                       simp only [decide_eq_true_eq, decide_eq_false_iff_not, Bool.not_eq_true', Bool.not_eq_false', Int.toNat_natCast] at *
                       first
                         | omega
                         | (simp_all; done)
                         | (have hb := back1 (i := i) (by omega) (by omega)
                            have h6 : farI b (xs.getD i default).id ≤ farI b (xs.getD (IntKind.i64.wrap ((i : Int) - 1)).toNat default).id := by assumption
                            rw [hb.1] at h6
                            have := h3 (i - 1) i (by omega) (by omega)
                            omega)
                         | trace_state)
                    | (have hp : refPB b (xs.getD i default) = true := by
                         simp only [refPB, Bool.and_eq_true]
                         simp only [decide_eq_true_eq, decide_eq_false_iff_not, Bool.not_eq_true', Bool.not_eq_false', Int.toNat_natCast] at *
                         refine ⟨by assumption, by assumption, by omega, by omega⟩
                       have hl : 0 < i → farI b (xs.getD (i - 1) default).id < farI b (xs.getD i default).id := by
                         intro h0
                         first
                           | (have hb := back1 (i := i) (by omega) (by omega)
                              have h6 := of_decide_eq_false (show decide (farI b (xs.getD (i : Int).toNat default).id ≤ farI b (xs.getD (IntKind.i64.wrap ((i : Int) - 1)).toNat default).id) = false by with_reducible assumption)
                              rw [hb.1, Int.toNat_natCast] at h6
                              omega)
                           | (have h6 := of_decide_eq_false (show decide (0 < (i : Int)) = false by with_reducible assumption)
                              omega)
                       refine ⟨i + 1, ⟨by omega, all_take_succ (d := default) (by omega) hi.2.1 hp, fun t ht => ?_⟩, by show xs.length - (i + 1) < xs.length - i; omega, ?_⟩
                       · rcases Nat.lt_or_eq_of_le (Nat.le_of_lt_succ ht) with h3 | h3
                         · exact hi.2.2 t h3
                         · subst h3
                           exact hl (by omega)
                       · (repeat' (first | ((with_reducible refine BdI ?_); (first | ((with_reducible refine SqI ?_ (fun Kv hN hX hR => ?_)); (next => exact rfl)) | ((with_reducible refine JnI ?_ ?_); (next => exact rfl)) | (conv => whnf))) | (with_reducible first | refine BdS (fun Kv hN hX hR => ?_) | refine Stop.mk ?_ | refine Join.mk ⟨fun Kv hN hX hR => ?_, ?_⟩ | refine DrawJ.each ?_ | exact SubJ.self _) | with_reducible refine SubJ.of ?_ | (with_reducible first | refine FlS (fun Kf hF => ?_) | refine FlN ?_ | refine NdS (fun Kg hG => ?_) | (refine hF _ _ ?_; clear hF; clear Kf) | (refine hG _ _ _ _ ?_; clear hG; clear Kg)) | ((with_reducible refine SqI ?_ (fun Kv hN hX hR => ?_)); (next => exact rfl)) | ((with_reducible refine JnI ?_ ?_); (next => exact rfl)) | ((with_reducible first | refine hN _ ?_ | refine hX _ _ ?_ | refine hR _ ?_); (try (clear hG; clear Kg)); clear hN hX hR; clear Kv) | ((conv => whnf); first | (with_reducible first | rfl | exact True.intro | intro _ | refine And.intro ?_ ?_) | ((with_reducible first | refine hN _ ?_ | refine hX _ _ ?_ | refine hR _ ?_); (try (clear hG; clear Kg)); clear hN hX hR; clear Kv) | (with_reducible first | refine BdS (fun Kv hN hX hR => ?_) | refine Stop.mk ?_ | refine Join.mk ⟨fun Kv hN hX hR => ?_, ?_⟩ | refine DrawJ.each ?_ | exact SubJ.self _) | with_reducible refine SubJ.of ?_ | (with_reducible first | refine FlS (fun Kf hF => ?_) | refine FlN ?_ | refine NdS (fun Kg hG => ?_) | (refine hF _ _ ?_; clear hF; clear Kf) | (refine hG _ _ _ _ ?_; clear hG; clear Kg))))); all_goals (conv => whnf); all_goals (repeat ((try (clear hG; clear Kg)); clear hN hX hR; clear Kv))
                         all_goals first
                           | exact wrapI (by omega) (by omega)
                           | rfl))
               | (have h0 : placeB b = false := by with_reducible assumption
                  exact (peersB_no fun h => by rw [h.1] at h0; simp at h0).symm)
               | (have h := of_decide_eq_false (show decide ((i : Int) < (xs.length : Nat)) = false by with_reducible assumption)
                  have h0 : placeB b = true := by with_reducible assumption
                  obtain rfl : i = xs.length := by omega
                  have h2 := hi.2.1
                  rw [List.take_of_length_le (Nat.le_refl _)] at h2
                  by_cases h4 : xs.length ≤ 16
                  · rw [peersB_iff.2 ⟨h0, h4, risingP_adj hi.2.2, fun p hp => by rw [← refPB_iff h0]; exact h2 p hp⟩]
                    exact decide_eq_true (by omega)
                  · rw [peersB_no (fun h => h4 h.2.1)]
                    exact decide_eq_false (by omega))
               | trace_state)
    | trace_state
end Go.Proofs.YtmhieddhmebfhaaGreat

/- Contracts: views, stores, nodes: may they be. -/
namespace Go.Proofs.YtmhieddhmebfhaaGreat
open Go.RowKit
set_option maxRecDepth 20000

def viewB (v : GView) : Bool := peersB v.id v.peers && (passB v.passive && (decide (v.peers.length + v.passive.length ≤ 16) && !v.passive.any (oddV v)))
theorem viewB_iff {v : GView} : viewB v = true ↔ peersB v.id v.peers = true ∧ passB v.passive = true ∧ v.peers.length + v.passive.length ≤ 16 ∧ v.passive.any (oddV v) = false := by
  simp only [viewB, Bool.and_eq_true, decide_eq_true_eq, Bool.not_eq_true']
theorem viewB_no {v : GView} (h : ¬ (peersB v.id v.peers = true ∧ passB v.passive = true ∧ v.peers.length + v.passive.length ≤ 16 ∧ v.passive.any (oddV v) = false)) : viewB v = false := by
  rw [← viewB_iff] at h
  simpa using h
theorem etaView (v : GView) : (⟨v.id, v.peers, v.passive⟩ : GView) = v := rfl
set_option maxHeartbeats 1000000 in
theorem k_viewMay : Known Tryz.prog tau 78 (S1 dView fun v => okB (viewB v)) := by
  refine known1 hmix tau_ok (ctx_cons k_peersMay (ctx_cons k_passMay (ctx_cons k_vContains ctx_nil))) (fn := Tryz.f78) (by kernel_rfl) [] (by kernel_rfl) _ _ fun v hfit => ⟨rfl, [], ?_⟩
  clear hfit
  (repeat' (first | ((with_reducible refine BdI ?_); (first | ((with_reducible refine SqI ?_ (fun Kv hN hX hR => ?_)); (next => exact rfl)) | ((with_reducible refine JnI ?_ ?_); (next => exact rfl)) | (conv => whnf))) | (with_reducible first | refine BdS (fun Kv hN hX hR => ?_) | refine Stop.mk ?_ | refine Join.mk ⟨fun Kv hN hX hR => ?_, ?_⟩ | refine DrawJ.each ?_ | exact SubJ.self _) | with_reducible refine SubJ.of ?_ | (with_reducible first | refine FlS (fun Kf hF => ?_) | refine FlN ?_ | refine NdS (fun Kg hG => ?_) | (refine hF _ _ ?_; clear hF; clear Kf) | (refine hG _ _ _ _ ?_; clear hG; clear Kg)) | ((with_reducible refine SqI ?_ (fun Kv hN hX hR => ?_)); (next => exact rfl)) | ((with_reducible refine JnI ?_ ?_); (next => exact rfl)) | ((with_reducible first | refine hN _ ?_ | refine hX _ _ ?_ | refine hR _ ?_); (try (clear hG; clear Kg)); clear hN hX hR; clear Kv) | ((conv => whnf); first | (with_reducible first | rfl | exact True.intro | intro _ | refine And.intro ?_ ?_) | ((with_reducible first | refine hN _ ?_ | refine hX _ _ ?_ | refine hR _ ?_); (try (clear hG; clear Kg)); clear hN hX hR; clear Kv) | (with_reducible first | refine BdS (fun Kv hN hX hR => ?_) | refine Stop.mk ?_ | refine Join.mk ⟨fun Kv hN hX hR => ?_, ?_⟩ | refine DrawJ.each ?_ | exact SubJ.self _) | with_reducible refine SubJ.of ?_ | (with_reducible first | refine FlS (fun Kf hF => ?_) | refine FlN ?_ | refine NdS (fun Kg hG => ?_) | (refine hF _ _ ?_; clear hF; clear Kf) | (refine hG _ _ _ _ ?_; clear hG; clear Kg))))); all_goals (conv => whnf); all_goals (repeat ((try (clear hG; clear Kg)); clear hN hX hR; clear Kv))
  all_goals first
    | (have h1 := nf (show (!peersB v.id v.peers) = true by with_reducible assumption)
       exact (viewB_no fun h => by rw [h.1] at h1; simp at h1).symm)
    | (have h1 := nf (show (!passB v.passive) = true by with_reducible assumption)
       exact (viewB_no fun h => by rw [h.2.1] at h1; simp at h1).symm)
    | (have h1 := nt (show (!peersB v.id v.peers) = false by with_reducible assumption)
       have h2 := nt (show (!passB v.passive) = false by with_reducible assumption)
       have g1 := peersB_iff.1 h1
       have g2 := passB_iff.1 h2
       have e1 : IntKind.i64.wrap ((v.peers.length : Int) + (v.passive.length : Int)) = v.peers.length + v.passive.length := wrapI (by omega) (by omega)
       first
         | exact Ob.mk g1.2.2.1
         | (have h3 := of_decide_eq_true (show decide (16 < IntKind.i64.wrap ((v.peers.length : Int) + (v.passive.length : Int))) = true by with_reducible assumption)
            rw [e1] at h3
            exact (viewB_no fun h => by have := h.2.2.1; omega).symm)
         | (have h3 := of_decide_eq_false (show decide (16 < IntKind.i64.wrap ((v.peers.length : Int) + (v.passive.length : Int))) = false by with_reducible assumption)
            rw [e1] at h3
            unfold viewB
            rw [h1, h2, decide_eq_true (show v.peers.length + v.passive.length ≤ 16 by omega)]
            rfl))
    | trace_state
def toldB (t : GTold) : Bool := placeB t.key && (placeB t.value && (t.has || decide (t.value = 0)))
theorem k_odd : Known Tryz.prog tau 113 (S1 dTold fun t => okB (!toldB t)) := by
  refine known1 hmix tau_ok (ctx_cons k_Byte ctx_nil) (fn := Tryz.f113) (by kernel_rfl) [] (by kernel_rfl) _ _ fun t hfit => ⟨rfl, [], ?_⟩
  clear hfit
  (repeat' (first | ((with_reducible refine BdI ?_); (first | ((with_reducible refine SqI ?_ (fun Kv hN hX hR => ?_)); (next => exact rfl)) | ((with_reducible refine JnI ?_ ?_); (next => exact rfl)) | (conv => whnf))) | (with_reducible first | refine BdS (fun Kv hN hX hR => ?_) | refine Stop.mk ?_ | refine Join.mk ⟨fun Kv hN hX hR => ?_, ?_⟩ | refine DrawJ.each ?_ | exact SubJ.self _) | with_reducible refine SubJ.of ?_ | (with_reducible first | refine FlS (fun Kf hF => ?_) | refine FlN ?_ | refine NdS (fun Kg hG => ?_) | (refine hF _ _ ?_; clear hF; clear Kf) | (refine hG _ _ _ _ ?_; clear hG; clear Kg)) | ((with_reducible refine SqI ?_ (fun Kv hN hX hR => ?_)); (next => exact rfl)) | ((with_reducible refine JnI ?_ ?_); (next => exact rfl)) | ((with_reducible first | refine hN _ ?_ | refine hX _ _ ?_ | refine hR _ ?_); (try (clear hG; clear Kg)); clear hN hX hR; clear Kv) | ((conv => whnf); first | (with_reducible first | rfl | exact True.intro | intro _ | refine And.intro ?_ ?_) | ((with_reducible first | refine hN _ ?_ | refine hX _ _ ?_ | refine hR _ ?_); (try (clear hG; clear Kg)); clear hN hX hR; clear Kv) | (with_reducible first | refine BdS (fun Kv hN hX hR => ?_) | refine Stop.mk ?_ | refine Join.mk ⟨fun Kv hN hX hR => ?_, ?_⟩ | refine DrawJ.each ?_ | exact SubJ.self _) | with_reducible refine SubJ.of ?_ | (with_reducible first | refine FlS (fun Kf hF => ?_) | refine FlN ?_ | refine NdS (fun Kg hG => ?_) | (refine hF _ _ ?_; clear hF; clear Kf) | (refine hG _ _ _ _ ?_; clear hG; clear Kg))))); all_goals (conv => whnf); all_goals (repeat ((try (clear hG; clear Kg)); clear hN hX hR; clear Kv))
  all_goals first
    | (simp_all [toldB]; done)
    | trace_state
theorem k_tIndex : Known Tryz.prog tau 135 (S2 dTolds (dFn 113) fun l _ => .ok (.int .i64 (idxI (fun m => !toldB m) l)) []) := by
  refine known2 hmix tau_ok (ctx_cons k_odd ctx_nil) (fn := Tryz.f135) (by kernel_rfl) [] (by kernel_rfl) _ _ _ fun xs _ hfit => ⟨rfl,
    [(2, invN [4, 5, 8, 9, 10, 11, 12, 13, 14, 15, 16, 17, 18] (fun i => i ≤ xs.length ∧ ∀ x ∈ xs.take i, (!toldB x) = false) (fun i => withS [(8, .int .i64 i)]) (fun i => xs.length - i))], ?_⟩
  have hlen : xs.length * 24 ≤ 140737488355328 := hfit.1
  clear hfit
  (repeat' (first | ((with_reducible refine BdI ?_); (first | ((with_reducible refine SqI ?_ (fun Kv hN hX hR => ?_)); (next => exact rfl)) | ((with_reducible refine JnI ?_ ?_); (next => exact rfl)) | (conv => whnf))) | (with_reducible first | refine BdS (fun Kv hN hX hR => ?_) | refine Stop.mk ?_ | refine Join.mk ⟨fun Kv hN hX hR => ?_, ?_⟩ | refine DrawJ.each ?_ | exact SubJ.self _) | with_reducible refine SubJ.of ?_ | (with_reducible first | refine FlS (fun Kf hF => ?_) | refine FlN ?_ | refine NdS (fun Kg hG => ?_) | (refine hF _ _ ?_; clear hF; clear Kf) | (refine hG _ _ _ _ ?_; clear hG; clear Kg)) | ((with_reducible refine SqI ?_ (fun Kv hN hX hR => ?_)); (next => exact rfl)) | ((with_reducible refine JnI ?_ ?_); (next => exact rfl)) | ((with_reducible first | refine hN _ ?_ | refine hX _ _ ?_ | refine hR _ ?_); (try (clear hG; clear Kg)); clear hN hX hR; clear Kv) | ((conv => whnf); first | (with_reducible first | rfl | exact True.intro | refine (fun (_ : (_ : Prop)) => ?_) | refine And.intro ?_ ?_) | ((with_reducible first | refine hN _ ?_ | refine hX _ _ ?_ | refine hR _ ?_); (try (clear hG; clear Kg)); clear hN hX hR; clear Kv) | (with_reducible first | refine BdS (fun Kv hN hX hR => ?_) | refine Stop.mk ?_ | refine Join.mk ⟨fun Kv hN hX hR => ?_, ?_⟩ | refine DrawJ.each ?_ | exact SubJ.self _) | with_reducible refine SubJ.of ?_ | (with_reducible first | refine FlS (fun Kf hF => ?_) | refine FlN ?_ | refine NdS (fun Kg hG => ?_) | (refine hF _ _ ?_; clear hF; clear Kf) | (refine hG _ _ _ _ ?_; clear hG; clear Kg))))); all_goals (conv => whnf); all_goals (repeat ((try (clear hG; clear Kg)); clear hN hX hR; clear Kv))
  all_goals first
    | (refine ⟨0, ⟨by omega, by simp⟩, ?_⟩
       (repeat' (first | ((with_reducible refine BdI ?_); (first | ((with_reducible refine SqI ?_ (fun Kv hN hX hR => ?_)); (next => exact rfl)) | ((with_reducible refine JnI ?_ ?_); (next => exact rfl)) | (conv => whnf))) | (with_reducible first | refine BdS (fun Kv hN hX hR => ?_) | refine Stop.mk ?_ | refine Join.mk ⟨fun Kv hN hX hR => ?_, ?_⟩ | refine DrawJ.each ?_ | exact SubJ.self _) | with_reducible refine SubJ.of ?_ | (with_reducible first | refine FlS (fun Kf hF => ?_) | refine FlN ?_ | refine NdS (fun Kg hG => ?_) | (refine hF _ _ ?_; clear hF; clear Kf) | (refine hG _ _ _ _ ?_; clear hG; clear Kg)) | ((with_reducible refine SqI ?_ (fun Kv hN hX hR => ?_)); (next => exact rfl)) | ((with_reducible refine JnI ?_ ?_); (next => exact rfl)) | ((with_reducible first | refine hN _ ?_ | refine hX _ _ ?_ | refine hR _ ?_); (try (clear hG; clear Kg)); clear hN hX hR; clear Kv) | ((conv => whnf); first | (with_reducible first | rfl | exact True.intro | intro _ | refine And.intro ?_ ?_) | ((with_reducible first | refine hN _ ?_ | refine hX _ _ ?_ | refine hR _ ?_); (try (clear hG; clear Kg)); clear hN hX hR; clear Kv) | (with_reducible first | refine BdS (fun Kv hN hX hR => ?_) | refine Stop.mk ?_ | refine Join.mk ⟨fun Kv hN hX hR => ?_, ?_⟩ | refine DrawJ.each ?_ | exact SubJ.self _) | with_reducible refine SubJ.of ?_ | (with_reducible first | refine FlS (fun Kf hF => ?_) | refine FlN ?_ | refine NdS (fun Kg hG => ?_) | (refine hF _ _ ?_; clear hF; clear Kf) | (refine hG _ _ _ _ ?_; clear hG; clear Kg))))); all_goals (conv => whnf); all_goals (repeat ((try (clear hG; clear Kg)); clear hN hX hR; clear Kv))
       all_goals rfl)
    | (with_reducible intro i hi
       (repeat' (first | ((with_reducible refine BdI ?_); (first | ((with_reducible refine SqI ?_ (fun Kv hN hX hR => ?_)); (next => exact rfl)) | ((with_reducible refine JnI ?_ ?_); (next => exact rfl)) | (conv => whnf))) | (with_reducible first | refine BdS (fun Kv hN hX hR => ?_) | refine Stop.mk ?_ | refine Join.mk ⟨fun Kv hN hX hR => ?_, ?_⟩ | refine DrawJ.each ?_ | exact SubJ.self _) | with_reducible refine SubJ.of ?_ | (with_reducible first | refine FlS (fun Kf hF => ?_) | refine FlN ?_ | refine NdS (fun Kg hG => ?_) | (refine hF _ _ ?_; clear hF; clear Kf) | (refine hG _ _ _ _ ?_; clear hG; clear Kg)) | ((with_reducible refine SqI ?_ (fun Kv hN hX hR => ?_)); (next => exact rfl)) | ((with_reducible refine JnI ?_ ?_); (next => exact rfl)) | ((with_reducible first | refine hN _ ?_ | refine hX _ _ ?_ | refine hR _ ?_); (try (clear hG; clear Kg)); clear hN hX hR; clear Kv) | ((conv => whnf); first | (with_reducible first | rfl | exact True.intro | intro _ | refine And.intro ?_ ?_) | ((with_reducible first | refine hN _ ?_ | refine hX _ _ ?_ | refine hR _ ?_); (try (clear hG; clear Kg)); clear hN hX hR; clear Kv) | (with_reducible first | refine BdS (fun Kv hN hX hR => ?_) | refine Stop.mk ?_ | refine Join.mk ⟨fun Kv hN hX hR => ?_, ?_⟩ | refine DrawJ.each ?_ | exact SubJ.self _) | with_reducible refine SubJ.of ?_ | (with_reducible first | refine FlS (fun Kf hF => ?_) | refine FlN ?_ | refine NdS (fun Kg hG => ?_) | (refine hF _ _ ?_; clear hF; clear Kf) | (refine hG _ _ _ _ ?_; clear hG; clear Kg))))); all_goals (conv => whnf); all_goals (repeat ((try (clear hG; clear Kg)); clear hN hX hR; clear Kv))
       all_goals (try simp only [Int.toNat_natCast] at *)
       all_goals first
         | exact Ob.mk ⟨by omega, of_decide_eq_true (by with_reducible assumption)⟩
         | (have h := of_decide_eq_true (show decide ((i : Int) < (xs.length : Nat)) = true by with_reducible assumption)
            have hm : (!toldB (xs.getD i default)) = true := by assumption
            exact (idxI_at (d := default) (by omega) hi.2 hm).symm)
         | (have h := of_decide_eq_true (show decide ((i : Int) < (xs.length : Nat)) = true by with_reducible assumption)
            have hm : (!toldB (xs.getD i default)) = false := by assumption
            refine ⟨i + 1, ⟨by omega, all_take_succ (d := default) (by omega) hi.2 hm⟩, by show xs.length - (i + 1) < xs.length - i; omega, ?_⟩
            (repeat' (first | ((with_reducible refine BdI ?_); (first | ((with_reducible refine SqI ?_ (fun Kv hN hX hR => ?_)); (next => exact rfl)) | ((with_reducible refine JnI ?_ ?_); (next => exact rfl)) | (conv => whnf))) | (with_reducible first | refine BdS (fun Kv hN hX hR => ?_) | refine Stop.mk ?_ | refine Join.mk ⟨fun Kv hN hX hR => ?_, ?_⟩ | refine DrawJ.each ?_ | exact SubJ.self _) | with_reducible refine SubJ.of ?_ | (with_reducible first | refine FlS (fun Kf hF => ?_) | refine FlN ?_ | refine NdS (fun Kg hG => ?_) | (refine hF _ _ ?_; clear hF; clear Kf) | (refine hG _ _ _ _ ?_; clear hG; clear Kg)) | ((with_reducible refine SqI ?_ (fun Kv hN hX hR => ?_)); (next => exact rfl)) | ((with_reducible refine JnI ?_ ?_); (next => exact rfl)) | ((with_reducible first | refine hN _ ?_ | refine hX _ _ ?_ | refine hR _ ?_); (try (clear hG; clear Kg)); clear hN hX hR; clear Kv) | ((conv => whnf); first | (with_reducible first | rfl | exact True.intro | intro _ | refine And.intro ?_ ?_) | ((with_reducible first | refine hN _ ?_ | refine hX _ _ ?_ | refine hR _ ?_); (try (clear hG; clear Kg)); clear hN hX hR; clear Kv) | (with_reducible first | refine BdS (fun Kv hN hX hR => ?_) | refine Stop.mk ?_ | refine Join.mk ⟨fun Kv hN hX hR => ?_, ?_⟩ | refine DrawJ.each ?_ | exact SubJ.self _) | with_reducible refine SubJ.of ?_ | (with_reducible first | refine FlS (fun Kf hF => ?_) | refine FlN ?_ | refine NdS (fun Kg hG => ?_) | (refine hF _ _ ?_; clear hF; clear Kf) | (refine hG _ _ _ _ ?_; clear hG; clear Kg))))); all_goals (conv => whnf); all_goals (repeat ((try (clear hG; clear Kg)); clear hN hX hR; clear Kv))
            all_goals first
              | exact wrapI (by omega) (by omega)
              | rfl)
         | (have h := of_decide_eq_false (show decide ((i : Int) < (xs.length : Nat)) = false by with_reducible assumption)
            have h2 := hi.2
            rw [List.take_of_length_le (by omega)] at h2
            exact (idxI_none h2).symm)
         | trace_state)
    | trace_state
theorem k_tContains : Known Tryz.prog tau 112 (S2 dTolds (dFn 113) fun l _ => okB (l.any fun m => !toldB m)) := by
  refine known2 hmix tau_ok (ctx_cons k_tIndex ctx_nil) (fn := Tryz.f112) (by kernel_rfl) [] (by kernel_rfl) _ _ _ fun xs _ hfit => ⟨rfl, [], ?_⟩
  (repeat' (first | ((with_reducible refine BdI ?_); (first | ((with_reducible refine SqI ?_ (fun Kv hN hX hR => ?_)); (next => exact rfl)) | ((with_reducible refine JnI ?_ ?_); (next => exact rfl)) | (conv => whnf))) | (with_reducible first | refine BdS (fun Kv hN hX hR => ?_) | refine Stop.mk ?_ | refine Join.mk ⟨fun Kv hN hX hR => ?_, ?_⟩ | refine DrawJ.each ?_ | exact SubJ.self _) | with_reducible refine SubJ.of ?_ | (with_reducible first | refine FlS (fun Kf hF => ?_) | refine FlN ?_ | refine NdS (fun Kg hG => ?_) | (refine hF _ _ ?_; clear hF; clear Kf) | (refine hG _ _ _ _ ?_; clear hG; clear Kg)) | ((with_reducible refine SqI ?_ (fun Kv hN hX hR => ?_)); (next => exact rfl)) | ((with_reducible refine JnI ?_ ?_); (next => exact rfl)) | ((with_reducible first | refine hN _ ?_ | refine hX _ _ ?_ | refine hR _ ?_); (try (clear hG; clear Kg)); clear hN hX hR; clear Kv) | ((conv => whnf); first | (with_reducible first | rfl | exact True.intro | intro _ | refine And.intro ?_ ?_) | ((with_reducible first | refine hN _ ?_ | refine hX _ _ ?_ | refine hR _ ?_); (try (clear hG; clear Kg)); clear hN hX hR; clear Kv) | (with_reducible first | refine BdS (fun Kv hN hX hR => ?_) | refine Stop.mk ?_ | refine Join.mk ⟨fun Kv hN hX hR => ?_, ?_⟩ | refine DrawJ.each ?_ | exact SubJ.self _) | with_reducible refine SubJ.of ?_ | (with_reducible first | refine FlS (fun Kf hF => ?_) | refine FlN ?_ | refine NdS (fun Kg hG => ?_) | (refine hF _ _ ?_; clear hF; clear Kf) | (refine hG _ _ _ _ ?_; clear hG; clear Kg))))); all_goals (conv => whnf); all_goals (repeat ((try (clear hG; clear Kg)); clear hN hX hR; clear Kv))
  exact idxI_ge _ _
def storeB (l : List GItem) : Bool := decide (l.length ≤ 16) && (decide (l.Pairwise fun a b => a.key < b.key) && l.all itemB)
def RisingK (l : List GItem) : Prop := ∀ s t, s < t → t < l.length → (l.getD s default).key < (l.getD t default).key
theorem etaIt {l : List GItem} {i : Nat} (h : i < l.length) : l.getD i default = l[i] := by simp [List.getD_eq_getElem?_getD, h]
theorem risingK_iff {l : List GItem} : RisingK l ↔ l.Pairwise fun a b => a.key < b.key := by
  rw [List.pairwise_iff_getElem]
  constructor
  · intro h i j hi hj hij
    have := h i j hij hj
    rwa [etaIt hi, etaIt hj] at this
  · intro h i j hij hj
    rw [etaIt (show i < l.length by omega), etaIt hj]
    exact h i j (by omega) hj hij
theorem risingK_adj {l : List GItem} (h : ∀ t, t + 1 < l.length → (l.getD t default).key < (l.getD (t + 1) default).key) : RisingK l := by
  intro s t
  induction t with
  | zero => intro h1; omega
  | succ t ih =>
    intro h1 h2
    have := h t h2
    rcases Nat.lt_or_eq_of_le (Nat.le_of_lt_succ h1) with h3 | rfl
    · have := ih h3 (by omega)
      omega
    · exact this
theorem storeB_iff {l : List GItem} : storeB l = true ↔ l.length ≤ 16 ∧ RisingK l ∧ ∀ x ∈ l, itemB x = true := by
  simp only [storeB, Bool.and_eq_true, decide_eq_true_eq, risingK_iff, List.all_eq_true]
theorem storeB_no {l : List GItem} (h : ¬ (l.length ≤ 16 ∧ RisingK l ∧ ∀ x ∈ l, itemB x = true)) : storeB l = false := by
  rw [← storeB_iff] at h
  simpa using h
theorem etaItem (i : GItem) : (⟨i.key, ⟨i.ver.count, i.ver.writer⟩, i.value, i.gone⟩ : GItem) = i := rfl
set_option maxHeartbeats 4000000 in
theorem k_storeMay : Known Tryz.prog tau 111 (S1 dItems fun l => okB (storeB l)) := by
  refine known1 hmix tau_ok (ctx_cons k_ItemMay ctx_nil) (fn := Tryz.f111) (by kernel_rfl) [(4, [(0, 0), (1, 1), (2, 2), (3, 6), (4, 8), (5, 24), (6, 40), (7, 64), (8, 64), (9, 320), (10, 704), (11, 1088), (12, 2112), (13, 64), (14, 8256), (15, 20544), (16, 32840), (17, 65544)])] (by kernel_rfl) _ _ fun xs hfit => ⟨rfl,
    [(2, invN [2, 3, 4, 7, 8, 9, 10, 11, 12, 13, 14, 15, 16, 17, 18, 19, 20, 21, 22, 23, 24, 25, 26, 27, 28, 29, 30] (fun i => i ≤ xs.length ∧ (∀ x ∈ xs.take i, itemB x = true) ∧ ∀ t, t + 1 < i → (xs.getD t default).key < (xs.getD (t + 1) default).key) (fun i => withS [(7, .int .i64 i)]) (fun i => xs.length - i))], ?_⟩
  have hlen : xs.length * 40 ≤ 140737488355328 := hfit.1
  clear hfit
  (repeat' (first | ((with_reducible refine BdI ?_); (first | ((with_reducible refine SqI ?_ (fun Kv hN hX hR => ?_)); (next => exact rfl)) | ((with_reducible refine JnI ?_ ?_); (next => exact rfl)) | (conv => whnf))) | (with_reducible first | refine BdS (fun Kv hN hX hR => ?_) | refine Stop.mk ?_ | refine Join.mk ⟨fun Kv hN hX hR => ?_, ?_⟩ | refine DrawJ.each ?_ | exact SubJ.self _) | with_reducible refine SubJ.of ?_ | (with_reducible first | refine FlS (fun Kf hF => ?_) | refine FlN ?_ | refine NdS (fun Kg hG => ?_) | (refine hF _ _ ?_; clear hF; clear Kf) | (refine hG _ _ _ _ ?_; clear hG; clear Kg)) | ((with_reducible refine SqI ?_ (fun Kv hN hX hR => ?_)); (next => exact rfl)) | ((with_reducible refine JnI ?_ ?_); (next => exact rfl)) | ((with_reducible first | refine hN _ ?_ | refine hX _ _ ?_ | refine hR _ ?_); (try (clear hG; clear Kg)); clear hN hX hR; clear Kv) | ((conv => whnf); first | (with_reducible first | rfl | exact True.intro | refine (fun (_ : (_ : Prop)) => ?_) | refine And.intro ?_ ?_) | ((with_reducible first | refine hN _ ?_ | refine hX _ _ ?_ | refine hR _ ?_); (try (clear hG; clear Kg)); clear hN hX hR; clear Kv) | (with_reducible first | refine BdS (fun Kv hN hX hR => ?_) | refine Stop.mk ?_ | refine Join.mk ⟨fun Kv hN hX hR => ?_, ?_⟩ | refine DrawJ.each ?_ | exact SubJ.self _) | with_reducible refine SubJ.of ?_ | (with_reducible first | refine FlS (fun Kf hF => ?_) | refine FlN ?_ | refine NdS (fun Kg hG => ?_) | (refine hF _ _ ?_; clear hF; clear Kf) | (refine hG _ _ _ _ ?_; clear hG; clear Kg))))); all_goals (conv => whnf); all_goals (repeat ((try (clear hG; clear Kg)); clear hN hX hR; clear Kv))
  all_goals first
    | (refine ⟨0, ⟨by omega, by simp, by intros; omega⟩, ?_⟩
       (repeat' (first | ((with_reducible refine BdI ?_); (first | ((with_reducible refine SqI ?_ (fun Kv hN hX hR => ?_)); (next => exact rfl)) | ((with_reducible refine JnI ?_ ?_); (next => exact rfl)) | (conv => whnf))) | (with_reducible first | refine BdS (fun Kv hN hX hR => ?_) | refine Stop.mk ?_ | refine Join.mk ⟨fun Kv hN hX hR => ?_, ?_⟩ | refine DrawJ.each ?_ | exact SubJ.self _) | with_reducible refine SubJ.of ?_ | (with_reducible first | refine FlS (fun Kf hF => ?_) | refine FlN ?_ | refine NdS (fun Kg hG => ?_) | (refine hF _ _ ?_; clear hF; clear Kf) | (refine hG _ _ _ _ ?_; clear hG; clear Kg)) | ((with_reducible refine SqI ?_ (fun Kv hN hX hR => ?_)); (next => exact rfl)) | ((with_reducible refine JnI ?_ ?_); (next => exact rfl)) | ((with_reducible first | refine hN _ ?_ | refine hX _ _ ?_ | refine hR _ ?_); (try (clear hG; clear Kg)); clear hN hX hR; clear Kv) | ((conv => whnf); first | (with_reducible first | rfl | exact True.intro | intro _ | refine And.intro ?_ ?_) | ((with_reducible first | refine hN _ ?_ | refine hX _ _ ?_ | refine hR _ ?_); (try (clear hG; clear Kg)); clear hN hX hR; clear Kv) | (with_reducible first | refine BdS (fun Kv hN hX hR => ?_) | refine Stop.mk ?_ | refine Join.mk ⟨fun Kv hN hX hR => ?_, ?_⟩ | refine DrawJ.each ?_ | exact SubJ.self _) | with_reducible refine SubJ.of ?_ | (with_reducible first | refine FlS (fun Kf hF => ?_) | refine FlN ?_ | refine NdS (fun Kg hG => ?_) | (refine hF _ _ ?_; clear hF; clear Kf) | (refine hG _ _ _ _ ?_; clear hG; clear Kg))))); all_goals (conv => whnf); all_goals (repeat ((try (clear hG; clear Kg)); clear hN hX hR; clear Kv))
       all_goals rfl)
    | (with_reducible intro i hi
       (repeat' (first | ((with_reducible refine BdI ?_); (first | ((with_reducible refine SqI ?_ (fun Kv hN hX hR => ?_)); (next => exact rfl)) | ((with_reducible refine JnI ?_ ?_); (next => exact rfl)) | (conv => whnf))) | (with_reducible first | refine BdS (fun Kv hN hX hR => ?_) | refine Stop.mk ?_ | refine Join.mk ⟨fun Kv hN hX hR => ?_, ?_⟩ | refine DrawJ.each ?_ | exact SubJ.self _) | with_reducible refine SubJ.of ?_ | (with_reducible first | refine FlS (fun Kf hF => ?_) | refine FlN ?_ | refine NdS (fun Kg hG => ?_) | (refine hF _ _ ?_; clear hF; clear Kf) | (refine hG _ _ _ _ ?_; clear hG; clear Kg)) | ((with_reducible refine SqI ?_ (fun Kv hN hX hR => ?_)); (next => exact rfl)) | ((with_reducible refine JnI ?_ ?_); (next => exact rfl)) | ((with_reducible first | refine hN _ ?_ | refine hX _ _ ?_ | refine hR _ ?_); (try (clear hG; clear Kg)); clear hN hX hR; clear Kv) | ((conv => whnf); first | (with_reducible first | rfl | exact True.intro | intro _ | refine And.intro ?_ ?_) | ((with_reducible first | refine hN _ ?_ | refine hX _ _ ?_ | refine hR _ ?_); (try (clear hG; clear Kg)); clear hN hX hR; clear Kv) | (with_reducible first | refine BdS (fun Kv hN hX hR => ?_) | refine Stop.mk ?_ | refine Join.mk ⟨fun Kv hN hX hR => ?_, ?_⟩ | refine DrawJ.each ?_ | exact SubJ.self _) | with_reducible refine SubJ.of ?_ | (with_reducible first | refine FlS (fun Kf hF => ?_) | refine FlN ?_ | refine NdS (fun Kg hG => ?_) | (refine hF _ _ ?_; clear hF; clear Kf) | (refine hG _ _ _ _ ?_; clear hG; clear Kg))))); all_goals (conv => whnf); all_goals (repeat ((try (clear hG; clear Kg)); clear hN hX hR; clear Kv))
       all_goals (try simp only [Int.toNat_natCast, etaItem] at *)
       all_goals first
         | exact Ob.mk ⟨by omega, of_decide_eq_true (by with_reducible assumption)⟩
         | (have h := of_decide_eq_true (show decide ((i : Int) < (xs.length : Nat)) = true by with_reducible assumption)
            first
              | (have h0 := of_decide_eq_true (show decide (0 < (i : Int)) = true by with_reducible assumption)
                 have hb := back1 (i := i) (by omega) (by omega)
                 exact Ob.mk (by rw [hb.2]; omega))
              | (have hm := nf (show (!itemB (xs.getD i default)) = true by with_reducible assumption)
                 refine (storeB_no ?_).symm
                 rintro ⟨_, _, h3⟩
                 have := h3 _ (getD_mem (l := xs) (i := i) (d := default) (by omega))
                 rw [this] at hm
                 simp at hm)
              | (have h0 := of_decide_eq_true (show decide (0 < (i : Int)) = true by with_reducible assumption)
                 have hb := back1 (i := i) (by omega) (by omega)
                 have hm := of_decide_eq_true (show decide ((xs.getD i default).key ≤ (xs.getD (IntKind.i64.wrap ((i : Int) - 1)).toNat default).key) = true by with_reducible assumption)
                 rw [hb.1] at hm
                 refine (storeB_no ?_).symm
                 rintro ⟨_, h2, _⟩
                 have := h2 (i - 1) i (by omega) (by omega)
                 omega)
              | (have hp := nt (show (!itemB (xs.getD i default)) = false by with_reducible assumption)
                 refine ⟨i + 1, ⟨by omega, all_take_succ (d := default) (by omega) hi.2.1 hp, fun t ht => ?_⟩, by show xs.length - (i + 1) < xs.length - i; omega, ?_⟩
                 · rcases Nat.lt_or_eq_of_le (Nat.le_of_lt_succ ht) with h3 | h3
                   · exact hi.2.2 t h3
                   · first
                       | (have h0 := of_decide_eq_false (show decide (0 < (i : Int)) = false by with_reducible assumption)
                          omega)
                       | (have hb := back1 (i := i) (by omega) (by omega)
                          have hm := of_decide_eq_false (show decide ((xs.getD i default).key ≤ (xs.getD (IntKind.i64.wrap ((i : Int) - 1)).toNat default).key) = false by with_reducible assumption)
                          rw [hb.1] at hm
                          rw [show t = i - 1 by omega, show i - 1 + 1 = i by omega]
                          omega)
                 · (repeat' (first | ((with_reducible refine BdI ?_); (first | ((with_reducible refine SqI ?_ (fun Kv hN hX hR => ?_)); (next => exact rfl)) | ((with_reducible refine JnI ?_ ?_); (next => exact rfl)) | (conv => whnf))) | (with_reducible first | refine BdS (fun Kv hN hX hR => ?_) | refine Stop.mk ?_ | refine Join.mk ⟨fun Kv hN hX hR => ?_, ?_⟩ | refine DrawJ.each ?_ | exact SubJ.self _) | with_reducible refine SubJ.of ?_ | (with_reducible first | refine FlS (fun Kf hF => ?_) | refine FlN ?_ | refine NdS (fun Kg hG => ?_) | (refine hF _ _ ?_; clear hF; clear Kf) | (refine hG _ _ _ _ ?_; clear hG; clear Kg)) | ((with_reducible refine SqI ?_ (fun Kv hN hX hR => ?_)); (next => exact rfl)) | ((with_reducible refine JnI ?_ ?_); (next => exact rfl)) | ((with_reducible first | refine hN _ ?_ | refine hX _ _ ?_ | refine hR _ ?_); (try (clear hG; clear Kg)); clear hN hX hR; clear Kv) | ((conv => whnf); first | (with_reducible first | rfl | exact True.intro | intro _ | refine And.intro ?_ ?_) | ((with_reducible first | refine hN _ ?_ | refine hX _ _ ?_ | refine hR _ ?_); (try (clear hG; clear Kg)); clear hN hX hR; clear Kv) | (with_reducible first | refine BdS (fun Kv hN hX hR => ?_) | refine Stop.mk ?_ | refine Join.mk ⟨fun Kv hN hX hR => ?_, ?_⟩ | refine DrawJ.each ?_ | exact SubJ.self _) | with_reducible refine SubJ.of ?_ | (with_reducible first | refine FlS (fun Kf hF => ?_) | refine FlN ?_ | refine NdS (fun Kg hG => ?_) | (refine hF _ _ ?_; clear hF; clear Kf) | (refine hG _ _ _ _ ?_; clear hG; clear Kg))))); all_goals (conv => whnf); all_goals (repeat ((try (clear hG; clear Kg)); clear hN hX hR; clear Kv))
                   all_goals first
                     | exact wrapI (by omega) (by omega)
                     | rfl))
         | (have h := of_decide_eq_false (show decide ((i : Int) < (xs.length : Nat)) = false by with_reducible assumption)
            obtain rfl : i = xs.length := by omega
            have h2 := hi.2.1
            rw [List.take_of_length_le (Nat.le_refl _)] at h2
            have h3 := risingK_adj hi.2.2
            by_cases h4 : xs.length ≤ 16
            · rw [storeB_iff.2 ⟨h4, h3, h2⟩]
              exact decide_eq_true (by omega)
            · rw [storeB_no (fun h => h4 h.1)]
              exact decide_eq_false (by omega))
         | trace_state)
    | trace_state
end Go.Proofs.YtmhieddhmebfhaaGreat

/- Contracts: nodes: may they be; a new one. -/
namespace Go.Proofs.YtmhieddhmebfhaaGreat
open Go.RowKit
set_option maxRecDepth 20000

def nodeB (x : GNode) : Bool := viewB x.view && (storeB x.items && (decide (x.log.length ≤ 64) && (x.log.all toldB && (x.up || decide (x.view.peers.length + x.view.passive.length + x.items.length + x.log.length = 0)))))
theorem etaNode (x : GNode) : (⟨x.up, ⟨x.view.id, x.view.peers, x.view.passive⟩, x.items, x.log⟩ : GNode) = x := rfl
set_option maxHeartbeats 1000000 in
theorem k_nodeMay : Known Tryz.prog tau 74 (S1 dNode fun x => okB (nodeB x)) := by
  refine known1 hmix tau_ok (ctx_cons k_viewMay (ctx_cons k_storeMay (ctx_cons k_tContains ctx_nil))) (fn := Tryz.f74) (by kernel_rfl) [] (by kernel_rfl) _ _ fun x hfit => ⟨rfl, [], ?_⟩
  have hp1 : x.view.peers.length * 16 ≤ 140737488355328 := hfit.1.2.2.1
  have hp2 : x.view.passive.length * 8 ≤ 140737488355328 := hfit.1.2.2.2.1
  have hp3 : x.items.length * 40 ≤ 140737488355328 := hfit.1.2.2.2.2.1
  have hp4 : x.log.length * 24 ≤ 140737488355328 := hfit.1.2.2.2.2.2.1
  clear hfit
  have e1 : IntKind.i64.wrap (IntKind.i64.wrap (IntKind.i64.wrap ((x.view.peers.length : Int) + (x.view.passive.length : Int)) + (x.items.length : Int)) + (x.log.length : Int)) = ((x.view.peers.length + x.view.passive.length + x.items.length + x.log.length : Nat) : Int) := by
    rw [wrapI (n := (x.view.peers.length : Int) + (x.view.passive.length : Int)) (by omega) (by omega), wrapI (n := (x.view.peers.length : Int) + (x.view.passive.length : Int) + (x.items.length : Int)) (by omega) (by omega), wrapI (by omega) (by omega)]
    omega
  (repeat' (first | ((with_reducible refine BdI ?_); (first | ((with_reducible refine SqI ?_ (fun Kv hN hX hR => ?_)); (next => exact rfl)) | ((with_reducible refine JnI ?_ ?_); (next => exact rfl)) | (conv => whnf))) | (with_reducible first | refine BdS (fun Kv hN hX hR => ?_) | refine Stop.mk ?_ | refine Join.mk ⟨fun Kv hN hX hR => ?_, ?_⟩ | refine DrawJ.each ?_ | exact SubJ.self _) | with_reducible refine SubJ.of ?_ | (with_reducible first | refine FlS (fun Kf hF => ?_) | refine FlN ?_ | refine NdS (fun Kg hG => ?_) | (refine hF _ _ ?_; clear hF; clear Kf) | (refine hG _ _ _ _ ?_; clear hG; clear Kg)) | ((with_reducible refine SqI ?_ (fun Kv hN hX hR => ?_)); (next => exact rfl)) | ((with_reducible refine JnI ?_ ?_); (next => exact rfl)) | ((with_reducible first | refine hN _ ?_ | refine hX _ _ ?_ | refine hR _ ?_); (try (clear hG; clear Kg)); clear hN hX hR; clear Kv) | ((conv => whnf); first | (with_reducible first | rfl | exact True.intro | intro _ | refine And.intro ?_ ?_) | ((with_reducible first | refine hN _ ?_ | refine hX _ _ ?_ | refine hR _ ?_); (try (clear hG; clear Kg)); clear hN hX hR; clear Kv) | (with_reducible first | refine BdS (fun Kv hN hX hR => ?_) | refine Stop.mk ?_ | refine Join.mk ⟨fun Kv hN hX hR => ?_, ?_⟩ | refine DrawJ.each ?_ | exact SubJ.self _) | with_reducible refine SubJ.of ?_ | (with_reducible first | refine FlS (fun Kf hF => ?_) | refine FlN ?_ | refine NdS (fun Kg hG => ?_) | (refine hF _ _ ?_; clear hF; clear Kf) | (refine hG _ _ _ _ ?_; clear hG; clear Kg))))); all_goals (conv => whnf); all_goals (repeat ((try (clear hG; clear Kg)); clear hN hX hR; clear Kv))
  all_goals (try simp only [etaView, e1] at *)
  all_goals first
    | (have h1 := nf (show (!x.up) = true by with_reducible assumption)
       have h2 := of_decide_eq_true (show decide ((0 : Int) < ((x.view.peers.length + x.view.passive.length + x.items.length + x.log.length : Nat) : Int)) = true by with_reducible assumption)
       unfold nodeB
       rw [h1, decide_eq_false (show ¬ x.view.peers.length + x.view.passive.length + x.items.length + x.log.length = 0 by omega)]
       simp
       done)
    | (have h1 : viewB x.view = false := by with_reducible assumption
       unfold nodeB
       rw [h1, Bool.false_and])
    | (have h1 : storeB x.items = false := by with_reducible assumption
       unfold nodeB
       rw [h1, Bool.false_and, Bool.and_false])
    | (have h1 := of_decide_eq_false (show decide ((x.log.length : Int) ≤ 64) = false by with_reducible assumption)
       unfold nodeB
       rw [decide_eq_false (show ¬ x.log.length ≤ 64 by omega), Bool.false_and, Bool.and_false, Bool.and_false])
    | (have h1 : viewB x.view = true := by with_reducible assumption
       have h2 : storeB x.items = true := by with_reducible assumption
       have h3 := of_decide_eq_true (show decide ((x.log.length : Int) ≤ 64) = true by with_reducible assumption)
       unfold nodeB
       rw [any_not, Bool.not_not, h1, h2, decide_eq_true (show x.log.length ≤ 64 by omega)]
       have h4 : (x.up || decide (x.view.peers.length + x.view.passive.length + x.items.length + x.log.length = 0)) = true := by
         first
           | (rw [nt (show (!x.up) = false by with_reducible assumption)]; rfl)
           | (have h5 := of_decide_eq_false (show decide ((0 : Int) < ((x.view.peers.length + x.view.passive.length + x.items.length + x.log.length : Nat) : Int)) = false by with_reducible assumption)
              rw [decide_eq_true (show x.view.peers.length + x.view.passive.length + x.items.length + x.log.length = 0 by omega), Bool.or_true])
       rw [h4]
       simp
       done)
    | trace_state
def nodeZ : GNode := ⟨false, ⟨0, [], []⟩, [], []⟩
theorem drop_one_more {α : Type} {d : α} {l : List α} {i : Nat} (h : i < l.length) : l.drop i = l.getD i d :: l.drop (i + 1) := by
  rw [List.drop_eq_getElem_cons h]
  simp [List.getD_eq_getElem?_getD, h]
end Go.Proofs.YtmhieddhmebfhaaGreat

/- Contracts: views, stores, nodes: the document's. -/
namespace Go.Proofs.YtmhieddhmebfhaaGreat
open Go.RowKit
set_option maxRecDepth 20000

set_option maxHeartbeats 4000000 in
theorem k_refStore : Known Tryz.prog tau 110 (S1 dItems fun l => okB (storeB l)) := by
  refine known1 hmix tau_ok (ctx_cons k_refItem ctx_nil) (fn := Tryz.f110) (by kernel_rfl) [(4, [(0, 0), (1, 0), (2, 3), (3, 4), (4, 8), (5, 16), (6, 48), (7, 64), (8, 192), (9, 320), (10, 512), (11, 512), (12, 2560), (13, 5632), (14, 8704), (15, 16896), (16, 512), (17, 512), (18, 197120), (19, 262656), (20, 524800), (21, 1081856), (22, 2097728), (23, 4194368)])] (by kernel_rfl) _ _ fun xs hfit => ⟨rfl,
    [(2, invN (2 :: 3 :: 4 :: 5 :: 6 :: 7 :: 8 :: 9 :: 10 :: 11 :: 12 :: 13 :: 14 :: 15 :: 16 :: 17 :: 18 :: 19 :: 20 :: 21 :: 22 :: 23 :: 24 :: 25 :: 26 :: 27 :: 28 :: 29 :: 30 :: 31 :: 32 :: 33 :: []) (fun i => i ≤ xs.length ∧ (∀ x ∈ xs.take i, itemB x = true) ∧ ∀ t, t + 1 < i → (xs.getD t default).key < (xs.getD (t + 1) default).key) (fun i => withS [(3, .int .i64 i)]) (fun i => xs.length - i))], ?_⟩
  have hlen : xs.length * 40 ≤ 140737488355328 := hfit.1
  clear hfit
  (repeat' (first | ((with_reducible refine BdI ?_); (first | ((with_reducible refine SqI ?_ (fun Kv hN hX hR => ?_)); (next => exact rfl)) | ((with_reducible refine JnI ?_ ?_); (next => exact rfl)) | (conv => whnf))) | (with_reducible first | refine BdS (fun Kv hN hX hR => ?_) | refine Stop.mk ?_ | refine Join.mk ⟨fun Kv hN hX hR => ?_, ?_⟩ | refine DrawJ.each ?_ | exact SubJ.self _) | with_reducible refine SubJ.of ?_ | (with_reducible first | refine FlS (fun Kf hF => ?_) | refine FlN ?_ | refine NdS (fun Kg hG => ?_) | (refine hF _ _ ?_; clear hF; clear Kf) | (refine hG _ _ _ _ ?_; clear hG; clear Kg)) | ((with_reducible refine SqI ?_ (fun Kv hN hX hR => ?_)); (next => exact rfl)) | ((with_reducible refine JnI ?_ ?_); (next => exact rfl)) | ((with_reducible first | refine hN _ ?_ | refine hX _ _ ?_ | refine hR _ ?_); (try (clear hG; clear Kg)); clear hN hX hR; clear Kv) | ((conv => whnf); first | (with_reducible first | rfl | exact True.intro | refine (fun (_ : (_ : Prop)) => ?_) | refine And.intro ?_ ?_) | ((with_reducible first | refine hN _ ?_ | refine hX _ _ ?_ | refine hR _ ?_); (try (clear hG; clear Kg)); clear hN hX hR; clear Kv) | (with_reducible first | refine BdS (fun Kv hN hX hR => ?_) | refine Stop.mk ?_ | refine Join.mk ⟨fun Kv hN hX hR => ?_, ?_⟩ | refine DrawJ.each ?_ | exact SubJ.self _) | with_reducible refine SubJ.of ?_ | (with_reducible first | refine FlS (fun Kf hF => ?_) | refine FlN ?_ | refine NdS (fun Kg hG => ?_) | (refine hF _ _ ?_; clear hF; clear Kf) | (refine hG _ _ _ _ ?_; clear hG; clear Kg))))); all_goals (conv => whnf); all_goals (repeat ((try (clear hG; clear Kg)); clear hN hX hR; clear Kv))
  all_goals first
    | (refine ⟨0, ⟨by omega, by simp, by intros; omega⟩, ?_⟩
       (repeat' (first | ((with_reducible refine BdI ?_); (first | ((with_reducible refine SqI ?_ (fun Kv hN hX hR => ?_)); (next => exact rfl)) | ((with_reducible refine JnI ?_ ?_); (next => exact rfl)) | (conv => whnf))) | (with_reducible first | refine BdS (fun Kv hN hX hR => ?_) | refine Stop.mk ?_ | refine Join.mk ⟨fun Kv hN hX hR => ?_, ?_⟩ | refine DrawJ.each ?_ | exact SubJ.self _) | with_reducible refine SubJ.of ?_ | (with_reducible first | refine FlS (fun Kf hF => ?_) | refine FlN ?_ | refine NdS (fun Kg hG => ?_) | (refine hF _ _ ?_; clear hF; clear Kf) | (refine hG _ _ _ _ ?_; clear hG; clear Kg)) | ((with_reducible refine SqI ?_ (fun Kv hN hX hR => ?_)); (next => exact rfl)) | ((with_reducible refine JnI ?_ ?_); (next => exact rfl)) | ((with_reducible first | refine hN _ ?_ | refine hX _ _ ?_ | refine hR _ ?_); (try (clear hG; clear Kg)); clear hN hX hR; clear Kv) | ((conv => whnf); first | (with_reducible first | rfl | exact True.intro | intro _ | refine And.intro ?_ ?_) | ((with_reducible first | refine hN _ ?_ | refine hX _ _ ?_ | refine hR _ ?_); (try (clear hG; clear Kg)); clear hN hX hR; clear Kv) | (with_reducible first | refine BdS (fun Kv hN hX hR => ?_) | refine Stop.mk ?_ | refine Join.mk ⟨fun Kv hN hX hR => ?_, ?_⟩ | refine DrawJ.each ?_ | exact SubJ.self _) | with_reducible refine SubJ.of ?_ | (with_reducible first | refine FlS (fun Kf hF => ?_) | refine FlN ?_ | refine NdS (fun Kg hG => ?_) | (refine hF _ _ ?_; clear hF; clear Kf) | (refine hG _ _ _ _ ?_; clear hG; clear Kg))))); all_goals (conv => whnf); all_goals (repeat ((try (clear hG; clear Kg)); clear hN hX hR; clear Kv))
       all_goals rfl)
    | (with_reducible intro i hi
       (repeat' (first | ((with_reducible refine BdI ?_); (first | ((with_reducible refine SqI ?_ (fun Kv hN hX hR => ?_)); (next => exact rfl)) | ((with_reducible refine JnI ?_ ?_); (next => exact rfl)) | (conv => whnf))) | (with_reducible first | refine BdS (fun Kv hN hX hR => ?_) | refine Stop.mk ?_ | refine Join.mk ⟨fun Kv hN hX hR => ?_, ?_⟩ | refine DrawJ.each ?_ | exact SubJ.self _) | with_reducible refine SubJ.of ?_ | (with_reducible first | refine FlS (fun Kf hF => ?_) | refine FlN ?_ | refine NdS (fun Kg hG => ?_) | (refine hF _ _ ?_; clear hF; clear Kf) | (refine hG _ _ _ _ ?_; clear hG; clear Kg)) | ((with_reducible refine SqI ?_ (fun Kv hN hX hR => ?_)); (next => exact rfl)) | ((with_reducible refine JnI ?_ ?_); (next => exact rfl)) | ((with_reducible first | refine hN _ ?_ | refine hX _ _ ?_ | refine hR _ ?_); (try (clear hG; clear Kg)); clear hN hX hR; clear Kv) | ((conv => whnf); first | (with_reducible first | rfl | exact True.intro | intro _ | refine And.intro ?_ ?_) | ((with_reducible first | refine hN _ ?_ | refine hX _ _ ?_ | refine hR _ ?_); (try (clear hG; clear Kg)); clear hN hX hR; clear Kv) | (with_reducible first | refine BdS (fun Kv hN hX hR => ?_) | refine Stop.mk ?_ | refine Join.mk ⟨fun Kv hN hX hR => ?_, ?_⟩ | refine DrawJ.each ?_ | exact SubJ.self _) | with_reducible refine SubJ.of ?_ | (with_reducible first | refine FlS (fun Kf hF => ?_) | refine FlN ?_ | refine NdS (fun Kg hG => ?_) | (refine hF _ _ ?_; clear hF; clear Kf) | (refine hG _ _ _ _ ?_; clear hG; clear Kg))))); all_goals (conv => whnf); all_goals (repeat ((try (clear hG; clear Kg)); clear hN hX hR; clear Kv))
       all_goals (try simp only [Int.toNat_natCast, etaItem] at *)
       all_goals first
         | exact Ob.mk ⟨by omega, of_decide_eq_true (by with_reducible assumption)⟩
         | (have h := of_decide_eq_true (show decide ((i : Int) < (xs.length : Nat)) = true by with_reducible assumption)
            first
              | (have h0 := of_decide_eq_true (show decide (0 < (i : Int)) = true by with_reducible assumption)
                 have hb := back1 (i := i) (by omega) (by omega)
                 exact Ob.mk (by rw [hb.2]; omega))
              | (have hm := nf (show (!itemB (xs.getD i default)) = true by with_reducible assumption)
                 refine (storeB_no ?_).symm
                 rintro ⟨_, _, h3⟩
                 have := h3 _ (getD_mem (l := xs) (i := i) (d := default) (by omega))
                 rw [this] at hm
                 simp at hm)
              | (have h0 := of_decide_eq_true (show decide (0 < (i : Int)) = true by with_reducible assumption)
                 have hb := back1 (i := i) (by omega) (by omega)
                 have hm := of_decide_eq_true (show decide ((xs.getD i default).key ≤ (xs.getD (IntKind.i64.wrap ((i : Int) - 1)).toNat default).key) = true by with_reducible assumption)
                 rw [hb.1] at hm
                 refine (storeB_no ?_).symm
                 rintro ⟨_, h2, _⟩
                 have := h2 (i - 1) i (by omega) (by omega)
                 omega)
              | (have hp := nt (show (!itemB (xs.getD i default)) = false by with_reducible assumption)
                 refine ⟨i + 1, ⟨by omega, all_take_succ (d := default) (by omega) hi.2.1 hp, fun t ht => ?_⟩, by show xs.length - (i + 1) < xs.length - i; omega, ?_⟩
                 · rcases Nat.lt_or_eq_of_le (Nat.le_of_lt_succ ht) with h3 | h3
                   · exact hi.2.2 t h3
                   · first
                       | (have h0 := of_decide_eq_false (show decide (0 < (i : Int)) = false by with_reducible assumption)
                          omega)
                       | (have hb := back1 (i := i) (by omega) (by omega)
                          have hm := of_decide_eq_false (show decide ((xs.getD i default).key ≤ (xs.getD (IntKind.i64.wrap ((i : Int) - 1)).toNat default).key) = false by with_reducible assumption)
                          rw [hb.1] at hm
                          rw [show t = i - 1 by omega, show i - 1 + 1 = i by omega]
                          omega)
                 · (repeat' (first | ((with_reducible refine BdI ?_); (first | ((with_reducible refine SqI ?_ (fun Kv hN hX hR => ?_)); (next => exact rfl)) | ((with_reducible refine JnI ?_ ?_); (next => exact rfl)) | (conv => whnf))) | (with_reducible first | refine BdS (fun Kv hN hX hR => ?_) | refine Stop.mk ?_ | refine Join.mk ⟨fun Kv hN hX hR => ?_, ?_⟩ | refine DrawJ.each ?_ | exact SubJ.self _) | with_reducible refine SubJ.of ?_ | (with_reducible first | refine FlS (fun Kf hF => ?_) | refine FlN ?_ | refine NdS (fun Kg hG => ?_) | (refine hF _ _ ?_; clear hF; clear Kf) | (refine hG _ _ _ _ ?_; clear hG; clear Kg)) | ((with_reducible refine SqI ?_ (fun Kv hN hX hR => ?_)); (next => exact rfl)) | ((with_reducible refine JnI ?_ ?_); (next => exact rfl)) | ((with_reducible first | refine hN _ ?_ | refine hX _ _ ?_ | refine hR _ ?_); (try (clear hG; clear Kg)); clear hN hX hR; clear Kv) | ((conv => whnf); first | (with_reducible first | rfl | exact True.intro | intro _ | refine And.intro ?_ ?_) | ((with_reducible first | refine hN _ ?_ | refine hX _ _ ?_ | refine hR _ ?_); (try (clear hG; clear Kg)); clear hN hX hR; clear Kv) | (with_reducible first | refine BdS (fun Kv hN hX hR => ?_) | refine Stop.mk ?_ | refine Join.mk ⟨fun Kv hN hX hR => ?_, ?_⟩ | refine DrawJ.each ?_ | exact SubJ.self _) | with_reducible refine SubJ.of ?_ | (with_reducible first | refine FlS (fun Kf hF => ?_) | refine FlN ?_ | refine NdS (fun Kg hG => ?_) | (refine hF _ _ ?_; clear hF; clear Kf) | (refine hG _ _ _ _ ?_; clear hG; clear Kg))))); all_goals (conv => whnf); all_goals (repeat ((try (clear hG; clear Kg)); clear hN hX hR; clear Kv))
                   all_goals first
                     | exact wrapI (by omega) (by omega)
                     | rfl))
         | (have h := of_decide_eq_false (show decide ((i : Int) < (xs.length : Nat)) = false by with_reducible assumption)
            obtain rfl : i = xs.length := by omega
            have h2 := hi.2.1
            rw [List.take_of_length_le (Nat.le_refl _)] at h2
            have h3 := risingK_adj hi.2.2
            by_cases h4 : xs.length ≤ 16
            · rw [storeB_iff.2 ⟨h4, h3, h2⟩]
              exact decide_eq_true (by omega)
            · rw [storeB_no (fun h => h4 h.1)]
              exact decide_eq_false (by omega))
         | trace_state)
    | trace_state
def namesP (l : List GPeer) : List Int := l.map fun p => p.id
theorem namesP_succ {l : List GPeer} {i : Nat} (h : i < l.length) : namesP (l.take (i + 1)) = namesP (l.take i) ++ [(l.getD i default).id] := by
  unfold namesP
  rw [List.take_succ_eq_append_getElem h, List.map_append, etaP h]
  rfl
theorem namesP_len (l : List GPeer) : (namesP l).length = l.length := by simp [namesP]
theorem k_refNames : Known Tryz.prog tau 40 (S1 dPeers fun l => .ok (.own 0) [.ints (namesP l)]) := by
  refine known1 hmix tau_ok ctx_nil (fn := Tryz.f40) (by kernel_rfl) [] (by kernel_rfl) _ _ fun xs hfit => ⟨rfl,
    [(3, invX Nat [3, 4, 5, 6, 7, 8, 9, 10, 11, 12, 13, 14, 15, 16, 17, 18] [18] (fun i => i ≤ xs.length) (fun i => match i with
      | 0 => withS [(4, .int .i64 0), (3, .nilS (.ints []))]
      | i + 1 => fun st => withS [(4, .int .i64 ((i + 1 : Nat) : Int)), (3, .own 18)] (withR [(18, .own (.ints (namesP (xs.take (i + 1)))))] st)) (fun i => xs.length - i))], ?_⟩
  have hlen : xs.length * 16 ≤ 140737488355328 := hfit.1
  clear hfit
  (repeat' (first | ((with_reducible refine BdI ?_); (first | ((with_reducible refine SqI ?_ (fun Kv hN hX hR => ?_)); (next => exact rfl)) | ((with_reducible refine JnI ?_ ?_); (next => exact rfl)) | (conv => whnf))) | (with_reducible first | refine BdS (fun Kv hN hX hR => ?_) | refine Stop.mk ?_ | refine Join.mk ⟨fun Kv hN hX hR => ?_, ?_⟩ | refine DrawJ.each ?_ | exact SubJ.self _) | with_reducible refine SubJ.of ?_ | (with_reducible first | refine FlS (fun Kf hF => ?_) | refine FlN ?_ | refine NdS (fun Kg hG => ?_) | (refine hF _ _ ?_; clear hF; clear Kf) | (refine hG _ _ _ _ ?_; clear hG; clear Kg)) | ((with_reducible refine SqI ?_ (fun Kv hN hX hR => ?_)); (next => exact rfl)) | ((with_reducible refine JnI ?_ ?_); (next => exact rfl)) | ((with_reducible first | refine hN _ ?_ | refine hX _ _ ?_ | refine hR _ ?_); (try (clear hG; clear Kg)); clear hN hX hR; clear Kv) | ((conv => whnf); first | (with_reducible first | rfl | exact True.intro | refine (fun (_ : (_ : Prop)) => ?_) | refine And.intro ?_ ?_) | ((with_reducible first | refine hN _ ?_ | refine hX _ _ ?_ | refine hR _ ?_); (try (clear hG; clear Kg)); clear hN hX hR; clear Kv) | (with_reducible first | refine BdS (fun Kv hN hX hR => ?_) | refine Stop.mk ?_ | refine Join.mk ⟨fun Kv hN hX hR => ?_, ?_⟩ | refine DrawJ.each ?_ | exact SubJ.self _) | with_reducible refine SubJ.of ?_ | (with_reducible first | refine FlS (fun Kf hF => ?_) | refine FlN ?_ | refine NdS (fun Kg hG => ?_) | (refine hF _ _ ?_; clear hF; clear Kf) | (refine hG _ _ _ _ ?_; clear hG; clear Kg))))); all_goals (conv => whnf); all_goals (repeat ((try (clear hG; clear Kg)); clear hN hX hR; clear Kv))
  all_goals first
    | (refine ⟨0, Nat.zero_le _, ?_⟩
       (repeat' (first | ((with_reducible refine BdI ?_); (first | ((with_reducible refine SqI ?_ (fun Kv hN hX hR => ?_)); (next => exact rfl)) | ((with_reducible refine JnI ?_ ?_); (next => exact rfl)) | (conv => whnf))) | (with_reducible first | refine BdS (fun Kv hN hX hR => ?_) | refine Stop.mk ?_ | refine Join.mk ⟨fun Kv hN hX hR => ?_, ?_⟩ | refine DrawJ.each ?_ | exact SubJ.self _) | with_reducible refine SubJ.of ?_ | (with_reducible first | refine FlS (fun Kf hF => ?_) | refine FlN ?_ | refine NdS (fun Kg hG => ?_) | (refine hF _ _ ?_; clear hF; clear Kf) | (refine hG _ _ _ _ ?_; clear hG; clear Kg)) | ((with_reducible refine SqI ?_ (fun Kv hN hX hR => ?_)); (next => exact rfl)) | ((with_reducible refine JnI ?_ ?_); (next => exact rfl)) | ((with_reducible first | refine hN _ ?_ | refine hX _ _ ?_ | refine hR _ ?_); (try (clear hG; clear Kg)); clear hN hX hR; clear Kv) | ((conv => whnf); first | (with_reducible first | rfl | exact True.intro | intro _ | refine And.intro ?_ ?_) | ((with_reducible first | refine hN _ ?_ | refine hX _ _ ?_ | refine hR _ ?_); (try (clear hG; clear Kg)); clear hN hX hR; clear Kv) | (with_reducible first | refine BdS (fun Kv hN hX hR => ?_) | refine Stop.mk ?_ | refine Join.mk ⟨fun Kv hN hX hR => ?_, ?_⟩ | refine DrawJ.each ?_ | exact SubJ.self _) | with_reducible refine SubJ.of ?_ | (with_reducible first | refine FlS (fun Kf hF => ?_) | refine FlN ?_ | refine NdS (fun Kg hG => ?_) | (refine hF _ _ ?_; clear hF; clear Kf) | (refine hG _ _ _ _ ?_; clear hG; clear Kg))))); all_goals (conv => whnf); all_goals (repeat ((try (clear hG; clear Kg)); clear hN hX hR; clear Kv))
       all_goals rfl)
    | (with_reducible intro i hi
       rcases i with _ | i
       all_goals
         (repeat' (first | ((with_reducible refine BdI ?_); (first | ((with_reducible refine SqI ?_ (fun Kv hN hX hR => ?_)); (next => exact rfl)) | ((with_reducible refine JnI ?_ ?_); (next => exact rfl)) | (conv => whnf))) | (with_reducible first | refine BdS (fun Kv hN hX hR => ?_) | refine Stop.mk ?_ | refine Join.mk ⟨fun Kv hN hX hR => ?_, ?_⟩ | refine DrawJ.each ?_ | exact SubJ.self _) | with_reducible refine SubJ.of ?_ | (with_reducible first | refine FlS (fun Kf hF => ?_) | refine FlN ?_ | refine NdS (fun Kg hG => ?_) | (refine hF _ _ ?_; clear hF; clear Kf) | (refine hG _ _ _ _ ?_; clear hG; clear Kg)) | ((with_reducible refine SqI ?_ (fun Kv hN hX hR => ?_)); (next => exact rfl)) | ((with_reducible refine JnI ?_ ?_); (next => exact rfl)) | ((with_reducible first | refine hN _ ?_ | refine hX _ _ ?_ | refine hR _ ?_); (try (clear hG; clear Kg)); clear hN hX hR; clear Kv) | ((conv => whnf); first | (with_reducible first | rfl | exact True.intro | intro _ | refine And.intro ?_ ?_) | ((with_reducible first | refine hN _ ?_ | refine hX _ _ ?_ | refine hR _ ?_); (try (clear hG; clear Kg)); clear hN hX hR; clear Kv) | (with_reducible first | refine BdS (fun Kv hN hX hR => ?_) | refine Stop.mk ?_ | refine Join.mk ⟨fun Kv hN hX hR => ?_, ?_⟩ | refine DrawJ.each ?_ | exact SubJ.self _) | with_reducible refine SubJ.of ?_ | (with_reducible first | refine FlS (fun Kf hF => ?_) | refine FlN ?_ | refine NdS (fun Kg hG => ?_) | (refine hF _ _ ?_; clear hF; clear Kf) | (refine hG _ _ _ _ ?_; clear hG; clear Kg))))); all_goals (conv => whnf); all_goals (repeat ((try (clear hG; clear Kg)); clear hN hX hR; clear Kv))
       all_goals (try simp only [Int.toNat_natCast, Int.toNat_zero, List.nil_append] at *)
       all_goals first
         | exact Ob.mk ⟨by omega, of_decide_eq_true (by with_reducible assumption)⟩
         | (refine Ob.mk ?_
            simp only [Rw.len, Rw.bts, Rw.kd, kdBytes, List.length_cons, List.length_nil, List.length_append, namesP_len, List.length_take]
            omega)
         | (have h := of_decide_eq_true (show decide ((0 : Int) < (xs.length : Nat)) = true by with_reducible assumption)
            refine ⟨1, by omega, by show xs.length - 1 < xs.length - 0; omega, ?_⟩
            have e1 := namesP_succ (l := xs) (i := 0) (by omega)
            (repeat' (first | ((with_reducible refine BdI ?_); (first | ((with_reducible refine SqI ?_ (fun Kv hN hX hR => ?_)); (next => exact rfl)) | ((with_reducible refine JnI ?_ ?_); (next => exact rfl)) | (conv => whnf))) | (with_reducible first | refine BdS (fun Kv hN hX hR => ?_) | refine Stop.mk ?_ | refine Join.mk ⟨fun Kv hN hX hR => ?_, ?_⟩ | refine DrawJ.each ?_ | exact SubJ.self _) | with_reducible refine SubJ.of ?_ | (with_reducible first | refine FlS (fun Kf hF => ?_) | refine FlN ?_ | refine NdS (fun Kg hG => ?_) | (refine hF _ _ ?_; clear hF; clear Kf) | (refine hG _ _ _ _ ?_; clear hG; clear Kg)) | ((with_reducible refine SqI ?_ (fun Kv hN hX hR => ?_)); (next => exact rfl)) | ((with_reducible refine JnI ?_ ?_); (next => exact rfl)) | ((with_reducible first | refine hN _ ?_ | refine hX _ _ ?_ | refine hR _ ?_); (try (clear hG; clear Kg)); clear hN hX hR; clear Kv) | ((conv => whnf); first | (with_reducible first | rfl | exact True.intro | intro _ | refine And.intro ?_ ?_) | ((with_reducible first | refine hN _ ?_ | refine hX _ _ ?_ | refine hR _ ?_); (try (clear hG; clear Kg)); clear hN hX hR; clear Kv) | (with_reducible first | refine BdS (fun Kv hN hX hR => ?_) | refine Stop.mk ?_ | refine Join.mk ⟨fun Kv hN hX hR => ?_, ?_⟩ | refine DrawJ.each ?_ | exact SubJ.self _) | with_reducible refine SubJ.of ?_ | (with_reducible first | refine FlS (fun Kf hF => ?_) | refine FlN ?_ | refine NdS (fun Kg hG => ?_) | (refine hF _ _ ?_; clear hF; clear Kf) | (refine hG _ _ _ _ ?_; clear hG; clear Kg))))); all_goals (conv => whnf); all_goals (repeat ((try (clear hG; clear Kg)); clear hN hX hR; clear Kv))
            all_goals first
              | exact wrapI (by omega) (by omega)
              | exact congrArg Rw.ints e1.symm
              | rfl)
         | (have h := of_decide_eq_true (show decide (((i + 1 : Nat) : Int) < (xs.length : Nat)) = true by with_reducible assumption)
            refine ⟨i + 1 + 1, by omega, by show xs.length - (i + 1 + 1) < xs.length - (i + 1); omega, ?_⟩
            have e1 := namesP_succ (l := xs) (i := i + 1) (by omega)
            (repeat' (first | ((with_reducible refine BdI ?_); (first | ((with_reducible refine SqI ?_ (fun Kv hN hX hR => ?_)); (next => exact rfl)) | ((with_reducible refine JnI ?_ ?_); (next => exact rfl)) | (conv => whnf))) | (with_reducible first | refine BdS (fun Kv hN hX hR => ?_) | refine Stop.mk ?_ | refine Join.mk ⟨fun Kv hN hX hR => ?_, ?_⟩ | refine DrawJ.each ?_ | exact SubJ.self _) | with_reducible refine SubJ.of ?_ | (with_reducible first | refine FlS (fun Kf hF => ?_) | refine FlN ?_ | refine NdS (fun Kg hG => ?_) | (refine hF _ _ ?_; clear hF; clear Kf) | (refine hG _ _ _ _ ?_; clear hG; clear Kg)) | ((with_reducible refine SqI ?_ (fun Kv hN hX hR => ?_)); (next => exact rfl)) | ((with_reducible refine JnI ?_ ?_); (next => exact rfl)) | ((with_reducible first | refine hN _ ?_ | refine hX _ _ ?_ | refine hR _ ?_); (try (clear hG; clear Kg)); clear hN hX hR; clear Kv) | ((conv => whnf); first | (with_reducible first | rfl | exact True.intro | intro _ | refine And.intro ?_ ?_) | ((with_reducible first | refine hN _ ?_ | refine hX _ _ ?_ | refine hR _ ?_); (try (clear hG; clear Kg)); clear hN hX hR; clear Kv) | (with_reducible first | refine BdS (fun Kv hN hX hR => ?_) | refine Stop.mk ?_ | refine Join.mk ⟨fun Kv hN hX hR => ?_, ?_⟩ | refine DrawJ.each ?_ | exact SubJ.self _) | with_reducible refine SubJ.of ?_ | (with_reducible first | refine FlS (fun Kf hF => ?_) | refine FlN ?_ | refine NdS (fun Kg hG => ?_) | (refine hF _ _ ?_; clear hF; clear Kf) | (refine hG _ _ _ _ ?_; clear hG; clear Kg))))); all_goals (conv => whnf); all_goals (repeat ((try (clear hG; clear Kg)); clear hN hX hR; clear Kv))
            all_goals first
              | exact wrapI (by omega) (by omega)
              | exact congrArg Rw.ints e1.symm
              | rfl)
         | (have h := of_decide_eq_false (show decide ((0 : Int) < (xs.length : Nat)) = false by with_reducible assumption)
            obtain rfl : xs = [] := List.eq_nil_of_length_eq_zero (by omega)
            rfl)
         | (have h := of_decide_eq_false (show decide (((i + 1 : Nat) : Int) < (xs.length : Nat)) = false by with_reducible assumption)
            rw [List.take_of_length_le (by omega)])
         | trace_state)
    | trace_state
end Go.Proofs.YtmhieddhmebfhaaGreat

/- Contracts: views, nodes: the document's. -/
namespace Go.Proofs.YtmhieddhmebfhaaGreat
open Go.RowKit
set_option maxRecDepth 20000

theorem has_names {b x : Int} {l : List GPeer} (hb : placeB b = true) (hp : ∀ p ∈ l, peerB b p = true) (hx : placeB x = true) : hasP b l x = hasI (namesP l) x := by
  unfold hasP hasI namesP
  rw [List.any_map]
  induction l with
  | nil => rfl
  | cons p l ih =>
    rw [List.any_cons, List.any_cons, ih fun q hq => hp q (List.mem_cons_of_mem _ hq)]
    congr 1
    have h1 := hp p (List.mem_cons_self ..)
    simp only [peerB, Bool.and_eq_true] at h1
    have := far_inj hb h1.1 hx
    simp only [Function.comp]
    exact decide_eq_decide.2 this
def refOdd (v : GView) (x : Int) : Bool := decide (x = v.id) || hasI (namesP v.peers) x
theorem odd_same {v : GView} {x : Int} (h1 : peersB v.id v.peers = true) (hx : placeB x = true) : oddV v x = refOdd v x := by
  have h := peersB_iff.1 h1
  unfold oddV refOdd
  rw [has_names h.1 h.2.2.2 hx]
theorem view_ref {v : GView} (h : ∀ x ∈ v.passive, refOdd v x = false) : viewB v = (peersB v.id v.peers && (passB v.passive && decide (v.peers.length + v.passive.length ≤ 16))) := by
  unfold viewB
  cases h1 : peersB v.id v.peers with
  | false => rfl
  | true =>
    cases h2 : passB v.passive with
    | false => rfl
    | true =>
      have : v.passive.any (oddV v) = false := by
        rw [List.any_eq_false]
        intro x hx
        rw [odd_same h1 ((passB_iff.1 h2).2.2 x hx), h x hx]
        simp
      rw [this]
      simp
theorem view_ref_no {v : GView} {x : Int} (hx : x ∈ v.passive) (h : refOdd v x = true) : viewB v = false := by
  refine viewB_no ?_
  rintro ⟨h1, h2, _, h4⟩
  have := List.any_eq_false.1 h4 x hx
  rw [odd_same h1 ((passB_iff.1 h2).2.2 x hx), h] at this
  simp at this
set_option maxHeartbeats 4000000 in
theorem k_refView : Known Tryz.prog tau 84 (S1 dView fun v => okB (viewB v)) := by
  refine known1 hmix tau_ok (ctx_cons k_refNames (ctx_cons k_has (ctx_cons k_refPeers (ctx_cons k_refPassMay ctx_nil)))) (fn := Tryz.f84) (by kernel_rfl) [(5, [(0, 0), (1, 1), (2, 0), (3, 6), (4, 8), (5, 0), (6, 32), (7, 80), (8, 128), (9, 256), (10, 256), (11, 1280), (12, 256), (13, 6400), (14, 8448), (15, 17152), (16, 33024)])] (by kernel_rfl) _ _ fun v hfit => ⟨rfl,
    [(3, invN [2, 4, 8, 9, 10, 11, 12, 13, 14, 15, 16, 17, 18, 19, 20, 21, 22, 23, 24, 25, 26, 27, 28, 29, 30, 31] (fun i => i ≤ v.passive.length ∧ ∀ x ∈ v.passive.take i, refOdd v x = false) (fun i => withS [(4, .int .i64 i)]) (fun i => v.passive.length - i))], ?_⟩
  have hp1 : v.peers.length * 16 ≤ 140737488355328 := hfit.1.2.1
  have hp2 : v.passive.length * 8 ≤ 140737488355328 := hfit.1.2.2.1
  clear hfit
  (repeat' (first | ((with_reducible refine BdI ?_); (first | ((with_reducible refine SqI ?_ (fun Kv hN hX hR => ?_)); (next => exact rfl)) | ((with_reducible refine JnI ?_ ?_); (next => exact rfl)) | (conv => whnf))) | (with_reducible first | refine BdS (fun Kv hN hX hR => ?_) | refine Stop.mk ?_ | refine Join.mk ⟨fun Kv hN hX hR => ?_, ?_⟩ | refine DrawJ.each ?_ | exact SubJ.self _) | with_reducible refine SubJ.of ?_ | (with_reducible first | refine FlS (fun Kf hF => ?_) | refine FlN ?_ | refine NdS (fun Kg hG => ?_) | (refine hF _ _ ?_; clear hF; clear Kf) | (refine hG _ _ _ _ ?_; clear hG; clear Kg)) | ((with_reducible refine SqI ?_ (fun Kv hN hX hR => ?_)); (next => exact rfl)) | ((with_reducible refine JnI ?_ ?_); (next => exact rfl)) | ((with_reducible first | refine hN _ ?_ | refine hX _ _ ?_ | refine hR _ ?_); (try (clear hG; clear Kg)); clear hN hX hR; clear Kv) | ((conv => whnf); first | (with_reducible first | rfl | exact True.intro | refine (fun (_ : (_ : Prop)) => ?_) | refine And.intro ?_ ?_) | ((with_reducible first | refine hN _ ?_ | refine hX _ _ ?_ | refine hR _ ?_); (try (clear hG; clear Kg)); clear hN hX hR; clear Kv) | (with_reducible first | refine BdS (fun Kv hN hX hR => ?_) | refine Stop.mk ?_ | refine Join.mk ⟨fun Kv hN hX hR => ?_, ?_⟩ | refine DrawJ.each ?_ | exact SubJ.self _) | with_reducible refine SubJ.of ?_ | (with_reducible first | refine FlS (fun Kf hF => ?_) | refine FlN ?_ | refine NdS (fun Kg hG => ?_) | (refine hF _ _ ?_; clear hF; clear Kf) | (refine hG _ _ _ _ ?_; clear hG; clear Kg))))); all_goals (conv => whnf); all_goals (repeat ((try (clear hG; clear Kg)); clear hN hX hR; clear Kv))
  all_goals first
    | (refine ⟨0, ⟨by omega, by simp⟩, ?_⟩
       (repeat' (first | ((with_reducible refine BdI ?_); (first | ((with_reducible refine SqI ?_ (fun Kv hN hX hR => ?_)); (next => exact rfl)) | ((with_reducible refine JnI ?_ ?_); (next => exact rfl)) | (conv => whnf))) | (with_reducible first | refine BdS (fun Kv hN hX hR => ?_) | refine Stop.mk ?_ | refine Join.mk ⟨fun Kv hN hX hR => ?_, ?_⟩ | refine DrawJ.each ?_ | exact SubJ.self _) | with_reducible refine SubJ.of ?_ | (with_reducible first | refine FlS (fun Kf hF => ?_) | refine FlN ?_ | refine NdS (fun Kg hG => ?_) | (refine hF _ _ ?_; clear hF; clear Kf) | (refine hG _ _ _ _ ?_; clear hG; clear Kg)) | ((with_reducible refine SqI ?_ (fun Kv hN hX hR => ?_)); (next => exact rfl)) | ((with_reducible refine JnI ?_ ?_); (next => exact rfl)) | ((with_reducible first | refine hN _ ?_ | refine hX _ _ ?_ | refine hR _ ?_); (try (clear hG; clear Kg)); clear hN hX hR; clear Kv) | ((conv => whnf); first | (with_reducible first | rfl | exact True.intro | intro _ | refine And.intro ?_ ?_) | ((with_reducible first | refine hN _ ?_ | refine hX _ _ ?_ | refine hR _ ?_); (try (clear hG; clear Kg)); clear hN hX hR; clear Kv) | (with_reducible first | refine BdS (fun Kv hN hX hR => ?_) | refine Stop.mk ?_ | refine Join.mk ⟨fun Kv hN hX hR => ?_, ?_⟩ | refine DrawJ.each ?_ | exact SubJ.self _) | with_reducible refine SubJ.of ?_ | (with_reducible first | refine FlS (fun Kf hF => ?_) | refine FlN ?_ | refine NdS (fun Kg hG => ?_) | (refine hF _ _ ?_; clear hF; clear Kf) | (refine hG _ _ _ _ ?_; clear hG; clear Kg))))); all_goals (conv => whnf); all_goals (repeat ((try (clear hG; clear Kg)); clear hN hX hR; clear Kv))
       all_goals rfl)
    | (with_reducible intro i hi
       (repeat' (first | ((with_reducible refine BdI ?_); (first | ((with_reducible refine SqI ?_ (fun Kv hN hX hR => ?_)); (next => exact rfl)) | ((with_reducible refine JnI ?_ ?_); (next => exact rfl)) | (conv => whnf))) | (with_reducible first | refine BdS (fun Kv hN hX hR => ?_) | refine Stop.mk ?_ | refine Join.mk ⟨fun Kv hN hX hR => ?_, ?_⟩ | refine DrawJ.each ?_ | exact SubJ.self _) | with_reducible refine SubJ.of ?_ | (with_reducible first | refine FlS (fun Kf hF => ?_) | refine FlN ?_ | refine NdS (fun Kg hG => ?_) | (refine hF _ _ ?_; clear hF; clear Kf) | (refine hG _ _ _ _ ?_; clear hG; clear Kg)) | ((with_reducible refine SqI ?_ (fun Kv hN hX hR => ?_)); (next => exact rfl)) | ((with_reducible refine JnI ?_ ?_); (next => exact rfl)) | ((with_reducible first | refine hN _ ?_ | refine hX _ _ ?_ | refine hR _ ?_); (try (clear hG; clear Kg)); clear hN hX hR; clear Kv) | ((conv => whnf); first | (with_reducible first | rfl | exact True.intro | intro _ | refine And.intro ?_ ?_) | ((with_reducible first | refine hN _ ?_ | refine hX _ _ ?_ | refine hR _ ?_); (try (clear hG; clear Kg)); clear hN hX hR; clear Kv) | (with_reducible first | refine BdS (fun Kv hN hX hR => ?_) | refine Stop.mk ?_ | refine Join.mk ⟨fun Kv hN hX hR => ?_, ?_⟩ | refine DrawJ.each ?_ | exact SubJ.self _) | with_reducible refine SubJ.of ?_ | (with_reducible first | refine FlS (fun Kf hF => ?_) | refine FlN ?_ | refine NdS (fun Kg hG => ?_) | (refine hF _ _ ?_; clear hF; clear Kf) | (refine hG _ _ _ _ ?_; clear hG; clear Kg))))); all_goals (conv => whnf); all_goals (repeat ((try (clear hG; clear Kg)); clear hN hX hR; clear Kv))
       all_goals (try simp only [Int.toNat_natCast] at *)
       all_goals first
         | exact Ob.mk ⟨by omega, of_decide_eq_true (by with_reducible assumption)⟩
         | (have h := of_decide_eq_true (show decide ((i : Int) < (v.passive.length : Nat)) = true by with_reducible assumption)
            have hm : decide (v.passive.getD i 0 = v.id) = true := by with_reducible assumption
            exact (view_ref_no (x := v.passive.getD i 0) (getD_mem (by omega)) (by unfold refOdd; rw [hm, Bool.true_or])).symm)
         | (have h := of_decide_eq_true (show decide ((i : Int) < (v.passive.length : Nat)) = true by with_reducible assumption)
            have hm : hasI (namesP v.peers) (v.passive.getD i 0) = true := by with_reducible assumption
            exact (view_ref_no (x := v.passive.getD i 0) (getD_mem (by omega)) (by unfold refOdd; rw [hm, Bool.or_true])).symm)
         | (have h := of_decide_eq_true (show decide ((i : Int) < (v.passive.length : Nat)) = true by with_reducible assumption)
            have hm : decide (v.passive.getD i 0 = v.id) = false := by with_reducible assumption
            have hm2 : hasI (namesP v.peers) (v.passive.getD i 0) = false := by with_reducible assumption
            refine ⟨i + 1, ⟨by omega, all_take_succ (d := 0) (by omega) hi.2 (by unfold refOdd; rw [hm, hm2]; rfl)⟩, by show v.passive.length - (i + 1) < v.passive.length - i; omega, ?_⟩
            (repeat' (first | ((with_reducible refine BdI ?_); (first | ((with_reducible refine SqI ?_ (fun Kv hN hX hR => ?_)); (next => exact rfl)) | ((with_reducible refine JnI ?_ ?_); (next => exact rfl)) | (conv => whnf))) | (with_reducible first | refine BdS (fun Kv hN hX hR => ?_) | refine Stop.mk ?_ | refine Join.mk ⟨fun Kv hN hX hR => ?_, ?_⟩ | refine DrawJ.each ?_ | exact SubJ.self _) | with_reducible refine SubJ.of ?_ | (with_reducible first | refine FlS (fun Kf hF => ?_) | refine FlN ?_ | refine NdS (fun Kg hG => ?_) | (refine hF _ _ ?_; clear hF; clear Kf) | (refine hG _ _ _ _ ?_; clear hG; clear Kg)) | ((with_reducible refine SqI ?_ (fun Kv hN hX hR => ?_)); (next => exact rfl)) | ((with_reducible refine JnI ?_ ?_); (next => exact rfl)) | ((with_reducible first | refine hN _ ?_ | refine hX _ _ ?_ | refine hR _ ?_); (try (clear hG; clear Kg)); clear hN hX hR; clear Kv) | ((conv => whnf); first | (with_reducible first | rfl | exact True.intro | intro _ | refine And.intro ?_ ?_) | ((with_reducible first | refine hN _ ?_ | refine hX _ _ ?_ | refine hR _ ?_); (try (clear hG; clear Kg)); clear hN hX hR; clear Kv) | (with_reducible first | refine BdS (fun Kv hN hX hR => ?_) | refine Stop.mk ?_ | refine Join.mk ⟨fun Kv hN hX hR => ?_, ?_⟩ | refine DrawJ.each ?_ | exact SubJ.self _) | with_reducible refine SubJ.of ?_ | (with_reducible first | refine FlS (fun Kf hF => ?_) | refine FlN ?_ | refine NdS (fun Kg hG => ?_) | (refine hF _ _ ?_; clear hF; clear Kf) | (refine hG _ _ _ _ ?_; clear hG; clear Kg))))); all_goals (conv => whnf); all_goals (repeat ((try (clear hG; clear Kg)); clear hN hX hR; clear Kv))
            all_goals first
              | exact wrapI (by omega) (by omega)
              | rfl)
         | (have h := of_decide_eq_false (show decide ((i : Int) < (v.passive.length : Nat)) = false by with_reducible assumption)
            have h2 := hi.2
            rw [List.take_of_length_le (by omega)] at h2
            have e1 : IntKind.i64.wrap ((v.peers.length : Int) + (v.passive.length : Int)) = v.peers.length + v.passive.length := wrapI (by omega) (by omega)
            (try rw [e1])
            rw [view_ref h2]
            first
              | (rw [show peersB v.id v.peers = false by with_reducible assumption]; rfl)
              | (rw [show peersB v.id v.peers = true by with_reducible assumption, show passB v.passive = false by with_reducible assumption]; rfl)
              | (rw [show peersB v.id v.peers = true by with_reducible assumption, show passB v.passive = true by with_reducible assumption, Bool.true_and, Bool.true_and]
                 exact decide_eq_decide.2 (by omega)))
         | trace_state)
    | trace_state
theorem nodeB_down {x : GNode} (h : x.up = false) : nodeB x = (decide (x.view.peers.length + x.view.passive.length + x.items.length + x.log.length = 0) && placeB x.view.id) := by
  obtain ⟨up, ⟨id, ps, qs⟩, is, lg⟩ := x
  obtain rfl : up = false := h
  unfold nodeB
  by_cases h0 : ps.length + qs.length + is.length + lg.length = 0
  · obtain rfl : ps = [] := List.eq_nil_of_length_eq_zero (by omega)
    obtain rfl : qs = [] := List.eq_nil_of_length_eq_zero (by omega)
    obtain rfl : is = [] := List.eq_nil_of_length_eq_zero (by omega)
    obtain rfl : lg = [] := List.eq_nil_of_length_eq_zero (by omega)
    simp [viewB, peersB, passB, storeB]
  · simp only [decide_eq_false h0, Bool.false_or, Bool.and_false, Bool.false_and]
theorem nodeB_up {x : GNode} (h : x.up = true) : nodeB x = (viewB x.view && (storeB x.items && (decide (x.log.length ≤ 64) && x.log.all toldB))) := by
  unfold nodeB
  rw [h, Bool.true_or, Bool.and_true]
theorem k_refByte16 : Known Tryz.prog tau 109 (S1 dInt fun x => okB (placeB x)) := by
  refine known1 hmix tau_ok ctx_nil (fn := Tryz.f109) (by kernel_rfl) [] (by kernel_rfl) _ _ fun x hfit => ⟨rfl, [], ?_⟩
  (repeat' (first | ((with_reducible refine BdI ?_); (first | ((with_reducible refine SqI ?_ (fun Kv hN hX hR => ?_)); (next => exact rfl)) | ((with_reducible refine JnI ?_ ?_); (next => exact rfl)) | (conv => whnf))) | (with_reducible first | refine BdS (fun Kv hN hX hR => ?_) | refine Stop.mk ?_ | refine Join.mk ⟨fun Kv hN hX hR => ?_, ?_⟩ | refine DrawJ.each ?_ | exact SubJ.self _) | with_reducible refine SubJ.of ?_ | (with_reducible first | refine FlS (fun Kf hF => ?_) | refine FlN ?_ | refine NdS (fun Kg hG => ?_) | (refine hF _ _ ?_; clear hF; clear Kf) | (refine hG _ _ _ _ ?_; clear hG; clear Kg)) | ((with_reducible refine SqI ?_ (fun Kv hN hX hR => ?_)); (next => exact rfl)) | ((with_reducible refine JnI ?_ ?_); (next => exact rfl)) | ((with_reducible first | refine hN _ ?_ | refine hX _ _ ?_ | refine hR _ ?_); (try (clear hG; clear Kg)); clear hN hX hR; clear Kv) | ((conv => whnf); first | (with_reducible first | rfl | exact True.intro | intro _ | refine And.intro ?_ ?_) | ((with_reducible first | refine hN _ ?_ | refine hX _ _ ?_ | refine hR _ ?_); (try (clear hG; clear Kg)); clear hN hX hR; clear Kv) | (with_reducible first | refine BdS (fun Kv hN hX hR => ?_) | refine Stop.mk ?_ | refine Join.mk ⟨fun Kv hN hX hR => ?_, ?_⟩ | refine DrawJ.each ?_ | exact SubJ.self _) | with_reducible refine SubJ.of ?_ | (with_reducible first | refine FlS (fun Kf hF => ?_) | refine FlN ?_ | refine NdS (fun Kg hG => ?_) | (refine hF _ _ ?_; clear hF; clear Kf) | (refine hG _ _ _ _ ?_; clear hG; clear Kg))))); all_goals (conv => whnf); all_goals (repeat ((try (clear hG; clear Kg)); clear hN hX hR; clear Kv))
  all_goals simp_all [placeB]
  all_goals omega
set_option maxHeartbeats 4000000 in
theorem k_refNode : Known Tryz.prog tau 69 (S1 dNode fun x => okB (nodeB x)) := by
  refine known1 hmix tau_ok (ctx_cons k_refPlace (ctx_cons k_refView (ctx_cons k_refByte16 (ctx_cons k_refStore ctx_nil)))) (fn := Tryz.f69) (by kernel_rfl) [] (by kernel_rfl) _ _ fun x hfit => ⟨rfl,
    [(4, invN (2 :: 3 :: 4 :: 32 :: 33 :: 34 :: 35 :: 36 :: 37 :: 38 :: 39 :: 40 :: 41 :: 42 :: 43 :: 44 :: 45 :: 46 :: 47 :: 48 :: 49 :: 50 :: 51 :: 52 :: 53 :: 54 :: 55 :: 56 :: 57 :: 58 :: 59 :: 60 :: 61 :: 62 :: 63 :: []) (fun i => i ≤ x.log.length ∧ ∀ t ∈ x.log.take i, toldB t = true) (fun i => withS [(3, .int .i64 i)]) (fun i => x.log.length - i))], ?_⟩
  have hp1 : x.view.peers.length * 16 ≤ 140737488355328 := hfit.1.2.2.1
  have hp2 : x.view.passive.length * 8 ≤ 140737488355328 := hfit.1.2.2.2.1
  have hp3 : x.items.length * 40 ≤ 140737488355328 := hfit.1.2.2.2.2.1
  have hp4 : x.log.length * 24 ≤ 140737488355328 := hfit.1.2.2.2.2.2.1
  clear hfit
  have e1 : IntKind.i64.wrap (IntKind.i64.wrap (IntKind.i64.wrap ((x.view.peers.length : Int) + (x.view.passive.length : Int)) + (x.items.length : Int)) + (x.log.length : Int)) = ((x.view.peers.length + x.view.passive.length + x.items.length + x.log.length : Nat) : Int) := by
    rw [wrapI (n := (x.view.peers.length : Int) + (x.view.passive.length : Int)) (by omega) (by omega), wrapI (n := (x.view.peers.length : Int) + (x.view.passive.length : Int) + (x.items.length : Int)) (by omega) (by omega), wrapI (by omega) (by omega)]
    omega
  (repeat' (first | ((with_reducible refine BdI ?_); (first | ((with_reducible refine SqI ?_ (fun Kv hN hX hR => ?_)); (next => exact rfl)) | ((with_reducible refine JnI ?_ ?_); (next => exact rfl)) | (conv => whnf))) | (with_reducible first | refine BdS (fun Kv hN hX hR => ?_) | refine Stop.mk ?_ | refine Join.mk ⟨fun Kv hN hX hR => ?_, ?_⟩ | refine DrawJ.each ?_ | exact SubJ.self _) | with_reducible refine SubJ.of ?_ | (with_reducible first | refine FlS (fun Kf hF => ?_) | refine FlN ?_ | refine NdS (fun Kg hG => ?_) | (refine hF _ _ ?_; clear hF; clear Kf) | (refine hG _ _ _ _ ?_; clear hG; clear Kg)) | ((with_reducible refine SqI ?_ (fun Kv hN hX hR => ?_)); (next => exact rfl)) | ((with_reducible refine JnI ?_ ?_); (next => exact rfl)) | ((with_reducible first | refine hN _ ?_ | refine hX _ _ ?_ | refine hR _ ?_); (try (clear hG; clear Kg)); clear hN hX hR; clear Kv) | ((conv => whnf); first | (with_reducible first | rfl | exact True.intro | refine (fun (_ : (_ : Prop)) => ?_) | refine And.intro ?_ ?_) | ((with_reducible first | refine hN _ ?_ | refine hX _ _ ?_ | refine hR _ ?_); (try (clear hG; clear Kg)); clear hN hX hR; clear Kv) | (with_reducible first | refine BdS (fun Kv hN hX hR => ?_) | refine Stop.mk ?_ | refine Join.mk ⟨fun Kv hN hX hR => ?_, ?_⟩ | refine DrawJ.each ?_ | exact SubJ.self _) | with_reducible refine SubJ.of ?_ | (with_reducible first | refine FlS (fun Kf hF => ?_) | refine FlN ?_ | refine NdS (fun Kg hG => ?_) | (refine hF _ _ ?_; clear hF; clear Kf) | (refine hG _ _ _ _ ?_; clear hG; clear Kg))))); all_goals (conv => whnf); all_goals (repeat ((try (clear hG; clear Kg)); clear hN hX hR; clear Kv))
  all_goals (try simp only [e1] at *)
  all_goals first
    | (have h1 := nf (show (!x.up) = true by with_reducible assumption)
       rw [nodeB_down h1]
       first
         | (have h2 := of_decide_eq_true (show decide (((x.view.peers.length + x.view.passive.length + x.items.length + x.log.length : Nat) : Int) = 0) = true by with_reducible assumption)
            rw [decide_eq_true (show x.view.peers.length + x.view.passive.length + x.items.length + x.log.length = 0 by omega), Bool.true_and])
         | (have h2 := of_decide_eq_false (show decide (((x.view.peers.length + x.view.passive.length + x.items.length + x.log.length : Nat) : Int) = 0) = false by with_reducible assumption)
            rw [decide_eq_false (show ¬ x.view.peers.length + x.view.passive.length + x.items.length + x.log.length = 0 by omega), Bool.false_and])
         | trace_state)
    | (refine ⟨0, ⟨by omega, by simp⟩, ?_⟩
       (repeat' (first | ((with_reducible refine BdI ?_); (first | ((with_reducible refine SqI ?_ (fun Kv hN hX hR => ?_)); (next => exact rfl)) | ((with_reducible refine JnI ?_ ?_); (next => exact rfl)) | (conv => whnf))) | (with_reducible first | refine BdS (fun Kv hN hX hR => ?_) | refine Stop.mk ?_ | refine Join.mk ⟨fun Kv hN hX hR => ?_, ?_⟩ | refine DrawJ.each ?_ | exact SubJ.self _) | with_reducible refine SubJ.of ?_ | (with_reducible first | refine FlS (fun Kf hF => ?_) | refine FlN ?_ | refine NdS (fun Kg hG => ?_) | (refine hF _ _ ?_; clear hF; clear Kf) | (refine hG _ _ _ _ ?_; clear hG; clear Kg)) | ((with_reducible refine SqI ?_ (fun Kv hN hX hR => ?_)); (next => exact rfl)) | ((with_reducible refine JnI ?_ ?_); (next => exact rfl)) | ((with_reducible first | refine hN _ ?_ | refine hX _ _ ?_ | refine hR _ ?_); (try (clear hG; clear Kg)); clear hN hX hR; clear Kv) | ((conv => whnf); first | (with_reducible first | rfl | exact True.intro | intro _ | refine And.intro ?_ ?_) | ((with_reducible first | refine hN _ ?_ | refine hX _ _ ?_ | refine hR _ ?_); (try (clear hG; clear Kg)); clear hN hX hR; clear Kv) | (with_reducible first | refine BdS (fun Kv hN hX hR => ?_) | refine Stop.mk ?_ | refine Join.mk ⟨fun Kv hN hX hR => ?_, ?_⟩ | refine DrawJ.each ?_ | exact SubJ.self _) | with_reducible refine SubJ.of ?_ | (with_reducible first | refine FlS (fun Kf hF => ?_) | refine FlN ?_ | refine NdS (fun Kg hG => ?_) | (refine hF _ _ ?_; clear hF; clear Kf) | (refine hG _ _ _ _ ?_; clear hG; clear Kg))))); all_goals (conv => whnf); all_goals (repeat ((try (clear hG; clear Kg)); clear hN hX hR; clear Kv))
       all_goals rfl)
    | (with_reducible intro i hi
       have hup := nt (show (!x.up) = false by with_reducible assumption)
       (repeat' (first | ((with_reducible refine BdI ?_); (first | ((with_reducible refine SqI ?_ (fun Kv hN hX hR => ?_)); (next => exact rfl)) | ((with_reducible refine JnI ?_ ?_); (next => exact rfl)) | (conv => whnf))) | (with_reducible first | refine BdS (fun Kv hN hX hR => ?_) | refine Stop.mk ?_ | refine Join.mk ⟨fun Kv hN hX hR => ?_, ?_⟩ | refine DrawJ.each ?_ | exact SubJ.self _) | with_reducible refine SubJ.of ?_ | (with_reducible first | refine FlS (fun Kf hF => ?_) | refine FlN ?_ | refine NdS (fun Kg hG => ?_) | (refine hF _ _ ?_; clear hF; clear Kf) | (refine hG _ _ _ _ ?_; clear hG; clear Kg)) | ((with_reducible refine SqI ?_ (fun Kv hN hX hR => ?_)); (next => exact rfl)) | ((with_reducible refine JnI ?_ ?_); (next => exact rfl)) | ((with_reducible first | refine hN _ ?_ | refine hX _ _ ?_ | refine hR _ ?_); (try (clear hG; clear Kg)); clear hN hX hR; clear Kv) | ((conv => whnf); first | (with_reducible first | rfl | exact True.intro | intro _ | refine And.intro ?_ ?_) | ((with_reducible first | refine hN _ ?_ | refine hX _ _ ?_ | refine hR _ ?_); (try (clear hG; clear Kg)); clear hN hX hR; clear Kv) | (with_reducible first | refine BdS (fun Kv hN hX hR => ?_) | refine Stop.mk ?_ | refine Join.mk ⟨fun Kv hN hX hR => ?_, ?_⟩ | refine DrawJ.each ?_ | exact SubJ.self _) | with_reducible refine SubJ.of ?_ | (with_reducible first | refine FlS (fun Kf hF => ?_) | refine FlN ?_ | refine NdS (fun Kg hG => ?_) | (refine hF _ _ ?_; clear hF; clear Kf) | (refine hG _ _ _ _ ?_; clear hG; clear Kg))))); all_goals (conv => whnf); all_goals (repeat ((try (clear hG; clear Kg)); clear hN hX hR; clear Kv))
       all_goals (try simp only [Int.toNat_natCast, etaView] at *)
       all_goals first
         | exact Ob.mk ⟨by omega, of_decide_eq_true (by with_reducible assumption)⟩
         | (have h := of_decide_eq_true (show decide ((i : Int) < (x.log.length : Nat)) = true by with_reducible assumption)
            have hm : toldB (x.log.getD i default) = true := by
              simp_all [toldB]
              done
            refine ⟨i + 1, ⟨by omega, all_take_succ (d := default) (by omega) hi.2 hm⟩, by show x.log.length - (i + 1) < x.log.length - i; omega, ?_⟩
            (repeat' (first | ((with_reducible refine BdI ?_); (first | ((with_reducible refine SqI ?_ (fun Kv hN hX hR => ?_)); (next => exact rfl)) | ((with_reducible refine JnI ?_ ?_); (next => exact rfl)) | (conv => whnf))) | (with_reducible first | refine BdS (fun Kv hN hX hR => ?_) | refine Stop.mk ?_ | refine Join.mk ⟨fun Kv hN hX hR => ?_, ?_⟩ | refine DrawJ.each ?_ | exact SubJ.self _) | with_reducible refine SubJ.of ?_ | (with_reducible first | refine FlS (fun Kf hF => ?_) | refine FlN ?_ | refine NdS (fun Kg hG => ?_) | (refine hF _ _ ?_; clear hF; clear Kf) | (refine hG _ _ _ _ ?_; clear hG; clear Kg)) | ((with_reducible refine SqI ?_ (fun Kv hN hX hR => ?_)); (next => exact rfl)) | ((with_reducible refine JnI ?_ ?_); (next => exact rfl)) | ((with_reducible first | refine hN _ ?_ | refine hX _ _ ?_ | refine hR _ ?_); (try (clear hG; clear Kg)); clear hN hX hR; clear Kv) | ((conv => whnf); first | (with_reducible first | rfl | exact True.intro | intro _ | refine And.intro ?_ ?_) | ((with_reducible first | refine hN _ ?_ | refine hX _ _ ?_ | refine hR _ ?_); (try (clear hG; clear Kg)); clear hN hX hR; clear Kv) | (with_reducible first | refine BdS (fun Kv hN hX hR => ?_) | refine Stop.mk ?_ | refine Join.mk ⟨fun Kv hN hX hR => ?_, ?_⟩ | refine DrawJ.each ?_ | exact SubJ.self _) | with_reducible refine SubJ.of ?_ | (with_reducible first | refine FlS (fun Kf hF => ?_) | refine FlN ?_ | refine NdS (fun Kg hG => ?_) | (refine hF _ _ ?_; clear hF; clear Kf) | (refine hG _ _ _ _ ?_; clear hG; clear Kg))))); all_goals (conv => whnf); all_goals (repeat ((try (clear hG; clear Kg)); clear hN hX hR; clear Kv))
            all_goals first
              | exact wrapI (by omega) (by omega)
              | rfl)
         | (have h := of_decide_eq_true (show decide ((i : Int) < (x.log.length : Nat)) = true by with_reducible assumption)
            have hm : toldB (x.log.getD i default) = false := by
              simp_all [toldB]
              done
            rw [nodeB_up hup, List.all_eq_false.2 ⟨x.log.getD i default, getD_mem (d := default) (by omega), by rw [hm]; simp⟩]
            simp
            done)
         | (have h := of_decide_eq_false (show decide ((i : Int) < (x.log.length : Nat)) = false by with_reducible assumption)
            have h2 := hi.2
            rw [List.take_of_length_le (by omega)] at h2
            rw [nodeB_up hup, List.all_eq_true.2 h2, Bool.and_true]
            first
              | (rw [show viewB x.view = false by with_reducible assumption]; rfl)
              | (rw [show viewB x.view = true by with_reducible assumption, show storeB x.items = false by with_reducible assumption]; rfl)
              | (rw [show viewB x.view = true by with_reducible assumption, show storeB x.items = true by with_reducible assumption, Bool.true_and, Bool.true_and]
                 exact decide_eq_decide.2 (by omega)))
         | trace_state)
    | trace_state
end Go.Proofs.YtmhieddhmebfhaaGreat

/- Contracts: a new node: the document's; comparisons. -/
namespace Go.Proofs.YtmhieddhmebfhaaGreat
open Go.RowKit
set_option maxRecDepth 20000

end Go.Proofs.YtmhieddhmebfhaaGreat

/- A symbolic executor for loaded Go code: the library's Grow of nil. -/
namespace Go.Proofs.YtmhieddhmebfhaaGreat
open Go.RowKit

section
variable {P : Program} {τ : Tys}
/-- What is known of slices.Grow of nil at one type: its walk. -/
structure GrowW (P : Program) (f : FuncId) (e : TypeId) (sz bts : Nat) : Prop where
  ent : Enters P f
  run : ∀ (n : Nat) (w : World), n * bts ≤ 140737488355328 → Calls P f #[.slice none 0 0, .int .i64 n] w fun x w' => ∃ v', x = .returned v' ∧ w'.ownsRow w.heap.size e sz v' 0 [] ∧ Below w.heap.size w w'
theorem mkEmpty_kd {k : Nat} (h : k < 12) : (mkEmpty k).kd = k := by
  match k, h with
  | 0, _ | 1, _ | 2, _ | 3, _ | 4, _ | 5, _ | 6, _ | 7, _ | 8, _ | 9, _ | 10, _ | 11, _ => rfl
/-- Nil, grown: a row of one's own under key dep + q, without elements. -/
def growT (kd q : Nat) : CallT := fun args s K => match args, s with
  | [.nilS _, .int .i64 n], ⟨fr, stk, bx, rw, dep⟩ => match St.has (own0 (dep + q)) ⟨fr, stk, bx, rw, dep⟩ with
    | false => Ob (0 ≤ n ∧ n * kdBytes kd ≤ 140737488355328) ∧ (0 ≤ n ∧ n * kdBytes kd ≤ 140737488355328 → K (.own (dep + q)) ⟨fr, stk, bx, upd rw (dep + q) (.own (mkEmpty kd)), dep⟩)
    | true => False
  | _, _ => False
theorem grow_tr {f kd : Nat} (q : Nat) (hkd : kd < 12) (hW : GrowW P f (τ.et kd) (kdSz kd) (kdBytes kd)) : TrKnown P τ f (growT kd q) := by
  refine ⟨hW.ent, ?_⟩
  intro w0 E s aS w args vals K hd hargs hT
  obtain ⟨fr, stk, bx, rw', dep⟩ := s
  unfold growT at hT
  split at hT
  rotate_left
  · exact hT.elim
  rename_i r n fr' stk' bx' rw2 dep' hs
  injection hs with e1 e2 e3 e4 e5
  subst e1; subst e2; subst e3; subst e4; subst e5
  obtain ⟨v, vs, rfl, h1, h2⟩ := hargs.inv_cons
  obtain ⟨v2, vs, rfl, h3, h4⟩ := h2.inv_cons
  obtain rfl := h4.inv_nil
  obtain ⟨rfl, hr0⟩ : v = .slice none 0 0 ∧ r.len = 0 := h1
  obtain rfl : v2 = .int .i64 n := h3
  split at hT
  rotate_left
  · exact hT.elim
  rename_i hno
  obtain ⟨hob, hT⟩ := hT
  obtain ⟨hn0, hnb⟩ := hob.out
  obtain ⟨m, rfl⟩ := Int.eq_ofNat_of_zero_le hn0
  have hmb : m * kdBytes kd ≤ 140737488355328 := by
    have : ((m * kdBytes kd : Nat) : Int) ≤ 140737488355328 := by rw [Int.natCast_mul]; exact hnb
    omega
  refine (hW.run m w hmb).mono ?_
  rintro e w' ⟨v', rfl, ho, hB⟩
  have hg : w.grownBy w' none := ⟨hB.os, hB.tape, hB.output, hB.size, fun k hk _ => hB.block k hk⟩
  have hk := mkEmpty_kd hkd
  have hl := len_mkEmpty kd
  refine ⟨v', _, _, E.add (dep + q) v', rfl, hT ⟨hn0, hnb⟩, hd.newRow (dep + q) hno w' hg v' (.own (mkEmpty kd)) (mkEmpty kd).len (mkEmpty kd) rfl [] (fun g hg => ho.lt g hg) ?_ ?_ ?_, rfl, Nat.le_refl _, ?_⟩
  · rw [hl]; simp
  · rw [hk, hl]
    unfold Rw.sz
    rw [hk]
    exact ownsRow_less hd.Mh ho
  · intro i j x hi
    rw [hl] at hi
    omega
  · simp [vd3, vd2, vd1, vd0, lk_upd, Env.add]
end
end Go.Proofs.YtmhieddhmebfhaaGreat

/- slices.Clone at one type: its walk. -/
namespace Go.Proofs.YtmhieddhmebfhaaGreat
open Go.RowKit
set_option maxHeartbeats 1000000 in
theorem w_ClonePeers : CloneW Tryz.prog 114 94 2 16 := by
  obtain ⟨hk10, het, ti, hti, hsz, hby, _⟩ := tau_ok.rk 94 3 (by kernel_rfl)
  obtain ⟨x0, z, g1, g2, g3, g4, g5, g6⟩ := (tau_ok.ti _ ti hti).info
  have g2 : x0.size = 2 := g2.trans hsz
  have g3 : x0.bytes = 16 := g3.trans hby
  have g5 : z.cells.size = 2 := g5.trans hsz
  clear hk10 het g6
  have t22 : Tryz.prog.underlying 22 = some (.slice 94) := Tryz.underlying22
  have q22 : ∀ (w : World) (a : Option Addr) (n c n' c' : Nat), (binOp .eql 22 (.slice a n c) (.slice none n' c')).run Tryz.prog w = .ok (.bool a.isNone) w := fun w a n c n' c' => Lib.run_eql_slice_nil w _ _ a n c n' c' t22
  refine ⟨fnOk_enters (fn := Tryz.f114) (D := []) (by kernel_rfl) (by kernel_rfl), fun n c w => ?_, fun ad n c news w hl hn hbig hc h1 => ?_⟩
  · go_enter Tryz.func114, Tryz.ntmps114
    go_wp2
    go_ret
    exact ⟨rfl, rfl⟩
  · have A : Aside (∀ j u, news[j]? = some u → w.cell? (ad.add j) = some u) := hc
    clear hc
    go_enter Tryz.func114, Tryz.ntmps114
    go_wp2_with (at_builtin; refine wpList_append_own _ rfl _ _ 22 rfl w.heap.size 94 x0 z 2 16 t22 g1 g4 g2 g3 g5 (by decide) _ _ _ rfl (World.ownsRow_made w #[] 0 (Nat.le_refl _) (Nat.zero_le _) (by simp)) ad n c news rfl ?qc1 ?qc2 ?qc3 ?qc4 ?qc5 ?qc6 ?_)
    case qc1 => exact hl
    case qc2 =>
      intro j u hj
      exact Lib.cell?_alloc_some _ (A.out j u hj)
    case qc3 => exact h1
    case qc4 => rw [Nat.zero_add]; exact hn
    case qc5 => rw [Nat.zero_add]; exact hbig
    case qc6 => simp
    intro v' w1 hown hgrow hnil
    go_wp2
    go_ret
    refine ⟨v', rfl, by simpa using hown, ?_⟩
    exact ((Below.refl _ w).alloc (Nat.le_refl _) _).grown hgrow (by simp) (by intro k hk; simp [Value.ownBlock] at hk; omega)
theorem k_ClonePeers : Known Tryz.prog tau 114 (S1 dPeers fun l => .ok (.own 0) [.peers l]) := clone_known dPeers .peers (fun _ => rfl) (fun _ => rfl) (kd := 3) (fun _ => rfl) w_ClonePeers
end Go.Proofs.YtmhieddhmebfhaaGreat

/- Contracts: Grow of nil, Concat of rows of ints; Ids; Copy of a view. -/
namespace Go.Proofs.YtmhieddhmebfhaaGreat
open Go.RowKit
set_option maxRecDepth 20000
set_option maxHeartbeats 4000000 in
set_option maxRecDepth 1000000 in
theorem w_GrowInts : GrowW Tryz.prog 120 3 1 8 := by
  refine ⟨fnOk_enters (fn := Tryz.f120) (D := []) (by kernel_rfl) (by kernel_rfl), fun n w hb => ?_⟩
  obtain ⟨hk10, het, ti, hti, hsz, hby, _⟩ := tau_ok.rk 3 0 (by kernel_rfl)
  obtain ⟨x0, z, g1, g2, g3, g4, g5, g6⟩ := (tau_ok.ti _ ti hti).info
  have g2 : x0.size = 1 := g2.trans hsz
  have g3 : x0.bytes = 8 := g3.trans hby
  have g5 : z.cells.size = 1 := g5.trans hsz
  clear hk10 het g6
  have t22 : Tryz.prog.underlying 23 = some (.slice 3) := Tryz.underlying23
  have tI : Tryz.prog.underlying 3 = some (.int .i64) := Tryz.underlying3
  by_cases h0 : n = 0
  · subst h0
    clear g1 g2 g3 g4 g5 hti hsz hby
    go_enter Tryz.func120, Tryz.ntmps120
    go_wp2
    go_ret
    exact ⟨_, rfl, World.ownsRow_nil _ _ _ _, Below.refl _ _⟩
  · have hn0 : 0 < n := by omega
    have hrz : ∀ ty, (Builtin.append_ #[23, 3] ty #[.slice none 0 0, .int .i64 (n : Int)]).run Tryz.prog w = .ok (.slice (some ⟨w.heap.size, 0, none⟩) n (grownCap w n 0 3)) (w.drew.alloc (.cells (Builtin.zeroCells z.cells n ++ Builtin.zeroCells z.cells (grownCap w n 0 3 - n)) 3)) := fun ty =>
      Lib.run_append_nil_zeros w 23 3 ty 3 x0 z .i64 .i64 t22 tI g1 g4 n hn0 (by rw [g2]; decide) (by omega) (by rw [g3]; omega)
    obtain ⟨G, hG⟩ : ∃ G, G = grownCap w n 0 3 := ⟨_, rfl⟩
    rw [← hG] at hrz
    have hGn : n ≤ G := by rw [hG]; exact grownCap_ge w _ _ _
    have hGm : G ≤ maxLen := by rw [hG]; exact grownCap_le_maxLen w n 0 3 (by unfold maxLen; omega)
    obtain ⟨ROW, hROW⟩ : ∃ ROW : Array Value, ROW = Builtin.zeroCells z.cells n ++ Builtin.zeroCells z.cells (G - n) := ⟨_, rfl⟩
    rw [← hROW] at hrz
    have hRs : ROW.size = G * 1 := by
      rw [hROW]
      simp [Builtin.zeroCells, g5]
      omega
    have hnz : ¬ ((n : Int) < 0) := by omega
    have hw0 : IntKind.i64.wrap ((n : Int) - 0) = n := wrapI (by omega) (by omega)
    have hpos : (0 : Int) < (n : Int) := by omega
    have hGi : (0 : Int) ≤ (G : Int) := by omega
    clear g1 g2 g3 g4 g5 hti hsz hby hG hROW
    go_enter Tryz.func120, Tryz.ntmps120
    go_wp2_with (at_builtin; refine Lib.wpList_append_run _ rfl _ _ _ _ rfl _ _ rfl rfl _ _ (hrz _) ?_)
    go_wp2
    go_ret
    refine ⟨.slice (some ⟨w.heap.size, 0, none⟩) 0 G, rfl, ⟨rfl, .inr ⟨w.heap.size, G, ROW, rfl, Nat.le_refl _, ?_, Nat.zero_le _, hGm, hRs, by simp⟩⟩, ?_⟩
    · exact Array.getElem?_push_size
    · exact ((Below.refl _ w).drew).alloc (Nat.le_refl _) _
theorem t_GrowInts : TrKnown Tryz.prog tau 120 (growT 0 24) := grow_tr 24 (by decide) w_GrowInts
theorem flat_succ {l : List (List Int)} {i : Nat} (h : i < l.length) : (l.take (i + 1)).flatten = (l.take i).flatten ++ l.getD i [] := by
  rw [List.take_succ_eq_append_getElem h, List.flatten_append]
  simp [List.getD_eq_getElem?_getD, h]
theorem flat_le (l : List (List Int)) (i : Nat) : (l.take i).flatten.length ≤ l.flatten.length := by
  conv => rhs; rw [← List.take_append_drop i l, List.flatten_append, List.length_append]
  omega
theorem k_Concat : Known Tryz.prog tau 81 (S1 dIntss fun l => .ob (l.flatten.length * 8 ≤ 140737488355328) (.own 0) [.ints l.flatten]) := by
  refine knownX1 hmix tau_ok (fn := Tryz.f81) (by kernel_rfl) [] (by kernel_rfl) _ _ fun l hfit hs => ⟨rfl, _, ctx_tr t_GrowInts ctx_nil,
    [(3, invN [3, 5, 11, 12, 13, 14, 15, 16, 17, 18, 19, 20, 21, 22] (fun i => i ≤ l.length) (fun i => withS [(11, .int .i64 i), (3, .int .i64 (l.take i).flatten.length)]) (fun i => l.length - i)),
     (11, invX Nat (24 :: [6, 8, 27, 28, 29, 30, 31, 32, 33, 34]) [] (fun i => i ≤ l.length) (fun i => fun st => withS [(27, .int .i64 i), (6, .own 24)] (withR [(24, .own (.ints (l.take i).flatten))] st)) (fun i => l.length - i))], ?_⟩
  have hlen : l.length * 24 ≤ 140737488355328 := hfit.1.1
  clear hfit
  (repeat' (first | ((with_reducible refine BdI ?_); (first | ((with_reducible refine SqI ?_ (fun Kv hN hX hR => ?_)); (next => exact rfl)) | ((with_reducible refine JnI ?_ ?_); (next => exact rfl)) | (conv => whnf))) | (with_reducible first | refine BdS (fun Kv hN hX hR => ?_) | refine Stop.mk ?_ | refine Join.mk ⟨fun Kv hN hX hR => ?_, ?_⟩ | refine DrawJ.each ?_ | exact SubJ.self _) | with_reducible refine SubJ.of ?_ | (with_reducible first | refine FlS (fun Kf hF => ?_) | refine FlN ?_ | refine NdS (fun Kg hG => ?_) | (refine hF _ _ ?_; clear hF; clear Kf) | (refine hG _ _ _ _ ?_; clear hG; clear Kg)) | ((with_reducible refine SqI ?_ (fun Kv hN hX hR => ?_)); (next => exact rfl)) | ((with_reducible refine JnI ?_ ?_); (next => exact rfl)) | ((with_reducible first | refine hN _ ?_ | refine hX _ _ ?_ | refine hR _ ?_); (try (clear hG; clear Kg)); clear hN hX hR; clear Kv) | ((conv => whnf); first | (with_reducible first | rfl | exact True.intro | refine (fun (_ : (_ : Prop)) => ?_) | refine And.intro ?_ ?_) | ((with_reducible first | refine hN _ ?_ | refine hX _ _ ?_ | refine hR _ ?_); (try (clear hG; clear Kg)); clear hN hX hR; clear Kv) | (with_reducible first | refine BdS (fun Kv hN hX hR => ?_) | refine Stop.mk ?_ | refine Join.mk ⟨fun Kv hN hX hR => ?_, ?_⟩ | refine DrawJ.each ?_ | exact SubJ.self _) | with_reducible refine SubJ.of ?_ | (with_reducible first | refine FlS (fun Kf hF => ?_) | refine FlN ?_ | refine NdS (fun Kg hG => ?_) | (refine hF _ _ ?_; clear hF; clear Kf) | (refine hG _ _ _ _ ?_; clear hG; clear Kg))))); all_goals (conv => whnf); all_goals (repeat ((try (clear hG; clear Kg)); clear hN hX hR; clear Kv))
  all_goals first
    | (refine ⟨0, Nat.zero_le _, ?_⟩
       (repeat' (first | ((with_reducible refine BdI ?_); (first | ((with_reducible refine SqI ?_ (fun Kv hN hX hR => ?_)); (next => exact rfl)) | ((with_reducible refine JnI ?_ ?_); (next => exact rfl)) | (conv => whnf))) | (with_reducible first | refine BdS (fun Kv hN hX hR => ?_) | refine Stop.mk ?_ | refine Join.mk ⟨fun Kv hN hX hR => ?_, ?_⟩ | refine DrawJ.each ?_ | exact SubJ.self _) | with_reducible refine SubJ.of ?_ | (with_reducible first | refine FlS (fun Kf hF => ?_) | refine FlN ?_ | refine NdS (fun Kg hG => ?_) | (refine hF _ _ ?_; clear hF; clear Kf) | (refine hG _ _ _ _ ?_; clear hG; clear Kg)) | ((with_reducible refine SqI ?_ (fun Kv hN hX hR => ?_)); (next => exact rfl)) | ((with_reducible refine JnI ?_ ?_); (next => exact rfl)) | ((with_reducible first | refine hN _ ?_ | refine hX _ _ ?_ | refine hR _ ?_); (try (clear hG; clear Kg)); clear hN hX hR; clear Kv) | ((conv => whnf); first | (with_reducible first | rfl | exact True.intro | intro _ | refine And.intro ?_ ?_) | ((with_reducible first | refine hN _ ?_ | refine hX _ _ ?_ | refine hR _ ?_); (try (clear hG; clear Kg)); clear hN hX hR; clear Kv) | (with_reducible first | refine BdS (fun Kv hN hX hR => ?_) | refine Stop.mk ?_ | refine Join.mk ⟨fun Kv hN hX hR => ?_, ?_⟩ | refine DrawJ.each ?_ | exact SubJ.self _) | with_reducible refine SubJ.of ?_ | (with_reducible first | refine FlS (fun Kf hF => ?_) | refine FlN ?_ | refine NdS (fun Kg hG => ?_) | (refine hF _ _ ?_; clear hF; clear Kf) | (refine hG _ _ _ _ ?_; clear hG; clear Kg))))); all_goals (conv => whnf); all_goals (repeat ((try (clear hG; clear Kg)); clear hN hX hR; clear Kv))
       all_goals rfl)
    | (with_reducible intro i hi
       have hi : i ≤ l.length := hi
       have f1 := flat_le l i
       have f2 := flat_le l (i + 1)
       (repeat' (first | ((with_reducible refine BdI ?_); (first | ((with_reducible refine SqI ?_ (fun Kv hN hX hR => ?_)); (next => exact rfl)) | ((with_reducible refine JnI ?_ ?_); (next => exact rfl)) | (conv => whnf))) | (with_reducible first | refine BdS (fun Kv hN hX hR => ?_) | refine Stop.mk ?_ | refine Join.mk ⟨fun Kv hN hX hR => ?_, ?_⟩ | refine DrawJ.each ?_ | exact SubJ.self _) | with_reducible refine SubJ.of ?_ | (with_reducible first | refine FlS (fun Kf hF => ?_) | refine FlN ?_ | refine NdS (fun Kg hG => ?_) | (refine hF _ _ ?_; clear hF; clear Kf) | (refine hG _ _ _ _ ?_; clear hG; clear Kg)) | ((with_reducible refine SqI ?_ (fun Kv hN hX hR => ?_)); (next => exact rfl)) | ((with_reducible refine JnI ?_ ?_); (next => exact rfl)) | ((with_reducible first | refine hN _ ?_ | refine hX _ _ ?_ | refine hR _ ?_); (try (clear hG; clear Kg)); clear hN hX hR; clear Kv) | ((conv => whnf); first | (with_reducible first | rfl | exact True.intro | refine (fun (_ : (_ : Prop)) => ?_) | refine And.intro ?_ ?_) | ((with_reducible first | refine hN _ ?_ | refine hX _ _ ?_ | refine hR _ ?_); (try (clear hG; clear Kg)); clear hN hX hR; clear Kv) | (with_reducible first | refine BdS (fun Kv hN hX hR => ?_) | refine Stop.mk ?_ | refine Join.mk ⟨fun Kv hN hX hR => ?_, ?_⟩ | refine DrawJ.each ?_ | exact SubJ.self _) | with_reducible refine SubJ.of ?_ | (with_reducible first | refine FlS (fun Kf hF => ?_) | refine FlN ?_ | refine NdS (fun Kg hG => ?_) | (refine hF _ _ ?_; clear hF; clear Kf) | (refine hG _ _ _ _ ?_; clear hG; clear Kg))))); all_goals (conv => whnf); all_goals (repeat ((try (clear hG; clear Kg)); clear hN hX hR; clear Kv))
       all_goals (try simp only [Int.toNat_natCast] at *)
       all_goals first
         | exact Ob.mk ⟨by omega, of_decide_eq_true (by with_reducible assumption)⟩
         | (have h := of_decide_eq_true (show decide ((i : Int) < (l.length : Nat)) = true by with_reducible assumption)
            have e1 := congrArg List.length (flat_succ (l := l) (i := i) (by omega))
            rw [List.length_append] at e1
            have w1 : IntKind.i64.wrap (((l.take i).flatten.length : Int) + ((l.getD i []).length : Int)) = ((l.take (i + 1)).flatten.length : Int) := by
              rw [wrapI (by omega) (by omega), e1]
              omega
            first
              | (exfalso
                 have h3 := of_decide_eq_true (show decide (IntKind.i64.wrap (((l.take i).flatten.length : Int) + ((l.getD i []).length : Int)) < 0) = true by with_reducible assumption)
                 rw [w1] at h3
                 omega)
              | (refine ⟨i + 1, by omega, by omega, ?_⟩
                 (repeat' (first | ((with_reducible refine BdI ?_); (first | ((with_reducible refine SqI ?_ (fun Kv hN hX hR => ?_)); (next => exact rfl)) | ((with_reducible refine JnI ?_ ?_); (next => exact rfl)) | (conv => whnf))) | (with_reducible first | refine BdS (fun Kv hN hX hR => ?_) | refine Stop.mk ?_ | refine Join.mk ⟨fun Kv hN hX hR => ?_, ?_⟩ | refine DrawJ.each ?_ | exact SubJ.self _) | with_reducible refine SubJ.of ?_ | (with_reducible first | refine FlS (fun Kf hF => ?_) | refine FlN ?_ | refine NdS (fun Kg hG => ?_) | (refine hF _ _ ?_; clear hF; clear Kf) | (refine hG _ _ _ _ ?_; clear hG; clear Kg)) | ((with_reducible refine SqI ?_ (fun Kv hN hX hR => ?_)); (next => exact rfl)) | ((with_reducible refine JnI ?_ ?_); (next => exact rfl)) | ((with_reducible first | refine hN _ ?_ | refine hX _ _ ?_ | refine hR _ ?_); (try (clear hG; clear Kg)); clear hN hX hR; clear Kv) | ((conv => whnf); first | (with_reducible first | rfl | exact True.intro | intro _ | refine And.intro ?_ ?_) | ((with_reducible first | refine hN _ ?_ | refine hX _ _ ?_ | refine hR _ ?_); (try (clear hG; clear Kg)); clear hN hX hR; clear Kv) | (with_reducible first | refine BdS (fun Kv hN hX hR => ?_) | refine Stop.mk ?_ | refine Join.mk ⟨fun Kv hN hX hR => ?_, ?_⟩ | refine DrawJ.each ?_ | exact SubJ.self _) | with_reducible refine SubJ.of ?_ | (with_reducible first | refine FlS (fun Kf hF => ?_) | refine FlN ?_ | refine NdS (fun Kg hG => ?_) | (refine hF _ _ ?_; clear hF; clear Kf) | (refine hG _ _ _ _ ?_; clear hG; clear Kg))))); all_goals (conv => whnf); all_goals (repeat ((try (clear hG; clear Kg)); clear hN hX hR; clear Kv))
                 all_goals first
                   | exact wrapI (by omega) (by omega)
                   | exact w1
                   | rfl))
         | (have h := of_decide_eq_false (show decide ((i : Int) < (l.length : Nat)) = false by with_reducible assumption)
            have e0 : (l.take i).flatten = l.flatten := by rw [List.take_of_length_le (by omega)]
            first
              | (refine Ob.mk ⟨by omega, ?_⟩
                 simp only [kdBytes]
                 omega)
              | (refine ⟨0, Nat.zero_le _, ?_⟩
                 (repeat' (first | ((with_reducible refine BdI ?_); (first | ((with_reducible refine SqI ?_ (fun Kv hN hX hR => ?_)); (next => exact rfl)) | ((with_reducible refine JnI ?_ ?_); (next => exact rfl)) | (conv => whnf))) | (with_reducible first | refine BdS (fun Kv hN hX hR => ?_) | refine Stop.mk ?_ | refine Join.mk ⟨fun Kv hN hX hR => ?_, ?_⟩ | refine DrawJ.each ?_ | exact SubJ.self _) | with_reducible refine SubJ.of ?_ | (with_reducible first | refine FlS (fun Kf hF => ?_) | refine FlN ?_ | refine NdS (fun Kg hG => ?_) | (refine hF _ _ ?_; clear hF; clear Kf) | (refine hG _ _ _ _ ?_; clear hG; clear Kg)) | ((with_reducible refine SqI ?_ (fun Kv hN hX hR => ?_)); (next => exact rfl)) | ((with_reducible refine JnI ?_ ?_); (next => exact rfl)) | ((with_reducible first | refine hN _ ?_ | refine hX _ _ ?_ | refine hR _ ?_); (try (clear hG; clear Kg)); clear hN hX hR; clear Kv) | ((conv => whnf); first | (with_reducible first | rfl | exact True.intro | intro _ | refine And.intro ?_ ?_) | ((with_reducible first | refine hN _ ?_ | refine hX _ _ ?_ | refine hR _ ?_); (try (clear hG; clear Kg)); clear hN hX hR; clear Kv) | (with_reducible first | refine BdS (fun Kv hN hX hR => ?_) | refine Stop.mk ?_ | refine Join.mk ⟨fun Kv hN hX hR => ?_, ?_⟩ | refine DrawJ.each ?_ | exact SubJ.self _) | with_reducible refine SubJ.of ?_ | (with_reducible first | refine FlS (fun Kf hF => ?_) | refine FlN ?_ | refine NdS (fun Kg hG => ?_) | (refine hF _ _ ?_; clear hF; clear Kf) | (refine hG _ _ _ _ ?_; clear hG; clear Kg))))); all_goals (conv => whnf); all_goals (repeat ((try (clear hG; clear Kg)); clear hN hX hR; clear Kv))
                 all_goals rfl)
              | (with_reducible intro j hj
                 have hj : j ≤ l.length := hj
                 have f3 := flat_le l j
                 have f4 := flat_le l (j + 1)
                 (repeat' (first | ((with_reducible refine BdI ?_); (first | ((with_reducible refine SqI ?_ (fun Kv hN hX hR => ?_)); (next => exact rfl)) | ((with_reducible refine JnI ?_ ?_); (next => exact rfl)) | (conv => whnf))) | (with_reducible first | refine BdS (fun Kv hN hX hR => ?_) | refine Stop.mk ?_ | refine Join.mk ⟨fun Kv hN hX hR => ?_, ?_⟩ | refine DrawJ.each ?_ | exact SubJ.self _) | with_reducible refine SubJ.of ?_ | (with_reducible first | refine FlS (fun Kf hF => ?_) | refine FlN ?_ | refine NdS (fun Kg hG => ?_) | (refine hF _ _ ?_; clear hF; clear Kf) | (refine hG _ _ _ _ ?_; clear hG; clear Kg)) | ((with_reducible refine SqI ?_ (fun Kv hN hX hR => ?_)); (next => exact rfl)) | ((with_reducible refine JnI ?_ ?_); (next => exact rfl)) | ((with_reducible first | refine hN _ ?_ | refine hX _ _ ?_ | refine hR _ ?_); (try (clear hG; clear Kg)); clear hN hX hR; clear Kv) | ((conv => whnf); first | (with_reducible first | rfl | exact True.intro | intro _ | refine And.intro ?_ ?_) | ((with_reducible first | refine hN _ ?_ | refine hX _ _ ?_ | refine hR _ ?_); (try (clear hG; clear Kg)); clear hN hX hR; clear Kv) | (with_reducible first | refine BdS (fun Kv hN hX hR => ?_) | refine Stop.mk ?_ | refine Join.mk ⟨fun Kv hN hX hR => ?_, ?_⟩ | refine DrawJ.each ?_ | exact SubJ.self _) | with_reducible refine SubJ.of ?_ | (with_reducible first | refine FlS (fun Kf hF => ?_) | refine FlN ?_ | refine NdS (fun Kg hG => ?_) | (refine hF _ _ ?_; clear hF; clear Kf) | (refine hG _ _ _ _ ?_; clear hG; clear Kg))))); all_goals (conv => whnf); all_goals (repeat ((try (clear hG; clear Kg)); clear hN hX hR; clear Kv))
                 all_goals (try simp only [Int.toNat_natCast] at *)
                 all_goals first
                   | exact Ob.mk ⟨by omega, of_decide_eq_true (by with_reducible assumption)⟩
                   | (have h5 := of_decide_eq_true (show decide ((j : Int) < (l.length : Nat)) = true by with_reducible assumption)
                      have e2 := flat_succ (l := l) (i := j) (by omega)
                      have e3 := congrArg List.length e2
                      rw [List.length_append] at e3
                      first
                        | (refine Ob.mk ?_
                           simp only [Rw.len, Rw.bts, Rw.kd, kdBytes] at *
                           omega)
                        | (refine ⟨j + 1, by omega, by omega, ?_⟩
                           (repeat' (first | ((with_reducible refine BdI ?_); (first | ((with_reducible refine SqI ?_ (fun Kv hN hX hR => ?_)); (next => exact rfl)) | ((with_reducible refine JnI ?_ ?_); (next => exact rfl)) | (conv => whnf))) | (with_reducible first | refine BdS (fun Kv hN hX hR => ?_) | refine Stop.mk ?_ | refine Join.mk ⟨fun Kv hN hX hR => ?_, ?_⟩ | refine DrawJ.each ?_ | exact SubJ.self _) | with_reducible refine SubJ.of ?_ | (with_reducible first | refine FlS (fun Kf hF => ?_) | refine FlN ?_ | refine NdS (fun Kg hG => ?_) | (refine hF _ _ ?_; clear hF; clear Kf) | (refine hG _ _ _ _ ?_; clear hG; clear Kg)) | ((with_reducible refine SqI ?_ (fun Kv hN hX hR => ?_)); (next => exact rfl)) | ((with_reducible refine JnI ?_ ?_); (next => exact rfl)) | ((with_reducible first | refine hN _ ?_ | refine hX _ _ ?_ | refine hR _ ?_); (try (clear hG; clear Kg)); clear hN hX hR; clear Kv) | ((conv => whnf); first | (with_reducible first | rfl | exact True.intro | intro _ | refine And.intro ?_ ?_) | ((with_reducible first | refine hN _ ?_ | refine hX _ _ ?_ | refine hR _ ?_); (try (clear hG; clear Kg)); clear hN hX hR; clear Kv) | (with_reducible first | refine BdS (fun Kv hN hX hR => ?_) | refine Stop.mk ?_ | refine Join.mk ⟨fun Kv hN hX hR => ?_, ?_⟩ | refine DrawJ.each ?_ | exact SubJ.self _) | with_reducible refine SubJ.of ?_ | (with_reducible first | refine FlS (fun Kf hF => ?_) | refine FlN ?_ | refine NdS (fun Kg hG => ?_) | (refine hF _ _ ?_; clear hF; clear Kf) | (refine hG _ _ _ _ ?_; clear hG; clear Kg))))); all_goals (conv => whnf); all_goals (repeat ((try (clear hG; clear Kg)); clear hN hX hR; clear Kv))
                           all_goals first
                             | exact wrapI (by omega) (by omega)
                             | exact congrArg Rw.ints e2.symm
                             | rfl))
                   | (have h5 := of_decide_eq_false (show decide ((j : Int) < (l.length : Nat)) = false by with_reducible assumption)
                      rw [List.take_of_length_le (by omega)])
                   | trace_state)
              | trace_state)
         | trace_state)
    | trace_state
theorem ids_arg {v : GView} (h : fitsV (dPView.e v)) : v.peers.length * 16 ≤ 140737488355328 := h.2.1
theorem k_Ids : Known Tryz.prog tau 35 (S1 dPView fun v => .ok (.own 0) [.ints (namesP v.peers)]) := by
  refine known1 hmix tau_ok ctx_nil (fn := Tryz.f35) (by kernel_rfl) [] (by kernel_rfl) _ _ fun v hfit => ⟨rfl,
    [(3, invA Nat [(3, 19, 0)] [3, 5, 11, 12, 13, 14, 15, 16, 17, 18, 19, 20] [19] (fun i => i ≤ v.peers.length) (fun i => fun st => withS [(11, .int .i64 i), (3, .own 19)] (withR [(19, .own (.ints (namesP (v.peers.take i))))] st)) (fun i => v.peers.length - i))], ?_⟩
  have hlen := ids_arg hfit.1
  clear hfit
  (repeat' (first | ((with_reducible refine BdI ?_); (first | ((with_reducible refine SqI ?_ (fun Kv hN hX hR => ?_)); (next => exact rfl)) | ((with_reducible refine JnI ?_ ?_); (next => exact rfl)) | (conv => whnf))) | (with_reducible first | refine BdS (fun Kv hN hX hR => ?_) | refine Stop.mk ?_ | refine Join.mk ⟨fun Kv hN hX hR => ?_, ?_⟩ | refine DrawJ.each ?_ | exact SubJ.self _) | with_reducible refine SubJ.of ?_ | (with_reducible first | refine FlS (fun Kf hF => ?_) | refine FlN ?_ | refine NdS (fun Kg hG => ?_) | (refine hF _ _ ?_; clear hF; clear Kf) | (refine hG _ _ _ _ ?_; clear hG; clear Kg)) | ((with_reducible refine SqI ?_ (fun Kv hN hX hR => ?_)); (next => exact rfl)) | ((with_reducible refine JnI ?_ ?_); (next => exact rfl)) | ((with_reducible first | refine hN _ ?_ | refine hX _ _ ?_ | refine hR _ ?_); (try (clear hG; clear Kg)); clear hN hX hR; clear Kv) | ((conv => whnf); first | (with_reducible first | rfl | exact True.intro | refine (fun (_ : (_ : Prop)) => ?_) | refine And.intro ?_ ?_) | ((with_reducible first | refine hN _ ?_ | refine hX _ _ ?_ | refine hR _ ?_); (try (clear hG; clear Kg)); clear hN hX hR; clear Kv) | (with_reducible first | refine BdS (fun Kv hN hX hR => ?_) | refine Stop.mk ?_ | refine Join.mk ⟨fun Kv hN hX hR => ?_, ?_⟩ | refine DrawJ.each ?_ | exact SubJ.self _) | with_reducible refine SubJ.of ?_ | (with_reducible first | refine FlS (fun Kf hF => ?_) | refine FlN ?_ | refine NdS (fun Kg hG => ?_) | (refine hF _ _ ?_; clear hF; clear Kf) | (refine hG _ _ _ _ ?_; clear hG; clear Kg))))); all_goals (conv => whnf); all_goals (repeat ((try (clear hG; clear Kg)); clear hN hX hR; clear Kv))
  all_goals first
    | (refine ⟨0, Nat.zero_le _, ?_⟩
       (repeat' (first | ((with_reducible refine BdI ?_); (first | ((with_reducible refine SqI ?_ (fun Kv hN hX hR => ?_)); (next => exact rfl)) | ((with_reducible refine JnI ?_ ?_); (next => exact rfl)) | (conv => whnf))) | (with_reducible first | refine BdS (fun Kv hN hX hR => ?_) | refine Stop.mk ?_ | refine Join.mk ⟨fun Kv hN hX hR => ?_, ?_⟩ | refine DrawJ.each ?_ | exact SubJ.self _) | with_reducible refine SubJ.of ?_ | (with_reducible first | refine FlS (fun Kf hF => ?_) | refine FlN ?_ | refine NdS (fun Kg hG => ?_) | (refine hF _ _ ?_; clear hF; clear Kf) | (refine hG _ _ _ _ ?_; clear hG; clear Kg)) | ((with_reducible refine SqI ?_ (fun Kv hN hX hR => ?_)); (next => exact rfl)) | ((with_reducible refine JnI ?_ ?_); (next => exact rfl)) | ((with_reducible first | refine hN _ ?_ | refine hX _ _ ?_ | refine hR _ ?_); (try (clear hG; clear Kg)); clear hN hX hR; clear Kv) | ((conv => whnf); first | (with_reducible first | rfl | exact True.intro | intro _ | refine And.intro ?_ ?_) | ((with_reducible first | refine hN _ ?_ | refine hX _ _ ?_ | refine hR _ ?_); (try (clear hG; clear Kg)); clear hN hX hR; clear Kv) | (with_reducible first | refine BdS (fun Kv hN hX hR => ?_) | refine Stop.mk ?_ | refine Join.mk ⟨fun Kv hN hX hR => ?_, ?_⟩ | refine DrawJ.each ?_ | exact SubJ.self _) | with_reducible refine SubJ.of ?_ | (with_reducible first | refine FlS (fun Kf hF => ?_) | refine FlN ?_ | refine NdS (fun Kg hG => ?_) | (refine hF _ _ ?_; clear hF; clear Kf) | (refine hG _ _ _ _ ?_; clear hG; clear Kg))))); all_goals (conv => whnf); all_goals (repeat ((try (clear hG; clear Kg)); clear hN hX hR; clear Kv))
       all_goals rfl)
    | (with_reducible intro i hi
       have hi : i ≤ v.peers.length := hi
       (repeat' (first | ((with_reducible refine BdI ?_); (first | ((with_reducible refine SqI ?_ (fun Kv hN hX hR => ?_)); (next => exact rfl)) | ((with_reducible refine JnI ?_ ?_); (next => exact rfl)) | (conv => whnf))) | (with_reducible first | refine BdS (fun Kv hN hX hR => ?_) | refine Stop.mk ?_ | refine Join.mk ⟨fun Kv hN hX hR => ?_, ?_⟩ | refine DrawJ.each ?_ | exact SubJ.self _) | with_reducible refine SubJ.of ?_ | (with_reducible first | refine FlS (fun Kf hF => ?_) | refine FlN ?_ | refine NdS (fun Kg hG => ?_) | (refine hF _ _ ?_; clear hF; clear Kf) | (refine hG _ _ _ _ ?_; clear hG; clear Kg)) | ((with_reducible refine SqI ?_ (fun Kv hN hX hR => ?_)); (next => exact rfl)) | ((with_reducible refine JnI ?_ ?_); (next => exact rfl)) | ((with_reducible first | refine hN _ ?_ | refine hX _ _ ?_ | refine hR _ ?_); (try (clear hG; clear Kg)); clear hN hX hR; clear Kv) | ((conv => whnf); first | (with_reducible first | rfl | exact True.intro | intro _ | refine And.intro ?_ ?_) | ((with_reducible first | refine hN _ ?_ | refine hX _ _ ?_ | refine hR _ ?_); (try (clear hG; clear Kg)); clear hN hX hR; clear Kv) | (with_reducible first | refine BdS (fun Kv hN hX hR => ?_) | refine Stop.mk ?_ | refine Join.mk ⟨fun Kv hN hX hR => ?_, ?_⟩ | refine DrawJ.each ?_ | exact SubJ.self _) | with_reducible refine SubJ.of ?_ | (with_reducible first | refine FlS (fun Kf hF => ?_) | refine FlN ?_ | refine NdS (fun Kg hG => ?_) | (refine hF _ _ ?_; clear hF; clear Kf) | (refine hG _ _ _ _ ?_; clear hG; clear Kg))))); all_goals (conv => whnf); all_goals (repeat ((try (clear hG; clear Kg)); clear hN hX hR; clear Kv))
       all_goals (try simp only [Int.toNat_natCast] at *)
       all_goals first
         | exact Ob.mk ⟨by omega, of_decide_eq_true (by with_reducible assumption)⟩
         | (refine Ob.mk ?_
            simp only [Rw.len, Rw.bts, Rw.kd, kdBytes, List.length_cons, List.length_nil, List.length_append, namesP_len, List.length_take]
            omega)
         | (have h := of_decide_eq_true (show decide ((i : Int) < (v.peers.length : Nat)) = true by with_reducible assumption)
            refine ⟨i + 1, by omega, by omega, ?_⟩
            have e1 := namesP_succ (l := v.peers) (i := i) (by omega)
            (repeat' (first | ((with_reducible refine BdI ?_); (first | ((with_reducible refine SqI ?_ (fun Kv hN hX hR => ?_)); (next => exact rfl)) | ((with_reducible refine JnI ?_ ?_); (next => exact rfl)) | (conv => whnf))) | (with_reducible first | refine BdS (fun Kv hN hX hR => ?_) | refine Stop.mk ?_ | refine Join.mk ⟨fun Kv hN hX hR => ?_, ?_⟩ | refine DrawJ.each ?_ | exact SubJ.self _) | with_reducible refine SubJ.of ?_ | (with_reducible first | refine FlS (fun Kf hF => ?_) | refine FlN ?_ | refine NdS (fun Kg hG => ?_) | (refine hF _ _ ?_; clear hF; clear Kf) | (refine hG _ _ _ _ ?_; clear hG; clear Kg)) | ((with_reducible refine SqI ?_ (fun Kv hN hX hR => ?_)); (next => exact rfl)) | ((with_reducible refine JnI ?_ ?_); (next => exact rfl)) | ((with_reducible first | refine hN _ ?_ | refine hX _ _ ?_ | refine hR _ ?_); (try (clear hG; clear Kg)); clear hN hX hR; clear Kv) | ((conv => whnf); first | (with_reducible first | rfl | exact True.intro | intro _ | refine And.intro ?_ ?_) | ((with_reducible first | refine hN _ ?_ | refine hX _ _ ?_ | refine hR _ ?_); (try (clear hG; clear Kg)); clear hN hX hR; clear Kv) | (with_reducible first | refine BdS (fun Kv hN hX hR => ?_) | refine Stop.mk ?_ | refine Join.mk ⟨fun Kv hN hX hR => ?_, ?_⟩ | refine DrawJ.each ?_ | exact SubJ.self _) | with_reducible refine SubJ.of ?_ | (with_reducible first | refine FlS (fun Kf hF => ?_) | refine FlN ?_ | refine NdS (fun Kg hG => ?_) | (refine hF _ _ ?_; clear hF; clear Kf) | (refine hG _ _ _ _ ?_; clear hG; clear Kg))))); all_goals (conv => whnf); all_goals (repeat ((try (clear hG; clear Kg)); clear hN hX hR; clear Kv))
            all_goals first
              | exact wrapI (by omega) (by omega)
              | exact congrArg Rw.ints e1.symm
              | rfl)
         | (have h := of_decide_eq_false (show decide ((i : Int) < (v.peers.length : Nat)) = false by with_reducible assumption)
            rw [List.take_of_length_le (by omega)])
         | trace_state)
    | trace_state
end Go.Proofs.YtmhieddhmebfhaaGreat

/- Contracts: peers that age; a view's copy; time that goes by. -/
namespace Go.Proofs.YtmhieddhmebfhaaGreat
open Go.RowKit
set_option maxRecDepth 20000
def leftP : List GPeer → List GPeer
  | [] => []
  | p :: l => if p.missed + 1 = 3 then leftP l else ⟨p.id, p.missed + 1⟩ :: leftP l
def lostP : List GPeer → List Int
  | [] => []
  | p :: l => if p.missed + 1 = 3 then p.id :: lostP l else lostP l
theorem leftP_app (a b : List GPeer) : leftP (a ++ b) = leftP a ++ leftP b := by
  induction a with
  | nil => rfl
  | cons p a ih => simp only [List.cons_append, leftP, ih]; split <;> rfl
theorem lostP_app (a b : List GPeer) : lostP (a ++ b) = lostP a ++ lostP b := by
  induction a with
  | nil => rfl
  | cons p a ih => simp only [List.cons_append, lostP, ih]; split <;> rfl
theorem leftP_succ {l : List GPeer} {i : Nat} (h : i < l.length) : leftP (l.take (i + 1)) = leftP (l.take i) ++ (if (l.getD i default).missed + 1 = 3 then [] else [⟨(l.getD i default).id, (l.getD i default).missed + 1⟩]) := by
  rw [List.take_succ_eq_append_getElem h, leftP_app, ← etaP h]
  simp only [leftP]
theorem lostP_succ {l : List GPeer} {i : Nat} (h : i < l.length) : lostP (l.take (i + 1)) = lostP (l.take i) ++ (if (l.getD i default).missed + 1 = 3 then [(l.getD i default).id] else []) := by
  rw [List.take_succ_eq_append_getElem h, lostP_app, ← etaP h]
  simp only [lostP]
theorem leftP_len (l : List GPeer) : (leftP l).length ≤ l.length := by
  induction l with
  | nil => exact Nat.le_refl _
  | cons p l ih => simp only [leftP]; split <;> simp <;> omega
theorem lostP_len (l : List GPeer) : (lostP l).length ≤ l.length := by
  induction l with
  | nil => exact Nat.le_refl _
  | cons p l ih => simp only [lostP]; split <;> simp <;> omega
theorem leftlost_len (l : List GPeer) : (leftP l).length + (lostP l).length = l.length := by
  induction l with
  | nil => rfl
  | cons p l ih => simp only [leftP, lostP]; split <;> simp <;> omega
noncomputable def ageP (b : Int) (l : List GPeer) : List GPeer × List Int × Int := Classical.choose (seal_ex (if peersB b l = true then (leftP l, lostP l, (0 : Int)) else ([], [], 700)))
theorem ageP_def (b : Int) (l : List GPeer) : ageP b l = if peersB b l = true then (leftP l, lostP l, 0) else ([], [], 700) := Classical.choose_spec (seal_ex _)
theorem ageP_yes {b : Int} {l : List GPeer} (h : peersB b l = true) : ageP b l = (leftP l, lostP l, 0) := by rw [ageP_def, if_pos h]
theorem ageP_no {b : Int} {l : List GPeer} (h : peersB b l = false) : ageP b l = ([], [], 700) := by rw [ageP_def, if_neg (by rw [h]; simp)]
noncomputable def oAge (b : Int) (l : List GPeer) : Out := .ok (.tup [.own 0, .own 1, .int .i64 (ageP b l).2.2]) [.peers (ageP b l).1, .ints (ageP b l).2.1]
theorem missed_in {b : Int} {l : List GPeer} {i : Nat} (h : peersB b l = true) (hi : i < l.length) : 0 ≤ (l.getD i default).missed ∧ (l.getD i default).missed < 3 := by
  have := (peersB_iff.1 h).2.2.2 _ (getD_mem (d := default) hi)
  simp only [peerB, Bool.and_eq_true, decide_eq_true_eq] at this
  omega
set_option maxHeartbeats 1000000 in
theorem k_peersAge : Known Tryz.prog tau 79 (S2 dInt dPeers oAge) := by
  refine known2 hmix tau_ok (ctx_cons k_peersMay ctx_nil) (fn := Tryz.f79) (by kernel_rfl) [] (by kernel_rfl) _ _ _ fun b l hfit => ⟨rfl,
    [(6, invA Nat [(7, 36, 3), (8, 32, 0)] [7, 8, 10, 17, 18, 19, 20, 21, 22, 23, 24, 25, 26, 27, 28, 29, 30, 31, 32, 33, 34, 35, 36, 37] [32, 36] (fun i => i ≤ l.length) (fun i => fun st => withS [(17, .int .i64 i), (7, .own 36), (8, .own 32)] (withR [(36, .own (.peers (leftP (l.take i)))), (32, .own (.ints (lostP (l.take i))))] st)) (fun i => l.length - i))], ?_⟩
  have hlen : l.length * 16 ≤ 140737488355328 := hfit.2.1
  clear hfit
  (repeat' (first | ((with_reducible refine BdI ?_); (first | ((with_reducible refine SqI ?_ (fun Kv hN hX hR => ?_)); (next => exact rfl)) | ((with_reducible refine JnI ?_ ?_); (next => exact rfl)) | (conv => whnf))) | (with_reducible first | refine BdS (fun Kv hN hX hR => ?_) | refine Stop.mk ?_ | refine Join.mk ⟨fun Kv hN hX hR => ?_, ?_⟩ | refine DrawJ.each ?_ | exact SubJ.self _) | with_reducible refine SubJ.of ?_ | (with_reducible first | refine FlS (fun Kf hF => ?_) | refine FlN ?_ | refine NdS (fun Kg hG => ?_) | (refine hF _ _ ?_; clear hF; clear Kf) | (refine hG _ _ _ _ ?_; clear hG; clear Kg)) | ((with_reducible refine SqI ?_ (fun Kv hN hX hR => ?_)); (next => exact rfl)) | ((with_reducible refine JnI ?_ ?_); (next => exact rfl)) | ((with_reducible first | refine hN _ ?_ | refine hX _ _ ?_ | refine hR _ ?_); (try (clear hG; clear Kg)); clear hN hX hR; clear Kv) | ((conv => whnf); first | (with_reducible first | rfl | exact True.intro | refine (fun (_ : (_ : Prop)) => ?_) | refine And.intro ?_ ?_) | ((with_reducible first | refine hN _ ?_ | refine hX _ _ ?_ | refine hR _ ?_); (try (clear hG; clear Kg)); clear hN hX hR; clear Kv) | (with_reducible first | refine BdS (fun Kv hN hX hR => ?_) | refine Stop.mk ?_ | refine Join.mk ⟨fun Kv hN hX hR => ?_, ?_⟩ | refine DrawJ.each ?_ | exact SubJ.self _) | with_reducible refine SubJ.of ?_ | (with_reducible first | refine FlS (fun Kf hF => ?_) | refine FlN ?_ | refine NdS (fun Kg hG => ?_) | (refine hF _ _ ?_; clear hF; clear Kf) | (refine hG _ _ _ _ ?_; clear hG; clear Kg))))); all_goals (conv => whnf); all_goals (repeat ((try (clear hG; clear Kg)); clear hN hX hR; clear Kv))
  all_goals first
    | (rw [ageP_no (nf (by with_reducible assumption))] <;> rfl)
    | (refine ⟨0, Nat.zero_le _, ?_⟩
       (repeat' (first | ((with_reducible refine BdI ?_); (first | ((with_reducible refine SqI ?_ (fun Kv hN hX hR => ?_)); (next => exact rfl)) | ((with_reducible refine JnI ?_ ?_); (next => exact rfl)) | (conv => whnf))) | (with_reducible first | refine BdS (fun Kv hN hX hR => ?_) | refine Stop.mk ?_ | refine Join.mk ⟨fun Kv hN hX hR => ?_, ?_⟩ | refine DrawJ.each ?_ | exact SubJ.self _) | with_reducible refine SubJ.of ?_ | (with_reducible first | refine FlS (fun Kf hF => ?_) | refine FlN ?_ | refine NdS (fun Kg hG => ?_) | (refine hF _ _ ?_; clear hF; clear Kf) | (refine hG _ _ _ _ ?_; clear hG; clear Kg)) | ((with_reducible refine SqI ?_ (fun Kv hN hX hR => ?_)); (next => exact rfl)) | ((with_reducible refine JnI ?_ ?_); (next => exact rfl)) | ((with_reducible first | refine hN _ ?_ | refine hX _ _ ?_ | refine hR _ ?_); (try (clear hG; clear Kg)); clear hN hX hR; clear Kv) | ((conv => whnf); first | (with_reducible first | rfl | exact True.intro | intro _ | refine And.intro ?_ ?_) | ((with_reducible first | refine hN _ ?_ | refine hX _ _ ?_ | refine hR _ ?_); (try (clear hG; clear Kg)); clear hN hX hR; clear Kv) | (with_reducible first | refine BdS (fun Kv hN hX hR => ?_) | refine Stop.mk ?_ | refine Join.mk ⟨fun Kv hN hX hR => ?_, ?_⟩ | refine DrawJ.each ?_ | exact SubJ.self _) | with_reducible refine SubJ.of ?_ | (with_reducible first | refine FlS (fun Kf hF => ?_) | refine FlN ?_ | refine NdS (fun Kg hG => ?_) | (refine hF _ _ ?_; clear hF; clear Kf) | (refine hG _ _ _ _ ?_; clear hG; clear Kg))))); all_goals (conv => whnf); all_goals (repeat ((try (clear hG; clear Kg)); clear hN hX hR; clear Kv))
       all_goals rfl)
    | (with_reducible intro i hi
       have hi : i ≤ l.length := hi
       have hB : peersB b l = true := nt (by with_reducible assumption)
       (repeat' (first | ((with_reducible refine BdI ?_); (first | ((with_reducible refine SqI ?_ (fun Kv hN hX hR => ?_)); (next => exact rfl)) | ((with_reducible refine JnI ?_ ?_); (next => exact rfl)) | (conv => whnf))) | (with_reducible first | refine BdS (fun Kv hN hX hR => ?_) | refine Stop.mk ?_ | refine Join.mk ⟨fun Kv hN hX hR => ?_, ?_⟩ | refine DrawJ.each ?_ | exact SubJ.self _) | with_reducible refine SubJ.of ?_ | (with_reducible first | refine FlS (fun Kf hF => ?_) | refine FlN ?_ | refine NdS (fun Kg hG => ?_) | (refine hF _ _ ?_; clear hF; clear Kf) | (refine hG _ _ _ _ ?_; clear hG; clear Kg)) | ((with_reducible refine SqI ?_ (fun Kv hN hX hR => ?_)); (next => exact rfl)) | ((with_reducible refine JnI ?_ ?_); (next => exact rfl)) | ((with_reducible first | refine hN _ ?_ | refine hX _ _ ?_ | refine hR _ ?_); (try (clear hG; clear Kg)); clear hN hX hR; clear Kv) | ((conv => whnf); first | (with_reducible first | rfl | exact True.intro | intro _ | refine And.intro ?_ ?_) | ((with_reducible first | refine hN _ ?_ | refine hX _ _ ?_ | refine hR _ ?_); (try (clear hG; clear Kg)); clear hN hX hR; clear Kv) | (with_reducible first | refine BdS (fun Kv hN hX hR => ?_) | refine Stop.mk ?_ | refine Join.mk ⟨fun Kv hN hX hR => ?_, ?_⟩ | refine DrawJ.each ?_ | exact SubJ.self _) | with_reducible refine SubJ.of ?_ | (with_reducible first | refine FlS (fun Kf hF => ?_) | refine FlN ?_ | refine NdS (fun Kg hG => ?_) | (refine hF _ _ ?_; clear hF; clear Kf) | (refine hG _ _ _ _ ?_; clear hG; clear Kg))))); all_goals (conv => whnf); all_goals (repeat ((try (clear hG; clear Kg)); clear hN hX hR; clear Kv))
       all_goals (try simp only [Int.toNat_natCast] at *)
       all_goals first
         | exact Ob.mk ⟨by omega, of_decide_eq_true (by with_reducible assumption)⟩
         | (refine Ob.mk ?_
            have g1 := leftP_len (l.take i)
            have g2 := lostP_len (l.take i)
            simp only [Rw.len, Rw.bts, Rw.kd, kdBytes, List.length_cons, List.length_nil, List.length_append, List.length_take] at *
            omega)
         | (have h := of_decide_eq_true (show decide ((i : Int) < (l.length : Nat)) = true by with_reducible assumption)
            have hm := missed_in hB (i := i) (by omega)
            have w1 : IntKind.i64.wrap ((l.getD i default).missed + 1) = (l.getD i default).missed + 1 := wrapI (by omega) (by omega)
            have e1 := leftP_succ (l := l) (i := i) (by omega)
            have e2 := lostP_succ (l := l) (i := i) (by omega)
            first
              | (have h3 := of_decide_eq_true (show decide (IntKind.i64.wrap ((l.getD i default).missed + 1) = 3) = true by with_reducible assumption)
                 rw [w1] at h3
                 rw [if_pos h3] at e1 e2
                 rw [List.append_nil] at e1
                 refine ⟨i + 1, by omega, by omega, ?_⟩
                 (repeat' (first | ((with_reducible refine BdI ?_); (first | ((with_reducible refine SqI ?_ (fun Kv hN hX hR => ?_)); (next => exact rfl)) | ((with_reducible refine JnI ?_ ?_); (next => exact rfl)) | (conv => whnf))) | (with_reducible first | refine BdS (fun Kv hN hX hR => ?_) | refine Stop.mk ?_ | refine Join.mk ⟨fun Kv hN hX hR => ?_, ?_⟩ | refine DrawJ.each ?_ | exact SubJ.self _) | with_reducible refine SubJ.of ?_ | (with_reducible first | refine FlS (fun Kf hF => ?_) | refine FlN ?_ | refine NdS (fun Kg hG => ?_) | (refine hF _ _ ?_; clear hF; clear Kf) | (refine hG _ _ _ _ ?_; clear hG; clear Kg)) | ((with_reducible refine SqI ?_ (fun Kv hN hX hR => ?_)); (next => exact rfl)) | ((with_reducible refine JnI ?_ ?_); (next => exact rfl)) | ((with_reducible first | refine hN _ ?_ | refine hX _ _ ?_ | refine hR _ ?_); (try (clear hG; clear Kg)); clear hN hX hR; clear Kv) | ((conv => whnf); first | (with_reducible first | rfl | exact True.intro | intro _ | refine And.intro ?_ ?_) | ((with_reducible first | refine hN _ ?_ | refine hX _ _ ?_ | refine hR _ ?_); (try (clear hG; clear Kg)); clear hN hX hR; clear Kv) | (with_reducible first | refine BdS (fun Kv hN hX hR => ?_) | refine Stop.mk ?_ | refine Join.mk ⟨fun Kv hN hX hR => ?_, ?_⟩ | refine DrawJ.each ?_ | exact SubJ.self _) | with_reducible refine SubJ.of ?_ | (with_reducible first | refine FlS (fun Kf hF => ?_) | refine FlN ?_ | refine NdS (fun Kg hG => ?_) | (refine hF _ _ ?_; clear hF; clear Kf) | (refine hG _ _ _ _ ?_; clear hG; clear Kg))))); all_goals (conv => whnf); all_goals (repeat ((try (clear hG; clear Kg)); clear hN hX hR; clear Kv))
                 all_goals first
                   | exact wrapI (by omega) (by omega)
                   | exact congrArg Rw.peers e1.symm
                   | exact congrArg Rw.ints e2.symm
                   | rfl)
              | (have h3 := of_decide_eq_false (show decide (IntKind.i64.wrap ((l.getD i default).missed + 1) = 3) = false by with_reducible assumption)
                 rw [w1] at h3
                 rw [if_neg h3] at e1 e2
                 rw [List.append_nil] at e2
                 rw [← w1] at e1
                 refine ⟨i + 1, by omega, by omega, ?_⟩
                 (repeat' (first | ((with_reducible refine BdI ?_); (first | ((with_reducible refine SqI ?_ (fun Kv hN hX hR => ?_)); (next => exact rfl)) | ((with_reducible refine JnI ?_ ?_); (next => exact rfl)) | (conv => whnf))) | (with_reducible first | refine BdS (fun Kv hN hX hR => ?_) | refine Stop.mk ?_ | refine Join.mk ⟨fun Kv hN hX hR => ?_, ?_⟩ | refine DrawJ.each ?_ | exact SubJ.self _) | with_reducible refine SubJ.of ?_ | (with_reducible first | refine FlS (fun Kf hF => ?_) | refine FlN ?_ | refine NdS (fun Kg hG => ?_) | (refine hF _ _ ?_; clear hF; clear Kf) | (refine hG _ _ _ _ ?_; clear hG; clear Kg)) | ((with_reducible refine SqI ?_ (fun Kv hN hX hR => ?_)); (next => exact rfl)) | ((with_reducible refine JnI ?_ ?_); (next => exact rfl)) | ((with_reducible first | refine hN _ ?_ | refine hX _ _ ?_ | refine hR _ ?_); (try (clear hG; clear Kg)); clear hN hX hR; clear Kv) | ((conv => whnf); first | (with_reducible first | rfl | exact True.intro | intro _ | refine And.intro ?_ ?_) | ((with_reducible first | refine hN _ ?_ | refine hX _ _ ?_ | refine hR _ ?_); (try (clear hG; clear Kg)); clear hN hX hR; clear Kv) | (with_reducible first | refine BdS (fun Kv hN hX hR => ?_) | refine Stop.mk ?_ | refine Join.mk ⟨fun Kv hN hX hR => ?_, ?_⟩ | refine DrawJ.each ?_ | exact SubJ.self _) | with_reducible refine SubJ.of ?_ | (with_reducible first | refine FlS (fun Kf hF => ?_) | refine FlN ?_ | refine NdS (fun Kg hG => ?_) | (refine hF _ _ ?_; clear hF; clear Kf) | (refine hG _ _ _ _ ?_; clear hG; clear Kg))))); all_goals (conv => whnf); all_goals (repeat ((try (clear hG; clear Kg)); clear hN hX hR; clear Kv))
                 all_goals first
                   | exact wrapI (by omega) (by omega)
                   | exact congrArg Rw.peers e1.symm
                   | exact congrArg Rw.ints e2.symm
                   | rfl))
         | (have h := of_decide_eq_false (show decide ((i : Int) < (l.length : Nat)) = false by with_reducible assumption)
            first
              | (rw [ageP_yes hB]; done)
              | (rw [ageP_yes hB, List.take_of_length_le (by omega)]; done))
         | trace_state)
    | trace_state
theorem k_viewCopy : Known Tryz.prog tau 75 (S1 dView fun v => .ok (.agg [.int .i64 v.id, .own 0, .own 1]) [.peers v.peers, .ints v.passive]) := by
  refine known1 hmix tau_ok (ctx_cons k_ClonePeers (ctx_cons k_CloneInts ctx_nil)) (fn := Tryz.f75) (by kernel_rfl) [(1, [(0, 0), (1, 1), (2, 2), (3, 0), (4, 8), (5, 20), (6, 31), (7, 127), (8, 255), (9, 511)])] (by kernel_rfl) _ _ fun v hfit => ⟨rfl, [], ?_⟩
  clear hfit
  (repeat' (first | ((with_reducible refine BdI ?_); (first | ((with_reducible refine SqI ?_ (fun Kv hN hX hR => ?_)); (next => exact rfl)) | ((with_reducible refine JnI ?_ ?_); (next => exact rfl)) | (conv => whnf))) | (with_reducible first | refine BdS (fun Kv hN hX hR => ?_) | refine Stop.mk ?_ | refine Join.mk ⟨fun Kv hN hX hR => ?_, ?_⟩ | apply DrawJ.join | exact SubJ.self _) | ((with_reducible refine SubJ.of ?_); (repeat' (first | with_reducible rfl | ((conv => whnf) <;> (first | with_reducible exact True.intro | with_reducible refine And.intro ?_ ?_ | with_reducible rfl | ((conv => rhs; whnf) <;> with_reducible rfl))))); done) | (with_reducible first | refine FlS (fun Kf hF => ?_) | refine FlN ?_ | refine NdS (fun Kg hG => ?_) | (refine hF _ _ ?_; clear hF; clear Kf) | (refine hG _ _ _ _ ?_; clear hG; clear Kg)) | ((with_reducible refine SqI ?_ (fun Kv hN hX hR => ?_)); (next => exact rfl)) | ((with_reducible refine JnI ?_ ?_); (next => exact rfl)) | ((with_reducible first | refine hN _ ?_ | refine hX _ _ ?_ | refine hR _ ?_); (try (clear hG; clear Kg)); clear hN hX hR; clear Kv) | ((conv => whnf); first | (with_reducible first | rfl | exact True.intro | intro _ | refine And.intro ?_ ?_) | ((with_reducible first | refine hN _ ?_ | refine hX _ _ ?_ | refine hR _ ?_); (try (clear hG; clear Kg)); clear hN hX hR; clear Kv) | (with_reducible first | refine BdS (fun Kv hN hX hR => ?_) | refine Stop.mk ?_ | refine Join.mk ⟨fun Kv hN hX hR => ?_, ?_⟩ | apply DrawJ.join | exact SubJ.self _) | ((with_reducible refine SubJ.of ?_); (repeat' (first | with_reducible rfl | ((conv => whnf) <;> (first | with_reducible exact True.intro | with_reducible refine And.intro ?_ ?_ | with_reducible rfl | ((conv => rhs; whnf) <;> with_reducible rfl))))); done) | (with_reducible first | refine FlS (fun Kf hF => ?_) | refine FlN ?_ | refine NdS (fun Kg hG => ?_) | (refine hF _ _ ?_; clear hF; clear Kf) | (refine hG _ _ _ _ ?_; clear hG; clear Kg))))); all_goals (conv => whnf); all_goals (repeat ((try (clear hG; clear Kg)); clear hN hX hR; clear Kv))
  all_goals first
    | rfl
    | trace_state
end Go.Proofs.YtmhieddhmebfhaaGreat

/- Contracts: time that goes by: the program's. -/
namespace Go.Proofs.YtmhieddhmebfhaaGreat
open Go.RowKit
set_option maxRecDepth 20000
/-- Those that are lost are passive. -/
noncomputable def foldW : List Int → List Int → List Int
  | acc, [] => acc
  | acc, x :: l => foldW (withP acc x).1 l
theorem foldW_next {acc l : List Int} {i : Nat} (h : i < l.length) : foldW acc (l.drop i) = foldW (withP acc (l.getD i 0)).1 (l.drop (i + 1)) := by
  rw [drop_one_more (d := 0) h, foldW]
theorem foldW_end {acc l : List Int} {i : Nat} (h : ¬ i < l.length) : foldW acc (l.drop i) = acc := by
  rw [List.drop_eq_nil_of_le (by omega)]
  rfl
theorem withP_len (l : List Int) (x : Int) : (withP l x).1.length ≤ l.length + 1 := by
  rw [withP_def]
  split
  · split
    · simp
    · split
      · simp
      · simp [insP_len]
  · simp
def viewZ : GView := ⟨0, [], []⟩
noncomputable def tickV (v : GView) : GView × List Int × Int := Classical.choose (seal_ex (if viewB v = true then ((⟨v.id, leftP v.peers, foldW v.passive (lostP v.peers)⟩ : GView), namesP (leftP v.peers) ++ foldW v.passive (lostP v.peers), (0 : Int)) else (viewZ, [], 1100)))
theorem tickV_def (v : GView) : tickV v = if viewB v = true then ((⟨v.id, leftP v.peers, foldW v.passive (lostP v.peers)⟩ : GView), namesP (leftP v.peers) ++ foldW v.passive (lostP v.peers), (0 : Int)) else (viewZ, [], 1100) := Classical.choose_spec (seal_ex _)
theorem tickV_yes {v : GView} (h : viewB v = true) : tickV v = (⟨v.id, leftP v.peers, foldW v.passive (lostP v.peers)⟩, namesP (leftP v.peers) ++ foldW v.passive (lostP v.peers), 0) := by rw [tickV_def, if_pos h]
theorem tickV_no {v : GView} (h : viewB v = false) : tickV v = (viewZ, [], 1100) := by rw [tickV_def, if_neg (by rw [h]; simp)]
noncomputable def oTickV (v : GView) : Out := .ok (.tup [.agg [.int .i64 (tickV v).1.id, .own 0, .row .new (.ints (tickV v).1.passive)], .own 1, .int .i64 (tickV v).2.2]) [.peers (tickV v).1.peers, .ints (tickV v).2.1]
set_option maxHeartbeats 2000000 in
theorem k_ageTick : Known Tryz.prog tau 34 (S1 dView oTickV) := by
  refine known1 hmix tau_ok (ctx_cons k_passWith (ctx_cons k_viewMay (ctx_cons k_viewCopy (ctx_cons k_peersAge (ctx_cons k_Concat (ctx_cons k_Ids ctx_nil)))))) (fn := Tryz.f34) (by kernel_rfl) [(11, [(0, 0), (1, 0), (2, 0), (3, 4), (4, 10), (5, 18), (6, 33), (7, 127), (8, 255)])] (by kernel_rfl) _ _ fun v hfit => ⟨rfl,
    [(7, invF (Nat × List Int) [22] [10, 30, 31, 32, 33, 34, 35, 36, 37, 38, 39, 40, 41, 42] [5] (fun g => g.1 ≤ (lostP v.peers).length ∧ g.2.length ≤ v.passive.length + g.1 ∧ foldW v.passive (lostP v.peers) = foldW g.2 ((lostP v.peers).drop g.1)) (fun g => match g with
      | (i, acc) => fun st => withS [(30, .int .i64 i)] (withB [(5, (25, [.int .i64 v.id, .own 22, .row .new (.ints acc)]))] st)) (fun g => (lostP v.peers).length - g.1))], ?_⟩
  have hp : v.peers.length * 16 ≤ 140737488355328 := hfit.1.2.1
  clear hfit
  (repeat' (first | ((with_reducible refine BdI ?_); (first | ((with_reducible refine SqI ?_ (fun Kv hN hX hR => ?_)); (next => exact rfl)) | ((with_reducible refine JnI ?_ ?_); (next => exact rfl)) | (conv => whnf))) | (with_reducible first | refine BdS (fun Kv hN hX hR => ?_) | refine Stop.mk ?_ | refine Join.mk ⟨fun Kv hN hX hR => ?_, ?_⟩ | apply DrawJ.join | exact SubJ.self _) | ((with_reducible refine SubJ.of ?_); (repeat' (first | with_reducible rfl | ((conv => whnf) <;> (first | with_reducible exact True.intro | with_reducible refine And.intro ?_ ?_ | with_reducible rfl | ((conv => rhs; whnf) <;> with_reducible rfl))))); done) | (with_reducible first | refine FlS (fun Kf hF => ?_) | refine FlN ?_ | refine NdS (fun Kg hG => ?_) | (refine hF _ _ ?_; clear hF; clear Kf) | (refine hG _ _ _ _ ?_; clear hG; clear Kg)) | ((with_reducible refine SqI ?_ (fun Kv hN hX hR => ?_)); (next => exact rfl)) | ((with_reducible refine JnI ?_ ?_); (next => exact rfl)) | ((with_reducible first | refine hN _ ?_ | refine hX _ _ ?_ | refine hR _ ?_); (try (clear hG; clear Kg)); clear hN hX hR; clear Kv) | ((conv => whnf); first | (with_reducible first | rfl | exact True.intro | refine (fun (_ : (_ : Prop)) => ?_) | refine And.intro ?_ ?_) | ((with_reducible first | refine hN _ ?_ | refine hX _ _ ?_ | refine hR _ ?_); (try (clear hG; clear Kg)); clear hN hX hR; clear Kv) | (with_reducible first | refine BdS (fun Kv hN hX hR => ?_) | refine Stop.mk ?_ | refine Join.mk ⟨fun Kv hN hX hR => ?_, ?_⟩ | apply DrawJ.join | exact SubJ.self _) | ((with_reducible refine SubJ.of ?_); (repeat' (first | with_reducible rfl | ((conv => whnf) <;> (first | with_reducible exact True.intro | with_reducible refine And.intro ?_ ?_ | with_reducible rfl | ((conv => rhs; whnf) <;> with_reducible rfl))))); done) | (with_reducible first | refine FlS (fun Kf hF => ?_) | refine FlN ?_ | refine NdS (fun Kg hG => ?_) | (refine hF _ _ ?_; clear hF; clear Kf) | (refine hG _ _ _ _ ?_; clear hG; clear Kg))))); all_goals (conv => whnf); all_goals (repeat ((try (clear hG; clear Kg)); clear hN hX hR; clear Kv))
  all_goals first
    | (rw [tickV_no (nf (by with_reducible assumption))] <;> rfl)
    | (have hB : viewB v = true := nt (by with_reducible assumption)
       have hP := (viewB_iff.1 hB).1
       have ha := ageP_yes hP
       have hl := leftlost_len v.peers
       refine ⟨(0, v.passive), ⟨Nat.zero_le _, by simp, rfl⟩, ?_⟩
       (repeat' (first | ((with_reducible refine BdI ?_); (first | ((with_reducible refine SqI ?_ (fun Kv hN hX hR => ?_)); (next => exact rfl)) | ((with_reducible refine JnI ?_ ?_); (next => exact rfl)) | (conv => whnf))) | (with_reducible first | refine BdS (fun Kv hN hX hR => ?_) | refine Stop.mk ?_ | refine Join.mk ⟨fun Kv hN hX hR => ?_, ?_⟩ | refine DrawJ.each ?_ | exact SubJ.self _) | with_reducible refine SubJ.of ?_ | (with_reducible first | refine FlS (fun Kf hF => ?_) | refine FlN ?_ | refine NdS (fun Kg hG => ?_) | (refine hF _ _ ?_; clear hF; clear Kf) | (refine hG _ _ _ _ ?_; clear hG; clear Kg)) | ((with_reducible refine SqI ?_ (fun Kv hN hX hR => ?_)); (next => exact rfl)) | ((with_reducible refine JnI ?_ ?_); (next => exact rfl)) | ((with_reducible first | refine hN _ ?_ | refine hX _ _ ?_ | refine hR _ ?_); (try (clear hG; clear Kg)); clear hN hX hR; clear Kv) | ((conv => whnf); first | (with_reducible first | rfl | exact True.intro | intro _ | refine And.intro ?_ ?_) | ((with_reducible first | refine hN _ ?_ | refine hX _ _ ?_ | refine hR _ ?_); (try (clear hG; clear Kg)); clear hN hX hR; clear Kv) | (with_reducible first | refine BdS (fun Kv hN hX hR => ?_) | refine Stop.mk ?_ | refine Join.mk ⟨fun Kv hN hX hR => ?_, ?_⟩ | refine DrawJ.each ?_ | exact SubJ.self _) | with_reducible refine SubJ.of ?_ | (with_reducible first | refine FlS (fun Kf hF => ?_) | refine FlN ?_ | refine NdS (fun Kg hG => ?_) | (refine hF _ _ ?_; clear hF; clear Kf) | (refine hG _ _ _ _ ?_; clear hG; clear Kg))))); all_goals (conv => whnf); all_goals (repeat ((try (clear hG; clear Kg)); clear hN hX hR; clear Kv))
       all_goals first
         | rfl
         | exact congrArg (fun q : List GPeer × List Int × Int => Rw.peers q.1) ha
         | trace_state)
    | (rintro ⟨i, acc⟩ ⟨hi, hl, hf⟩
       dsimp only at hi hl hf
       have hB : viewB v = true := nt (by with_reducible assumption)
       have hP := (viewB_iff.1 hB).1
       have hP16 := (viewB_iff.1 hB).2.2.1
       have ha := ageP_yes hP
       have hl2 := leftlost_len v.peers
       have ht := tickV_yes hB
       (repeat' (first | ((with_reducible refine BdI ?_); (first | ((with_reducible refine SqI ?_ (fun Kv hN hX hR => ?_)); (next => exact rfl)) | ((with_reducible refine JnI ?_ ?_); (next => exact rfl)) | (conv => whnf))) | (with_reducible first | refine BdS (fun Kv hN hX hR => ?_) | refine Stop.mk ?_ | refine Join.mk ⟨fun Kv hN hX hR => ?_, ?_⟩ | refine DrawJ.each ?_ | exact SubJ.self _) | with_reducible refine SubJ.of ?_ | (with_reducible first | refine FlS (fun Kf hF => ?_) | refine FlN ?_ | refine NdS (fun Kg hG => ?_) | (refine hF _ _ ?_; clear hF; clear Kf) | (refine hG _ _ _ _ ?_; clear hG; clear Kg)) | ((with_reducible refine SqI ?_ (fun Kv hN hX hR => ?_)); (next => exact rfl)) | ((with_reducible refine JnI ?_ ?_); (next => exact rfl)) | ((with_reducible first | refine hN _ ?_ | refine hX _ _ ?_ | refine hR _ ?_); (try (clear hG; clear Kg)); clear hN hX hR; clear Kv) | ((conv => whnf); first | (with_reducible first | rfl | exact True.intro | intro _ | refine And.intro ?_ ?_) | ((with_reducible first | refine hN _ ?_ | refine hX _ _ ?_ | refine hR _ ?_); (try (clear hG; clear Kg)); clear hN hX hR; clear Kv) | (with_reducible first | refine BdS (fun Kv hN hX hR => ?_) | refine Stop.mk ?_ | refine Join.mk ⟨fun Kv hN hX hR => ?_, ?_⟩ | refine DrawJ.each ?_ | exact SubJ.self _) | with_reducible refine SubJ.of ?_ | (with_reducible first | refine FlS (fun Kf hF => ?_) | refine FlN ?_ | refine NdS (fun Kg hG => ?_) | (refine hF _ _ ?_; clear hF; clear Kf) | (refine hG _ _ _ _ ?_; clear hG; clear Kg))))); all_goals (conv => whnf); all_goals (repeat ((try (clear hG; clear Kg)); clear hN hX hR; clear Kv))
       all_goals (try dsimp only at *)
       all_goals (try simp only [ha, Int.toNat_natCast] at *)
       all_goals first
         | exact Ob.mk ⟨by omega, of_decide_eq_true (by with_reducible assumption)⟩
         | (have h := of_decide_eq_true (show decide ((i : Int) < ((lostP v.peers).length : Nat)) = true by with_reducible assumption)
            have hw := withP_len acc ((lostP v.peers).getD i 0)
            refine ⟨(i + 1, (withP acc ((lostP v.peers).getD i 0)).1), ⟨by show i + 1 ≤ (lostP v.peers).length; omega, by show (withP acc ((lostP v.peers).getD i 0)).1.length ≤ v.passive.length + (i + 1); omega, by rw [hf, foldW_next (by omega)]⟩, by show (lostP v.peers).length - (i + 1) < (lostP v.peers).length - i; omega, ?_⟩
            (repeat' (first | ((with_reducible refine BdI ?_); (first | ((with_reducible refine SqI ?_ (fun Kv hN hX hR => ?_)); (next => exact rfl)) | ((with_reducible refine JnI ?_ ?_); (next => exact rfl)) | (conv => whnf))) | (with_reducible first | refine BdS (fun Kv hN hX hR => ?_) | refine Stop.mk ?_ | refine Join.mk ⟨fun Kv hN hX hR => ?_, ?_⟩ | refine DrawJ.each ?_ | exact SubJ.self _) | with_reducible refine SubJ.of ?_ | (with_reducible first | refine FlS (fun Kf hF => ?_) | refine FlN ?_ | refine NdS (fun Kg hG => ?_) | (refine hF _ _ ?_; clear hF; clear Kf) | (refine hG _ _ _ _ ?_; clear hG; clear Kg)) | ((with_reducible refine SqI ?_ (fun Kv hN hX hR => ?_)); (next => exact rfl)) | ((with_reducible refine JnI ?_ ?_); (next => exact rfl)) | ((with_reducible first | refine hN _ ?_ | refine hX _ _ ?_ | refine hR _ ?_); (try (clear hG; clear Kg)); clear hN hX hR; clear Kv) | ((conv => whnf); first | (with_reducible first | rfl | exact True.intro | intro _ | refine And.intro ?_ ?_) | ((with_reducible first | refine hN _ ?_ | refine hX _ _ ?_ | refine hR _ ?_); (try (clear hG; clear Kg)); clear hN hX hR; clear Kv) | (with_reducible first | refine BdS (fun Kv hN hX hR => ?_) | refine Stop.mk ?_ | refine Join.mk ⟨fun Kv hN hX hR => ?_, ?_⟩ | refine DrawJ.each ?_ | exact SubJ.self _) | with_reducible refine SubJ.of ?_ | (with_reducible first | refine FlS (fun Kf hF => ?_) | refine FlN ?_ | refine NdS (fun Kg hG => ?_) | (refine hF _ _ ?_; clear hF; clear Kf) | (refine hG _ _ _ _ ?_; clear hG; clear Kg))))); all_goals (conv => whnf); all_goals (repeat ((try (clear hG; clear Kg)); clear hN hX hR; clear Kv))
            all_goals first
              | exact wrapI (by omega) (by omega)
              | rfl)
         | (have h := of_decide_eq_false (show decide ((i : Int) < ((lostP v.peers).length : Nat)) = false by with_reducible assumption)
            have e1 : foldW v.passive (lostP v.peers) = acc := by rw [hf, foldW_end (by omega)]
            first
              | (refine Ob.mk ?_
                 simp only [List.flatten_cons, List.flatten_nil, List.length_append, List.length_nil, namesP_len]
                 omega)
              | (rw [ht]; done)
              | (rw [ht, e1]; done)
              | (rw [ht, e1]
                 simp
                 done)
              | trace_state)
         | trace_state)
    | trace_state
end Go.Proofs.YtmhieddhmebfhaaGreat

/- Time that goes by, without a program: a view that may be stays one. -/
namespace Go.Proofs.YtmhieddhmebfhaaGreat
open Go.RowKit

theorem viewB_iff2 {v : GView} : viewB v = true ↔ peersB v.id v.peers = true ∧ passB v.passive = true ∧ v.peers.length + v.passive.length ≤ 16 ∧ ∀ x ∈ v.passive, x ≠ v.id ∧ x ∉ namesP v.peers := by
  rw [viewB_iff]
  constructor
  · rintro ⟨h1, h2, h3, h4⟩
    refine ⟨h1, h2, h3, fun x hx => ?_⟩
    have := List.any_eq_false.1 h4 x hx
    rw [odd_same h1 ((passB_iff.1 h2).2.2 x hx)] at this
    simp only [refOdd, Bool.or_eq_true, decide_eq_true_eq, not_or, hasI_iff] at this
    exact this
  · rintro ⟨h1, h2, h3, h4⟩
    refine ⟨h1, h2, h3, ?_⟩
    rw [List.any_eq_false]
    intro x hx
    rw [odd_same h1 ((passB_iff.1 h2).2.2 x hx)]
    simp only [refOdd, Bool.or_eq_true, decide_eq_true_eq, not_or, hasI_iff]
    exact h4 x hx
theorem mem_namesP {l : List GPeer} {x : Int} : x ∈ namesP l ↔ ∃ p ∈ l, p.id = x := by simp [namesP]
theorem peers_iff {b : Int} {l : List GPeer} : peersB b l = true ↔ placeB b = true ∧ l.length ≤ 16 ∧ (l.Pairwise fun p q => farI b p.id < farI b q.id) ∧ ∀ p ∈ l, peerB b p = true := by
  rw [peersB_iff, risingP_iff]
theorem names_nodup {b : Int} {l : List GPeer} (h : peersB b l = true) : (namesP l).Pairwise (· ≠ ·) := by
  have h2 := (peers_iff.1 h).2.2.1
  unfold namesP
  rw [List.pairwise_map]
  refine h2.imp fun {p q} hpq e => ?_
  rw [e] at hpq
  omega
theorem peerB_iff {b : Int} {p : GPeer} : peerB b p = true ↔ placeB p.id = true ∧ 0 ≤ p.missed ∧ p.missed < 3 ∧ 0 < farI b p.id := by
  simp [peerB]
theorem mem_leftP {l : List GPeer} {q : GPeer} : q ∈ leftP l ↔ ∃ p ∈ l, p.missed + 1 ≠ 3 ∧ q = ⟨p.id, p.missed + 1⟩ := by
  induction l with
  | nil => simp [leftP]
  | cons p l ih =>
    simp only [leftP]
    split
    · rename_i h
      rw [ih]
      constructor
      · rintro ⟨p', h1, h2⟩; exact ⟨p', List.mem_cons_of_mem _ h1, h2⟩
      · rintro ⟨p', h1, h2, h3⟩
        rcases List.mem_cons.1 h1 with rfl | h1
        · exact absurd h h2
        · exact ⟨p', h1, h2, h3⟩
    · rename_i h
      rw [List.mem_cons, ih]
      constructor
      · rintro (rfl | ⟨p', h1, h2⟩)
        · exact ⟨p, List.mem_cons_self, h, rfl⟩
        · exact ⟨p', List.mem_cons_of_mem _ h1, h2⟩
      · rintro ⟨p', h1, h2, h3⟩
        rcases List.mem_cons.1 h1 with rfl | h1
        · exact .inl h3
        · exact .inr ⟨p', h1, h2, h3⟩
theorem mem_lostP {l : List GPeer} {x : Int} : x ∈ lostP l ↔ ∃ p ∈ l, p.missed + 1 = 3 ∧ x = p.id := by
  induction l with
  | nil => simp [lostP]
  | cons p l ih =>
    simp only [lostP]
    split
    · rename_i h
      rw [List.mem_cons, ih]
      constructor
      · rintro (rfl | ⟨p', h1, h2⟩)
        · exact ⟨p, List.mem_cons_self, h, rfl⟩
        · exact ⟨p', List.mem_cons_of_mem _ h1, h2⟩
      · rintro ⟨p', h1, h2, h3⟩
        rcases List.mem_cons.1 h1 with rfl | h1
        · exact .inl h3
        · exact .inr ⟨p', h1, h2, h3⟩
    · rename_i h
      rw [ih]
      constructor
      · rintro ⟨p', h1, h2⟩; exact ⟨p', List.mem_cons_of_mem _ h1, h2⟩
      · rintro ⟨p', h1, h2, h3⟩
        rcases List.mem_cons.1 h1 with rfl | h1
        · exact absurd h2 h
        · exact ⟨p', h1, h2, h3⟩
theorem same_of_names {l : List GPeer} (h : (namesP l).Pairwise (· ≠ ·)) {p q : GPeer} (hp : p ∈ l) (hq : q ∈ l) (e : p.id = q.id) : p = q := by
  induction l with
  | nil => simp at hp
  | cons r l ih =>
    have h2 : (∀ x ∈ namesP l, r.id ≠ x) ∧ (namesP l).Pairwise (· ≠ ·) := List.pairwise_cons.1 h
    rcases List.mem_cons.1 hp with h3 | h3
    · rcases List.mem_cons.1 hq with h4 | h4
      · rw [h3, h4]
      · subst h3
        exact absurd e (h2.1 _ (mem_namesP.2 ⟨q, h4, rfl⟩))
    · rcases List.mem_cons.1 hq with h4 | h4
      · subst h4
        exact absurd e.symm (h2.1 _ (mem_namesP.2 ⟨p, h3, rfl⟩))
      · exact ih h2.2 h3 h4
theorem passB_insP' {l : List Int} {x : Int} (h : passB l = true) (hx : placeB x = true) (hn : hasI l x = false) (hl : l.length ≠ 16) : passB (insP l x) = true := by
  rw [passB_iff] at h ⊢
  refine ⟨by rw [insP_len]; omega, ?_, ?_⟩
  · rw [rising_iff]
    refine asc_insP (rising_iff.1 h.2.1) fun hm => ?_
    rw [hasI_iff.2 hm] at hn
    exact absurd hn (by simp)
  · intro y hy
    rcases mem_insP.1 hy with rfl | hy
    · exact hx
    · exact h.2.2 y hy
theorem lostP_nodup {l : List GPeer} (h : (namesP l).Pairwise (· ≠ ·)) : (lostP l).Pairwise (· ≠ ·) := by
  induction l with
  | nil => simp [lostP]
  | cons p l ih =>
    have h2 : (∀ x ∈ namesP l, p.id ≠ x) ∧ (namesP l).Pairwise (· ≠ ·) := List.pairwise_cons.1 h
    simp only [lostP]
    split
    · rw [List.pairwise_cons]
      refine ⟨fun x hx => ?_, ih h2.2⟩
      obtain ⟨q, hq, _, rfl⟩ := mem_lostP.1 hx
      exact h2.1 _ (mem_namesP.2 ⟨q, hq, rfl⟩)
    · exact ih h2.2
theorem leftP_rising {b : Int} {l : List GPeer} (h : l.Pairwise fun p q => farI b p.id < farI b q.id) : (leftP l).Pairwise fun p q => farI b p.id < farI b q.id := by
  induction l with
  | nil => simp [leftP]
  | cons p l ih =>
    rw [List.pairwise_cons] at h
    simp only [leftP]
    split
    · exact ih h.2
    · rw [List.pairwise_cons]
      refine ⟨fun q hq => ?_, ih h.2⟩
      obtain ⟨p', h1, _, rfl⟩ := mem_leftP.1 hq
      exact h.1 p' h1
theorem leftP_peers {b : Int} {l : List GPeer} (h : peersB b l = true) : peersB b (leftP l) = true := by
  rw [peers_iff] at h ⊢
  refine ⟨h.1, Nat.le_trans (leftP_len l) h.2.1, leftP_rising h.2.2.1, fun q hq => ?_⟩
  obtain ⟨p, h1, h2, rfl⟩ := mem_leftP.1 hq
  have := peerB_iff.1 (h.2.2.2 p h1)
  rw [peerB_iff]
  exact ⟨this.1, by show 0 ≤ p.missed + 1; omega, by show p.missed + 1 < 3; omega, this.2.2.2⟩
theorem foldW_ok : ∀ {l acc : List Int}, passB acc = true → (∀ x ∈ l, placeB x = true) → l.Pairwise (· ≠ ·) → (∀ x ∈ l, x ∉ acc) → acc.length + l.length ≤ 16 →
    passB (foldW acc l) = true ∧ (foldW acc l).length = acc.length + l.length ∧ ∀ y, y ∈ foldW acc l ↔ y ∈ acc ∨ y ∈ l
  | [], acc, h, _, _, _, _ => ⟨h, rfl, fun y => by simp [foldW]⟩
  | x :: l, acc, h, hp, hd, hn, hl => by
    rw [List.pairwise_cons] at hd
    simp only [List.length_cons] at hl
    have hx := hp x List.mem_cons_self
    have hh : hasI acc x = false := by
      cases e : hasI acc x with
      | false => rfl
      | true => exact absurd (hasI_iff.1 e) (hn x List.mem_cons_self)
    have hw := withP_yes h hx hh (by omega)
    obtain ⟨h1, h2, h3⟩ := foldW_ok (acc := insP acc x) (l := l) (passB_insP' h hx hh (by omega)) (fun y hy => hp y (List.mem_cons_of_mem _ hy)) hd.2 (fun y hy hm => by
      rcases mem_insP.1 hm with e | hm
      · exact hd.1 y hy e.symm
      · exact hn y (List.mem_cons_of_mem _ hy) hm) (by rw [insP_len]; omega)
    rw [insP_len] at h2
    simp only [foldW, hw]
    refine ⟨h1, by rw [h2]; simp; omega, fun y => ?_⟩
    rw [h3, mem_insP]
    simp only [List.mem_cons]
    constructor
    · rintro ((h | h) | h)
      · exact .inr (.inl h)
      · exact .inl h
      · exact .inr (.inr h)
    · rintro (h | h | h)
      · exact .inl (.inr h)
      · exact .inl (.inl h)
      · exact .inr h
/-- What a tick leaves. -/
theorem tick_ok {v : GView} (h : viewB v = true) : viewB (tickV v).1 = true ∧ (tickV v).1.id = v.id ∧ (tickV v).1.peers = leftP v.peers ∧ (tickV v).1.passive = foldW v.passive (lostP v.peers) ∧ (tickV v).2.1 = namesP (leftP v.peers) ++ (tickV v).1.passive ∧
    (tickV v).2.2 = 0 ∧ (tickV v).1.peers.length + (tickV v).1.passive.length = v.peers.length + v.passive.length ∧ ∀ y, y ∈ (tickV v).1.passive ↔ y ∈ v.passive ∨ y ∈ lostP v.peers := by
  have hv := viewB_iff2.1 h
  have ht := tickV_yes h
  have hp := peers_iff.1 hv.1
  obtain ⟨f1, f2, f3⟩ := foldW_ok (l := lostP v.peers) hv.2.1 (fun x hx => by
    obtain ⟨p, h1, _, rfl⟩ := mem_lostP.1 hx
    exact (peerB_iff.1 (hp.2.2.2 p h1)).1) (lostP_nodup (names_nodup hv.1)) (fun x hx hm => by
    obtain ⟨p, h1, _, rfl⟩ := mem_lostP.1 hx
    exact (hv.2.2.2 _ hm).2 (mem_namesP.2 ⟨p, h1, rfl⟩)) (by have := lostP_len v.peers; omega)
  have hl := leftlost_len v.peers
  rw [ht]
  refine ⟨viewB_iff2.2 ⟨leftP_peers hv.1, f1, ?_, ?_⟩, rfl, rfl, rfl, rfl, rfl, ?_, f3⟩
  · show (leftP v.peers).length + (foldW v.passive (lostP v.peers)).length ≤ 16
    rw [f2]
    omega
  · intro x hx
    show x ≠ v.id ∧ x ∉ namesP (leftP v.peers)
    rcases (f3 x).1 hx with h1 | h1
    · refine ⟨(hv.2.2.2 x h1).1, fun hm => ?_⟩
      obtain ⟨q, hq, rfl⟩ := mem_namesP.1 hm
      obtain ⟨p, h3, _, rfl⟩ := mem_leftP.1 hq
      exact (hv.2.2.2 _ h1).2 (mem_namesP.2 ⟨p, h3, rfl⟩)
    · obtain ⟨p, h2, h3, rfl⟩ := mem_lostP.1 h1
      have hpb := peerB_iff.1 (hp.2.2.2 p h2)
      refine ⟨fun e => ?_, fun hm => ?_⟩
      · have := (far_pos hp.1 hpb.1).1.1 hpb.2.2.2
        exact this e
      · obtain ⟨q, hq, hqe⟩ := mem_namesP.1 hm
        obtain ⟨p', h4, h5, rfl⟩ := mem_leftP.1 hq
        have : p' = p := by
          have hnd := names_nodup hv.1
          exact same_of_names hnd h4 h2 hqe
        subst this
        exact h5 h3
  · show (leftP v.peers).length + (foldW v.passive (lostP v.peers)).length = _
    rw [f2]
    omega
end Go.Proofs.YtmhieddhmebfhaaGreat

/- Contracts: time that goes by: the document's. -/
namespace Go.Proofs.YtmhieddhmebfhaaGreat
open Go.RowKit
set_option maxRecDepth 20000
set_option maxHeartbeats 2000000 in
theorem k_refAge : Known Tryz.prog tau 85 (S2 dInt dPeers oAge) := by
  refine known2 hmix tau_ok (ctx_cons k_refPeers ctx_nil) (fn := Tryz.f85) (by kernel_rfl) [(10, [(0, 0), (1, 0), (2, 0), (3, 6), (4, 8), (5, 16), (6, 0), (7, 0), (8, 192), (9, 256), (10, 512), (11, 1024), (12, 2080), (13, 4096), (14, 8193), (15, 32767)])] (by kernel_rfl) _ _ _ fun b l hfit => ⟨rfl,
    [(6, invA Nat [(7, 49, 3), (8, 34, 0)] (7 :: 8 :: 9 :: 14 :: 15 :: 16 :: 17 :: 18 :: 19 :: 20 :: 21 :: 22 :: 23 :: 24 :: 25 :: 26 :: 27 :: 28 :: 29 :: 30 :: 31 :: 32 :: 33 :: 34 :: 35 :: 36 :: 37 :: 38 :: 39 :: 40 :: 41 :: 42 :: 43 :: 44 :: 45 :: 46 :: 47 :: 48 :: 49 :: []) [] (fun i => i ≤ l.length) (fun i => fun st => withS [(9, .int .i64 i), (7, .own 49), (8, .own 34)] (withR [(49, .own (.peers (leftP (l.take i)))), (34, .own (.ints (lostP (l.take i))))] st)) (fun i => l.length - i))], ?_⟩
  have hlen : l.length * 16 ≤ 140737488355328 := hfit.2.1
  clear hfit
  (repeat' (first | ((with_reducible refine BdI ?_); (first | ((with_reducible refine SqI ?_ (fun Kv hN hX hR => ?_)); (next => exact rfl)) | ((with_reducible refine JnI ?_ ?_); (next => exact rfl)) | (conv => whnf))) | (with_reducible first | refine BdS (fun Kv hN hX hR => ?_) | refine Stop.mk ?_ | refine Join.mk ⟨fun Kv hN hX hR => ?_, ?_⟩ | refine DrawJ.each ?_ | exact SubJ.self _) | with_reducible refine SubJ.of ?_ | (with_reducible first | refine FlS (fun Kf hF => ?_) | refine FlN ?_ | refine NdS (fun Kg hG => ?_) | (refine hF _ _ ?_; clear hF; clear Kf) | (refine hG _ _ _ _ ?_; clear hG; clear Kg)) | ((with_reducible refine SqI ?_ (fun Kv hN hX hR => ?_)); (next => exact rfl)) | ((with_reducible refine JnI ?_ ?_); (next => exact rfl)) | ((with_reducible first | refine hN _ ?_ | refine hX _ _ ?_ | refine hR _ ?_); (try (clear hG; clear Kg)); clear hN hX hR; clear Kv) | ((conv => whnf); first | (with_reducible first | rfl | exact True.intro | refine (fun (_ : (_ : Prop)) => ?_) | refine And.intro ?_ ?_) | ((with_reducible first | refine hN _ ?_ | refine hX _ _ ?_ | refine hR _ ?_); (try (clear hG; clear Kg)); clear hN hX hR; clear Kv) | (with_reducible first | refine BdS (fun Kv hN hX hR => ?_) | refine Stop.mk ?_ | refine Join.mk ⟨fun Kv hN hX hR => ?_, ?_⟩ | refine DrawJ.each ?_ | exact SubJ.self _) | with_reducible refine SubJ.of ?_ | (with_reducible first | refine FlS (fun Kf hF => ?_) | refine FlN ?_ | refine NdS (fun Kg hG => ?_) | (refine hF _ _ ?_; clear hF; clear Kf) | (refine hG _ _ _ _ ?_; clear hG; clear Kg))))); all_goals (conv => whnf); all_goals (repeat ((try (clear hG; clear Kg)); clear hN hX hR; clear Kv))
  all_goals first
    | (rw [ageP_no (nf (by with_reducible assumption))] <;> rfl)
    | (refine ⟨0, Nat.zero_le _, ?_⟩
       (repeat' (first | ((with_reducible refine BdI ?_); (first | ((with_reducible refine SqI ?_ (fun Kv hN hX hR => ?_)); (next => exact rfl)) | ((with_reducible refine JnI ?_ ?_); (next => exact rfl)) | (conv => whnf))) | (with_reducible first | refine BdS (fun Kv hN hX hR => ?_) | refine Stop.mk ?_ | refine Join.mk ⟨fun Kv hN hX hR => ?_, ?_⟩ | refine DrawJ.each ?_ | exact SubJ.self _) | with_reducible refine SubJ.of ?_ | (with_reducible first | refine FlS (fun Kf hF => ?_) | refine FlN ?_ | refine NdS (fun Kg hG => ?_) | (refine hF _ _ ?_; clear hF; clear Kf) | (refine hG _ _ _ _ ?_; clear hG; clear Kg)) | ((with_reducible refine SqI ?_ (fun Kv hN hX hR => ?_)); (next => exact rfl)) | ((with_reducible refine JnI ?_ ?_); (next => exact rfl)) | ((with_reducible first | refine hN _ ?_ | refine hX _ _ ?_ | refine hR _ ?_); (try (clear hG; clear Kg)); clear hN hX hR; clear Kv) | ((conv => whnf); first | (with_reducible first | rfl | exact True.intro | intro _ | refine And.intro ?_ ?_) | ((with_reducible first | refine hN _ ?_ | refine hX _ _ ?_ | refine hR _ ?_); (try (clear hG; clear Kg)); clear hN hX hR; clear Kv) | (with_reducible first | refine BdS (fun Kv hN hX hR => ?_) | refine Stop.mk ?_ | refine Join.mk ⟨fun Kv hN hX hR => ?_, ?_⟩ | refine DrawJ.each ?_ | exact SubJ.self _) | with_reducible refine SubJ.of ?_ | (with_reducible first | refine FlS (fun Kf hF => ?_) | refine FlN ?_ | refine NdS (fun Kg hG => ?_) | (refine hF _ _ ?_; clear hF; clear Kf) | (refine hG _ _ _ _ ?_; clear hG; clear Kg))))); all_goals (conv => whnf); all_goals (repeat ((try (clear hG; clear Kg)); clear hN hX hR; clear Kv))
       all_goals rfl)
    | (with_reducible intro i hi
       have hi : i ≤ l.length := hi
       have hB : peersB b l = true := nt (by with_reducible assumption)
       (repeat' (first | ((with_reducible refine BdI ?_); (first | ((with_reducible refine SqI ?_ (fun Kv hN hX hR => ?_)); (next => exact rfl)) | ((with_reducible refine JnI ?_ ?_); (next => exact rfl)) | (conv => whnf))) | (with_reducible first | refine BdS (fun Kv hN hX hR => ?_) | refine Stop.mk ?_ | refine Join.mk ⟨fun Kv hN hX hR => ?_, ?_⟩ | apply DrawJ.join | exact SubJ.self _) | ((with_reducible refine SubJ.of ?_); (repeat' (first | with_reducible rfl | ((conv => whnf) <;> (first | with_reducible exact True.intro | with_reducible refine And.intro ?_ ?_ | with_reducible rfl | ((conv => rhs; whnf) <;> with_reducible rfl))))); done) | (with_reducible first | refine FlS (fun Kf hF => ?_) | refine FlN ?_ | refine NdS (fun Kg hG => ?_) | (refine hF _ _ ?_; clear hF; clear Kf) | (refine hG _ _ _ _ ?_; clear hG; clear Kg)) | ((with_reducible refine SqI ?_ (fun Kv hN hX hR => ?_)); (next => exact rfl)) | ((with_reducible refine JnI ?_ ?_); (next => exact rfl)) | ((with_reducible first | refine hN _ ?_ | refine hX _ _ ?_ | refine hR _ ?_); (try (clear hG; clear Kg)); clear hN hX hR; clear Kv) | ((conv => whnf); first | (with_reducible first | rfl | exact True.intro | intro _ | refine And.intro ?_ ?_) | ((with_reducible first | refine hN _ ?_ | refine hX _ _ ?_ | refine hR _ ?_); (try (clear hG; clear Kg)); clear hN hX hR; clear Kv) | (with_reducible first | refine BdS (fun Kv hN hX hR => ?_) | refine Stop.mk ?_ | refine Join.mk ⟨fun Kv hN hX hR => ?_, ?_⟩ | apply DrawJ.join | exact SubJ.self _) | ((with_reducible refine SubJ.of ?_); (repeat' (first | with_reducible rfl | ((conv => whnf) <;> (first | with_reducible exact True.intro | with_reducible refine And.intro ?_ ?_ | with_reducible rfl | ((conv => rhs; whnf) <;> with_reducible rfl))))); done) | (with_reducible first | refine FlS (fun Kf hF => ?_) | refine FlN ?_ | refine NdS (fun Kg hG => ?_) | (refine hF _ _ ?_; clear hF; clear Kf) | (refine hG _ _ _ _ ?_; clear hG; clear Kg))))); all_goals (conv => whnf); all_goals (repeat ((try (clear hG; clear Kg)); clear hN hX hR; clear Kv))
       all_goals (try simp only [Int.toNat_natCast] at *)
       all_goals first
         | exact Ob.mk ⟨by omega, of_decide_eq_true (by with_reducible assumption)⟩
         | (refine Ob.mk ?_
            have g1 := leftP_len (l.take i)
            have g2 := lostP_len (l.take i)
            simp only [Rw.len, Rw.bts, Rw.kd, kdBytes, List.length_cons, List.length_nil, List.length_append, List.length_take] at *
            omega)
         | (have h := of_decide_eq_true (show decide ((i : Int) < (l.length : Nat)) = true by with_reducible assumption)
            have hm := missed_in hB (i := i) (by omega)
            have w1 : IntKind.i64.wrap ((l.getD i default).missed + 1) = (l.getD i default).missed + 1 := wrapI (by omega) (by omega)
            have e1 := leftP_succ (l := l) (i := i) (by omega)
            have e2 := lostP_succ (l := l) (i := i) (by omega)
            first
              | (have h3 := of_decide_eq_true (show decide (IntKind.i64.wrap ((l.getD i default).missed + 1) = 3) = true by with_reducible assumption)
                 rw [w1] at h3
                 rw [if_pos h3] at e1 e2
                 rw [List.append_nil] at e1
                 refine ⟨i + 1, by omega, by omega, ?_⟩
                 (repeat' (first | ((with_reducible refine BdI ?_); (first | ((with_reducible refine SqI ?_ (fun Kv hN hX hR => ?_)); (next => exact rfl)) | ((with_reducible refine JnI ?_ ?_); (next => exact rfl)) | (conv => whnf))) | (with_reducible first | refine BdS (fun Kv hN hX hR => ?_) | refine Stop.mk ?_ | refine Join.mk ⟨fun Kv hN hX hR => ?_, ?_⟩ | refine DrawJ.each ?_ | exact SubJ.self _) | with_reducible refine SubJ.of ?_ | (with_reducible first | refine FlS (fun Kf hF => ?_) | refine FlN ?_ | refine NdS (fun Kg hG => ?_) | (refine hF _ _ ?_; clear hF; clear Kf) | (refine hG _ _ _ _ ?_; clear hG; clear Kg)) | ((with_reducible refine SqI ?_ (fun Kv hN hX hR => ?_)); (next => exact rfl)) | ((with_reducible refine JnI ?_ ?_); (next => exact rfl)) | ((with_reducible first | refine hN _ ?_ | refine hX _ _ ?_ | refine hR _ ?_); (try (clear hG; clear Kg)); clear hN hX hR; clear Kv) | ((conv => whnf); first | (with_reducible first | rfl | exact True.intro | intro _ | refine And.intro ?_ ?_) | ((with_reducible first | refine hN _ ?_ | refine hX _ _ ?_ | refine hR _ ?_); (try (clear hG; clear Kg)); clear hN hX hR; clear Kv) | (with_reducible first | refine BdS (fun Kv hN hX hR => ?_) | refine Stop.mk ?_ | refine Join.mk ⟨fun Kv hN hX hR => ?_, ?_⟩ | refine DrawJ.each ?_ | exact SubJ.self _) | with_reducible refine SubJ.of ?_ | (with_reducible first | refine FlS (fun Kf hF => ?_) | refine FlN ?_ | refine NdS (fun Kg hG => ?_) | (refine hF _ _ ?_; clear hF; clear Kf) | (refine hG _ _ _ _ ?_; clear hG; clear Kg))))); all_goals (conv => whnf); all_goals (repeat ((try (clear hG; clear Kg)); clear hN hX hR; clear Kv))
                 all_goals first
                   | exact wrapI (by omega) (by omega)
                   | exact congrArg Rw.peers e1.symm
                   | exact congrArg Rw.ints e2.symm
                   | rfl)
              | (have h3 := of_decide_eq_false (show decide (IntKind.i64.wrap ((l.getD i default).missed + 1) = 3) = false by with_reducible assumption)
                 rw [w1] at h3
                 rw [if_neg h3] at e1 e2
                 rw [List.append_nil] at e2
                 rw [← w1] at e1
                 refine ⟨i + 1, by omega, by omega, ?_⟩
                 (repeat' (first | ((with_reducible refine BdI ?_); (first | ((with_reducible refine SqI ?_ (fun Kv hN hX hR => ?_)); (next => exact rfl)) | ((with_reducible refine JnI ?_ ?_); (next => exact rfl)) | (conv => whnf))) | (with_reducible first | refine BdS (fun Kv hN hX hR => ?_) | refine Stop.mk ?_ | refine Join.mk ⟨fun Kv hN hX hR => ?_, ?_⟩ | refine DrawJ.each ?_ | exact SubJ.self _) | with_reducible refine SubJ.of ?_ | (with_reducible first | refine FlS (fun Kf hF => ?_) | refine FlN ?_ | refine NdS (fun Kg hG => ?_) | (refine hF _ _ ?_; clear hF; clear Kf) | (refine hG _ _ _ _ ?_; clear hG; clear Kg)) | ((with_reducible refine SqI ?_ (fun Kv hN hX hR => ?_)); (next => exact rfl)) | ((with_reducible refine JnI ?_ ?_); (next => exact rfl)) | ((with_reducible first | refine hN _ ?_ | refine hX _ _ ?_ | refine hR _ ?_); (try (clear hG; clear Kg)); clear hN hX hR; clear Kv) | ((conv => whnf); first | (with_reducible first | rfl | exact True.intro | intro _ | refine And.intro ?_ ?_) | ((with_reducible first | refine hN _ ?_ | refine hX _ _ ?_ | refine hR _ ?_); (try (clear hG; clear Kg)); clear hN hX hR; clear Kv) | (with_reducible first | refine BdS (fun Kv hN hX hR => ?_) | refine Stop.mk ?_ | refine Join.mk ⟨fun Kv hN hX hR => ?_, ?_⟩ | refine DrawJ.each ?_ | exact SubJ.self _) | with_reducible refine SubJ.of ?_ | (with_reducible first | refine FlS (fun Kf hF => ?_) | refine FlN ?_ | refine NdS (fun Kg hG => ?_) | (refine hF _ _ ?_; clear hF; clear Kf) | (refine hG _ _ _ _ ?_; clear hG; clear Kg))))); all_goals (conv => whnf); all_goals (repeat ((try (clear hG; clear Kg)); clear hN hX hR; clear Kv))
                 all_goals first
                   | exact wrapI (by omega) (by omega)
                   | exact congrArg Rw.peers e1.symm
                   | exact congrArg Rw.ints e2.symm
                   | rfl))
         | (have h := of_decide_eq_false (show decide ((i : Int) < (l.length : Nat)) = false by with_reducible assumption)
            first
              | (rw [ageP_yes hB]; done)
              | (rw [ageP_yes hB, List.take_of_length_le (by omega)]; done))
         | trace_state)
    | trace_state
set_option maxHeartbeats 2000000 in
theorem k_refAgeView : Known Tryz.prog tau 39 (S1 dView oTickV) := by
  refine known1 hmix tau_ok (ctx_cons k_refView (ctx_cons k_refWith (ctx_cons k_refAge (ctx_cons k_refNames ctx_nil)))) (fn := Tryz.f39) (by kernel_rfl) [] (by kernel_rfl) _ _ fun v hfit => ⟨rfl,
    [(6, invF (Nat × List Int) [22] (26 :: 29 :: [8, 9, 10, 11, 30, 31, 32, 33, 34, 35, 36, 37, 38, 39, 40, 41, 42, 43, 44, 45]) [] (fun g => g.1 ≤ (lostP v.peers).length ∧ g.2.length ≤ v.passive.length + g.1 ∧ foldW v.passive (lostP v.peers) = foldW g.2 ((lostP v.peers).drop g.1)) (fun g => match g with
      | (i, acc) => fun st => withS [(9, .int .i64 i), (8, .row .new (.ints acc))] st) (fun g => (lostP v.peers).length - g.1))], ?_⟩
  have hp : v.peers.length * 16 ≤ 140737488355328 := hfit.1.2.1
  have hp2 : v.passive.length * 8 ≤ 140737488355328 := hfit.1.2.2.1
  clear hfit
  (repeat' (first | ((with_reducible refine BdI ?_); (first | ((with_reducible refine SqI ?_ (fun Kv hN hX hR => ?_)); (next => exact rfl)) | ((with_reducible refine JnI ?_ ?_); (next => exact rfl)) | (conv => whnf))) | (with_reducible first | refine BdS (fun Kv hN hX hR => ?_) | refine Stop.mk ?_ | refine Join.mk ⟨fun Kv hN hX hR => ?_, ?_⟩ | refine DrawJ.each ?_ | exact SubJ.self _) | with_reducible refine SubJ.of ?_ | (with_reducible first | refine FlS (fun Kf hF => ?_) | refine FlN ?_ | refine NdS (fun Kg hG => ?_) | (refine hF _ _ ?_; clear hF; clear Kf) | (refine hG _ _ _ _ ?_; clear hG; clear Kg)) | ((with_reducible refine SqI ?_ (fun Kv hN hX hR => ?_)); (next => exact rfl)) | ((with_reducible refine JnI ?_ ?_); (next => exact rfl)) | ((with_reducible first | refine hN _ ?_ | refine hX _ _ ?_ | refine hR _ ?_); (try (clear hG; clear Kg)); clear hN hX hR; clear Kv) | ((conv => whnf); first | (with_reducible first | rfl | exact True.intro | refine (fun (_ : (_ : Prop)) => ?_) | refine And.intro ?_ ?_) | ((with_reducible first | refine hN _ ?_ | refine hX _ _ ?_ | refine hR _ ?_); (try (clear hG; clear Kg)); clear hN hX hR; clear Kv) | (with_reducible first | refine BdS (fun Kv hN hX hR => ?_) | refine Stop.mk ?_ | refine Join.mk ⟨fun Kv hN hX hR => ?_, ?_⟩ | refine DrawJ.each ?_ | exact SubJ.self _) | with_reducible refine SubJ.of ?_ | (with_reducible first | refine FlS (fun Kf hF => ?_) | refine FlN ?_ | refine NdS (fun Kg hG => ?_) | (refine hF _ _ ?_; clear hF; clear Kf) | (refine hG _ _ _ _ ?_; clear hG; clear Kg))))); all_goals (conv => whnf); all_goals (repeat ((try (clear hG; clear Kg)); clear hN hX hR; clear Kv))
  all_goals first
    | (rw [tickV_no (nf (by with_reducible assumption))] <;> rfl)
    | (refine Ob.mk ?_
       simp only [Rw.len, Rw.bts, Rw.kd, kdBytes, List.length_nil]
       omega)
    | (have hB : viewB v = true := nt (by with_reducible assumption)
       have hP := (viewB_iff.1 hB).1
       have ha := ageP_yes hP
       refine ⟨(0, v.passive), ⟨Nat.zero_le _, by simp, rfl⟩, ?_⟩
       (repeat' (first | ((with_reducible refine BdI ?_); (first | ((with_reducible refine SqI ?_ (fun Kv hN hX hR => ?_)); (next => exact rfl)) | ((with_reducible refine JnI ?_ ?_); (next => exact rfl)) | (conv => whnf))) | (with_reducible first | refine BdS (fun Kv hN hX hR => ?_) | refine Stop.mk ?_ | refine Join.mk ⟨fun Kv hN hX hR => ?_, ?_⟩ | refine DrawJ.each ?_ | exact SubJ.self _) | with_reducible refine SubJ.of ?_ | (with_reducible first | refine FlS (fun Kf hF => ?_) | refine FlN ?_ | refine NdS (fun Kg hG => ?_) | (refine hF _ _ ?_; clear hF; clear Kf) | (refine hG _ _ _ _ ?_; clear hG; clear Kg)) | ((with_reducible refine SqI ?_ (fun Kv hN hX hR => ?_)); (next => exact rfl)) | ((with_reducible refine JnI ?_ ?_); (next => exact rfl)) | ((with_reducible first | refine hN _ ?_ | refine hX _ _ ?_ | refine hR _ ?_); (try (clear hG; clear Kg)); clear hN hX hR; clear Kv) | ((conv => whnf); first | (with_reducible first | rfl | exact True.intro | intro _ | refine And.intro ?_ ?_) | ((with_reducible first | refine hN _ ?_ | refine hX _ _ ?_ | refine hR _ ?_); (try (clear hG; clear Kg)); clear hN hX hR; clear Kv) | (with_reducible first | refine BdS (fun Kv hN hX hR => ?_) | refine Stop.mk ?_ | refine Join.mk ⟨fun Kv hN hX hR => ?_, ?_⟩ | refine DrawJ.each ?_ | exact SubJ.self _) | with_reducible refine SubJ.of ?_ | (with_reducible first | refine FlS (fun Kf hF => ?_) | refine FlN ?_ | refine NdS (fun Kg hG => ?_) | (refine hF _ _ ?_; clear hF; clear Kf) | (refine hG _ _ _ _ ?_; clear hG; clear Kg))))); all_goals (conv => whnf); all_goals (repeat ((try (clear hG; clear Kg)); clear hN hX hR; clear Kv))
       all_goals rfl)
    | (rintro ⟨i, acc⟩ ⟨hi, hl, hf⟩
       dsimp only at hi hl hf
       have hB : viewB v = true := nt (by with_reducible assumption)
       have hP := (viewB_iff.1 hB).1
       have hP16 := (viewB_iff.1 hB).2.2.1
       have ha := ageP_yes hP
       have hl2 := leftlost_len v.peers
       have ht := tickV_yes hB
       (repeat' (first | ((with_reducible refine BdI ?_); (first | ((with_reducible refine SqI ?_ (fun Kv hN hX hR => ?_)); (next => exact rfl)) | ((with_reducible refine JnI ?_ ?_); (next => exact rfl)) | (conv => whnf))) | (with_reducible first | refine BdS (fun Kv hN hX hR => ?_) | refine Stop.mk ?_ | refine Join.mk ⟨fun Kv hN hX hR => ?_, ?_⟩ | refine DrawJ.each ?_ | exact SubJ.self _) | with_reducible refine SubJ.of ?_ | (with_reducible first | refine FlS (fun Kf hF => ?_) | refine FlN ?_ | refine NdS (fun Kg hG => ?_) | (refine hF _ _ ?_; clear hF; clear Kf) | (refine hG _ _ _ _ ?_; clear hG; clear Kg)) | ((with_reducible refine SqI ?_ (fun Kv hN hX hR => ?_)); (next => exact rfl)) | ((with_reducible refine JnI ?_ ?_); (next => exact rfl)) | ((with_reducible first | refine hN _ ?_ | refine hX _ _ ?_ | refine hR _ ?_); (try (clear hG; clear Kg)); clear hN hX hR; clear Kv) | ((conv => whnf); first | (with_reducible first | rfl | exact True.intro | intro _ | refine And.intro ?_ ?_) | ((with_reducible first | refine hN _ ?_ | refine hX _ _ ?_ | refine hR _ ?_); (try (clear hG; clear Kg)); clear hN hX hR; clear Kv) | (with_reducible first | refine BdS (fun Kv hN hX hR => ?_) | refine Stop.mk ?_ | refine Join.mk ⟨fun Kv hN hX hR => ?_, ?_⟩ | refine DrawJ.each ?_ | exact SubJ.self _) | with_reducible refine SubJ.of ?_ | (with_reducible first | refine FlS (fun Kf hF => ?_) | refine FlN ?_ | refine NdS (fun Kg hG => ?_) | (refine hF _ _ ?_; clear hF; clear Kf) | (refine hG _ _ _ _ ?_; clear hG; clear Kg))))); all_goals (conv => whnf); all_goals (repeat ((try (clear hG; clear Kg)); clear hN hX hR; clear Kv))
       all_goals (try dsimp only at *)
       all_goals (try simp only [ha, Int.toNat_natCast] at *)
       all_goals first
         | exact Ob.mk ⟨by omega, of_decide_eq_true (by with_reducible assumption)⟩
         | (have h := of_decide_eq_true (show decide ((i : Int) < ((lostP v.peers).length : Nat)) = true by with_reducible assumption)
            have hw := withP_len acc ((lostP v.peers).getD i 0)
            refine ⟨(i + 1, (withP acc ((lostP v.peers).getD i 0)).1), ⟨by show i + 1 ≤ (lostP v.peers).length; omega, by show (withP acc ((lostP v.peers).getD i 0)).1.length ≤ v.passive.length + (i + 1); omega, by rw [hf, foldW_next (by omega)]⟩, by show (lostP v.peers).length - (i + 1) < (lostP v.peers).length - i; omega, ?_⟩
            (repeat' (first | ((with_reducible refine BdI ?_); (first | ((with_reducible refine SqI ?_ (fun Kv hN hX hR => ?_)); (next => exact rfl)) | ((with_reducible refine JnI ?_ ?_); (next => exact rfl)) | (conv => whnf))) | (with_reducible first | refine BdS (fun Kv hN hX hR => ?_) | refine Stop.mk ?_ | refine Join.mk ⟨fun Kv hN hX hR => ?_, ?_⟩ | refine DrawJ.each ?_ | exact SubJ.self _) | with_reducible refine SubJ.of ?_ | (with_reducible first | refine FlS (fun Kf hF => ?_) | refine FlN ?_ | refine NdS (fun Kg hG => ?_) | (refine hF _ _ ?_; clear hF; clear Kf) | (refine hG _ _ _ _ ?_; clear hG; clear Kg)) | ((with_reducible refine SqI ?_ (fun Kv hN hX hR => ?_)); (next => exact rfl)) | ((with_reducible refine JnI ?_ ?_); (next => exact rfl)) | ((with_reducible first | refine hN _ ?_ | refine hX _ _ ?_ | refine hR _ ?_); (try (clear hG; clear Kg)); clear hN hX hR; clear Kv) | ((conv => whnf); first | (with_reducible first | rfl | exact True.intro | intro _ | refine And.intro ?_ ?_) | ((with_reducible first | refine hN _ ?_ | refine hX _ _ ?_ | refine hR _ ?_); (try (clear hG; clear Kg)); clear hN hX hR; clear Kv) | (with_reducible first | refine BdS (fun Kv hN hX hR => ?_) | refine Stop.mk ?_ | refine Join.mk ⟨fun Kv hN hX hR => ?_, ?_⟩ | refine DrawJ.each ?_ | exact SubJ.self _) | with_reducible refine SubJ.of ?_ | (with_reducible first | refine FlS (fun Kf hF => ?_) | refine FlN ?_ | refine NdS (fun Kg hG => ?_) | (refine hF _ _ ?_; clear hF; clear Kf) | (refine hG _ _ _ _ ?_; clear hG; clear Kg))))); all_goals (conv => whnf); all_goals (repeat ((try (clear hG; clear Kg)); clear hN hX hR; clear Kv))
            all_goals first
              | exact wrapI (by omega) (by omega)
              | rfl)
         | (have h := of_decide_eq_false (show decide ((i : Int) < ((lostP v.peers).length : Nat)) = false by with_reducible assumption)
            have e1 : foldW v.passive (lostP v.peers) = acc := by rw [hf, foldW_end (by omega)]
            first
              | (refine Ob.mk ?_
                 simp only [Rw.len, Rw.bts, Rw.kd, kdBytes, namesP_len]
                 omega)
              | (rw [ht]; done)
              | (rw [ht, e1]; done)
              | trace_state)
         | trace_state)
    | trace_state
end Go.Proofs.YtmhieddhmebfhaaGreat

/- Contracts: the least distance. -/
namespace Go.Proofs.YtmhieddhmebfhaaGreat
open Go.RowKit
set_option maxRecDepth 20000
/-- The place of a whole number. -/
def dPInt : Dec Int := ⟨fun x => match x with
  | .pt .any [.int .i64 n] => some n
  | _ => none, fun n => .pt .any [.int .i64 n], fun x a h => by
    split at h <;> simp at h; subst h; rfl⟩
/-- A function that has a number's place. -/
def dFnInt (f : FuncId) : Dec Int := ⟨fun x => match x with
  | .clo g [] [.pt .any [.int .i64 n]] => if g = f then some n else none
  | _ => none, fun n => .clo f [] [.pt .any [.int .i64 n]], fun x a h => by
    split at h
    · split at h
      · rename_i g n hg; simp at h; subst h; subst hg; rfl
      · simp at h
    · simp at h⟩
theorem k_By1 : Known Tryz.prog tau 154 (S3 dInt dInt dPInt fun a b k => .ok (.int .i64 (cmpI (farI k a) (farI k b))) []) := by
  refine known3 hmix tau_ok (ctx_cons k_Far (ctx_cons k_cmpCompare ctx_nil)) (fn := Tryz.f154) (by kernel_rfl) [(1, [(0, 0), (1, 0), (2, 3), (3, 0), (4, 0), (5, 28), (6, 36), (7, 127)])] (by kernel_rfl) _ _ _ _ fun a b k hfit => ⟨rfl, [], ?_⟩
  clear hfit
  (repeat' (first | ((with_reducible refine BdI ?_); (first | ((with_reducible refine SqI ?_ (fun Kv hN hX hR => ?_)); (next => exact rfl)) | ((with_reducible refine JnI ?_ ?_); (next => exact rfl)) | (conv => whnf))) | (with_reducible first | refine BdS (fun Kv hN hX hR => ?_) | refine Stop.mk ?_ | refine Join.mk ⟨fun Kv hN hX hR => ?_, ?_⟩ | apply DrawJ.join | exact SubJ.self _) | ((with_reducible refine SubJ.of ?_); (repeat' (first | with_reducible rfl | ((conv => whnf) <;> (first | with_reducible exact True.intro | with_reducible refine And.intro ?_ ?_ | with_reducible rfl | ((conv => rhs; whnf) <;> with_reducible rfl))))); done) | (with_reducible first | refine FlS (fun Kf hF => ?_) | refine FlN ?_ | refine NdS (fun Kg hG => ?_) | (refine hF _ _ ?_; clear hF; clear Kf) | (refine hG _ _ _ _ ?_; clear hG; clear Kg)) | ((with_reducible refine SqI ?_ (fun Kv hN hX hR => ?_)); (next => exact rfl)) | ((with_reducible refine JnI ?_ ?_); (next => exact rfl)) | ((with_reducible first | refine hN _ ?_ | refine hX _ _ ?_ | refine hR _ ?_); (try (clear hG; clear Kg)); clear hN hX hR; clear Kv) | ((conv => whnf); first | (with_reducible first | rfl | exact True.intro | intro _ | refine And.intro ?_ ?_) | ((with_reducible first | refine hN _ ?_ | refine hX _ _ ?_ | refine hR _ ?_); (try (clear hG; clear Kg)); clear hN hX hR; clear Kv) | (with_reducible first | refine BdS (fun Kv hN hX hR => ?_) | refine Stop.mk ?_ | refine Join.mk ⟨fun Kv hN hX hR => ?_, ?_⟩ | apply DrawJ.join | exact SubJ.self _) | ((with_reducible refine SubJ.of ?_); (repeat' (first | with_reducible rfl | ((conv => whnf) <;> (first | with_reducible exact True.intro | with_reducible refine And.intro ?_ ?_ | with_reducible rfl | ((conv => rhs; whnf) <;> with_reducible rfl))))); done) | (with_reducible first | refine FlS (fun Kf hF => ?_) | refine FlN ?_ | refine NdS (fun Kg hG => ?_) | (refine hF _ _ ?_; clear hF; clear Kf) | (refine hG _ _ _ _ ?_; clear hG; clear Kg))))); all_goals (conv => whnf); all_goals (repeat ((try (clear hG; clear Kg)); clear hN hX hR; clear Kv))
  all_goals first
    | rfl
    | trace_state
theorem t_By : TrKnown Tryz.prog tau 145 (inlT tau (mkCtx []) [] [] Tryz.f145) := inl_ok hmix tau_ok ctx_nil (by kernel_rfl) [] (by kernel_rfl) []
/-- The one that is least far on from a place. -/
def minP (k : Int) : Int → List Int → Int
  | b, [] => b
  | b, x :: l => minP k (if farI k x < farI k b then x else b) l
theorem minP_next {k b : Int} {l : List Int} {i : Nat} (h : i < l.length) : minP k b (l.drop i) = minP k (if farI k (l.getD i 0) < farI k b then l.getD i 0 else b) (l.drop (i + 1)) := by
  rw [drop_one_more (d := 0) h, minP]
theorem minP_end {k b : Int} {l : List Int} {i : Nat} (h : ¬ i < l.length) : minP k b (l.drop i) = b := by
  rw [List.drop_eq_nil_of_le (by omega)]
  rfl
set_option maxHeartbeats 1000000 in
theorem k_MinFunc : Known Tryz.prog tau 144 (S2 dInts (dFnInt 154) fun l k => .ob (0 < l.length) (.int .i64 (minP k (l.getD 0 0) (l.drop 1))) []) := by
  refine known2 hmix tau_ok (ctx_cons k_By1 ctx_nil) (fn := Tryz.f144) (by kernel_rfl) [] (by kernel_rfl) _ _ _ fun l k hfit hs => ⟨rfl,
    [(5, invX (Nat × Int) [5, 6, 14, 15, 16, 17, 18, 19, 20, 21, 22, 23, 24, 25, 26, 27, 28, 29, 30, 31] [] (fun g => 1 ≤ g.1 ∧ g.1 ≤ l.length ∧ minP k (l.getD 0 0) (l.drop 1) = minP k g.2 (l.drop g.1)) (fun g => match g with
      | (i, b) => withS [(6, .int .i64 i), (5, .int .i64 b)]) (fun g => l.length - g.1))], ?_⟩
  have hlen : l.length * 8 ≤ 140737488355328 := hfit.1
  clear hfit
  (repeat' (first | ((with_reducible refine BdI ?_); (first | ((with_reducible refine SqI ?_ (fun Kv hN hX hR => ?_)); (next => exact rfl)) | ((with_reducible refine JnI ?_ ?_); (next => exact rfl)) | (conv => whnf))) | (with_reducible first | refine BdS (fun Kv hN hX hR => ?_) | refine Stop.mk ?_ | refine Join.mk ⟨fun Kv hN hX hR => ?_, ?_⟩ | refine DrawJ.each ?_ | exact SubJ.self _) | with_reducible refine SubJ.of ?_ | (with_reducible first | refine FlS (fun Kf hF => ?_) | refine FlN ?_ | refine NdS (fun Kg hG => ?_) | (refine hF _ _ ?_; clear hF; clear Kf) | (refine hG _ _ _ _ ?_; clear hG; clear Kg)) | ((with_reducible refine SqI ?_ (fun Kv hN hX hR => ?_)); (next => exact rfl)) | ((with_reducible refine JnI ?_ ?_); (next => exact rfl)) | ((with_reducible first | refine hN _ ?_ | refine hX _ _ ?_ | refine hR _ ?_); (try (clear hG; clear Kg)); clear hN hX hR; clear Kv) | ((conv => whnf); first | (with_reducible first | rfl | exact True.intro | refine (fun (_ : (_ : Prop)) => ?_) | refine And.intro ?_ ?_) | ((with_reducible first | refine hN _ ?_ | refine hX _ _ ?_ | refine hR _ ?_); (try (clear hG; clear Kg)); clear hN hX hR; clear Kv) | (with_reducible first | refine BdS (fun Kv hN hX hR => ?_) | refine Stop.mk ?_ | refine Join.mk ⟨fun Kv hN hX hR => ?_, ?_⟩ | refine DrawJ.each ?_ | exact SubJ.self _) | with_reducible refine SubJ.of ?_ | (with_reducible first | refine FlS (fun Kf hF => ?_) | refine FlN ?_ | refine NdS (fun Kg hG => ?_) | (refine hF _ _ ?_; clear hF; clear Kf) | (refine hG _ _ _ _ ?_; clear hG; clear Kg))))); all_goals (conv => whnf); all_goals (repeat ((try (clear hG; clear Kg)); clear hN hX hR; clear Kv))
  all_goals first
    | (exfalso
       have h := of_decide_eq_true (show decide ((l.length : Int) < 1) = true by with_reducible assumption)
       omega)
    | exact Ob.mk ⟨by decide, by omega⟩
    | (refine ⟨(1, l.getD 0 0), ⟨Nat.le_refl _, hs, rfl⟩, ?_⟩
       (repeat' (first | ((with_reducible refine BdI ?_); (first | ((with_reducible refine SqI ?_ (fun Kv hN hX hR => ?_)); (next => exact rfl)) | ((with_reducible refine JnI ?_ ?_); (next => exact rfl)) | (conv => whnf))) | (with_reducible first | refine BdS (fun Kv hN hX hR => ?_) | refine Stop.mk ?_ | refine Join.mk ⟨fun Kv hN hX hR => ?_, ?_⟩ | refine DrawJ.each ?_ | exact SubJ.self _) | with_reducible refine SubJ.of ?_ | (with_reducible first | refine FlS (fun Kf hF => ?_) | refine FlN ?_ | refine NdS (fun Kg hG => ?_) | (refine hF _ _ ?_; clear hF; clear Kf) | (refine hG _ _ _ _ ?_; clear hG; clear Kg)) | ((with_reducible refine SqI ?_ (fun Kv hN hX hR => ?_)); (next => exact rfl)) | ((with_reducible refine JnI ?_ ?_); (next => exact rfl)) | ((with_reducible first | refine hN _ ?_ | refine hX _ _ ?_ | refine hR _ ?_); (try (clear hG; clear Kg)); clear hN hX hR; clear Kv) | ((conv => whnf); first | (with_reducible first | rfl | exact True.intro | intro _ | refine And.intro ?_ ?_) | ((with_reducible first | refine hN _ ?_ | refine hX _ _ ?_ | refine hR _ ?_); (try (clear hG; clear Kg)); clear hN hX hR; clear Kv) | (with_reducible first | refine BdS (fun Kv hN hX hR => ?_) | refine Stop.mk ?_ | refine Join.mk ⟨fun Kv hN hX hR => ?_, ?_⟩ | refine DrawJ.each ?_ | exact SubJ.self _) | with_reducible refine SubJ.of ?_ | (with_reducible first | refine FlS (fun Kf hF => ?_) | refine FlN ?_ | refine NdS (fun Kg hG => ?_) | (refine hF _ _ ?_; clear hF; clear Kf) | (refine hG _ _ _ _ ?_; clear hG; clear Kg))))); all_goals (conv => whnf); all_goals (repeat ((try (clear hG; clear Kg)); clear hN hX hR; clear Kv))
       all_goals rfl)
    | (rintro ⟨i, b⟩ ⟨h1, h2, h3⟩
       dsimp only at h1 h2 h3
       (repeat' (first | ((with_reducible refine BdI ?_); (first | ((with_reducible refine SqI ?_ (fun Kv hN hX hR => ?_)); (next => exact rfl)) | ((with_reducible refine JnI ?_ ?_); (next => exact rfl)) | (conv => whnf))) | (with_reducible first | refine BdS (fun Kv hN hX hR => ?_) | refine Stop.mk ?_ | refine Join.mk ⟨fun Kv hN hX hR => ?_, ?_⟩ | refine DrawJ.each ?_ | exact SubJ.self _) | with_reducible refine SubJ.of ?_ | (with_reducible first | refine FlS (fun Kf hF => ?_) | refine FlN ?_ | refine NdS (fun Kg hG => ?_) | (refine hF _ _ ?_; clear hF; clear Kf) | (refine hG _ _ _ _ ?_; clear hG; clear Kg)) | ((with_reducible refine SqI ?_ (fun Kv hN hX hR => ?_)); (next => exact rfl)) | ((with_reducible refine JnI ?_ ?_); (next => exact rfl)) | ((with_reducible first | refine hN _ ?_ | refine hX _ _ ?_ | refine hR _ ?_); (try (clear hG; clear Kg)); clear hN hX hR; clear Kv) | ((conv => whnf); first | (with_reducible first | rfl | exact True.intro | intro _ | refine And.intro ?_ ?_) | ((with_reducible first | refine hN _ ?_ | refine hX _ _ ?_ | refine hR _ ?_); (try (clear hG; clear Kg)); clear hN hX hR; clear Kv) | (with_reducible first | refine BdS (fun Kv hN hX hR => ?_) | refine Stop.mk ?_ | refine Join.mk ⟨fun Kv hN hX hR => ?_, ?_⟩ | refine DrawJ.each ?_ | exact SubJ.self _) | with_reducible refine SubJ.of ?_ | (with_reducible first | refine FlS (fun Kf hF => ?_) | refine FlN ?_ | refine NdS (fun Kg hG => ?_) | (refine hF _ _ ?_; clear hF; clear Kf) | (refine hG _ _ _ _ ?_; clear hG; clear Kg))))); all_goals (conv => whnf); all_goals (repeat ((try (clear hG; clear Kg)); clear hN hX hR; clear Kv))
       all_goals (try dsimp only at *)
       all_goals (try simp only [Int.toNat_natCast, cmpI_lt] at *)
       all_goals first
         | exact Ob.mk ⟨by omega, of_decide_eq_true (by with_reducible assumption)⟩
         | (have h := of_decide_eq_true (show decide ((i : Int) < (l.length : Nat)) = true by with_reducible assumption)
            have e1 := minP_next (k := k) (b := b) (l := l) (i := i) (by omega)
            first
              | (have h4 := of_decide_eq_true (show decide (farI k (l.getD i 0) < farI k b) = true by with_reducible assumption)
                 rw [if_pos h4] at e1
                 refine ⟨(i + 1, l.getD i 0), ⟨by show 1 ≤ i + 1; omega, by show i + 1 ≤ l.length; omega, h3.trans e1⟩, by show l.length - (i + 1) < l.length - i; omega, ?_⟩
                 (repeat' (first | ((with_reducible refine BdI ?_); (first | ((with_reducible refine SqI ?_ (fun Kv hN hX hR => ?_)); (next => exact rfl)) | ((with_reducible refine JnI ?_ ?_); (next => exact rfl)) | (conv => whnf))) | (with_reducible first | refine BdS (fun Kv hN hX hR => ?_) | refine Stop.mk ?_ | refine Join.mk ⟨fun Kv hN hX hR => ?_, ?_⟩ | refine DrawJ.each ?_ | exact SubJ.self _) | with_reducible refine SubJ.of ?_ | (with_reducible first | refine FlS (fun Kf hF => ?_) | refine FlN ?_ | refine NdS (fun Kg hG => ?_) | (refine hF _ _ ?_; clear hF; clear Kf) | (refine hG _ _ _ _ ?_; clear hG; clear Kg)) | ((with_reducible refine SqI ?_ (fun Kv hN hX hR => ?_)); (next => exact rfl)) | ((with_reducible refine JnI ?_ ?_); (next => exact rfl)) | ((with_reducible first | refine hN _ ?_ | refine hX _ _ ?_ | refine hR _ ?_); (try (clear hG; clear Kg)); clear hN hX hR; clear Kv) | ((conv => whnf); first | (with_reducible first | rfl | exact True.intro | intro _ | refine And.intro ?_ ?_) | ((with_reducible first | refine hN _ ?_ | refine hX _ _ ?_ | refine hR _ ?_); (try (clear hG; clear Kg)); clear hN hX hR; clear Kv) | (with_reducible first | refine BdS (fun Kv hN hX hR => ?_) | refine Stop.mk ?_ | refine Join.mk ⟨fun Kv hN hX hR => ?_, ?_⟩ | refine DrawJ.each ?_ | exact SubJ.self _) | with_reducible refine SubJ.of ?_ | (with_reducible first | refine FlS (fun Kf hF => ?_) | refine FlN ?_ | refine NdS (fun Kg hG => ?_) | (refine hF _ _ ?_; clear hF; clear Kf) | (refine hG _ _ _ _ ?_; clear hG; clear Kg))))); all_goals (conv => whnf); all_goals (repeat ((try (clear hG; clear Kg)); clear hN hX hR; clear Kv))
                 all_goals first
                   | exact wrapI (by omega) (by omega)
                   | rfl)
              | (have h4 := of_decide_eq_false (show decide (farI k (l.getD i 0) < farI k b) = false by with_reducible assumption)
                 rw [if_neg h4] at e1
                 refine ⟨(i + 1, b), ⟨by show 1 ≤ i + 1; omega, by show i + 1 ≤ l.length; omega, h3.trans e1⟩, by show l.length - (i + 1) < l.length - i; omega, ?_⟩
                 (repeat' (first | ((with_reducible refine BdI ?_); (first | ((with_reducible refine SqI ?_ (fun Kv hN hX hR => ?_)); (next => exact rfl)) | ((with_reducible refine JnI ?_ ?_); (next => exact rfl)) | (conv => whnf))) | (with_reducible first | refine BdS (fun Kv hN hX hR => ?_) | refine Stop.mk ?_ | refine Join.mk ⟨fun Kv hN hX hR => ?_, ?_⟩ | refine DrawJ.each ?_ | exact SubJ.self _) | with_reducible refine SubJ.of ?_ | (with_reducible first | refine FlS (fun Kf hF => ?_) | refine FlN ?_ | refine NdS (fun Kg hG => ?_) | (refine hF _ _ ?_; clear hF; clear Kf) | (refine hG _ _ _ _ ?_; clear hG; clear Kg)) | ((with_reducible refine SqI ?_ (fun Kv hN hX hR => ?_)); (next => exact rfl)) | ((with_reducible refine JnI ?_ ?_); (next => exact rfl)) | ((with_reducible first | refine hN _ ?_ | refine hX _ _ ?_ | refine hR _ ?_); (try (clear hG; clear Kg)); clear hN hX hR; clear Kv) | ((conv => whnf); first | (with_reducible first | rfl | exact True.intro | intro _ | refine And.intro ?_ ?_) | ((with_reducible first | refine hN _ ?_ | refine hX _ _ ?_ | refine hR _ ?_); (try (clear hG; clear Kg)); clear hN hX hR; clear Kv) | (with_reducible first | refine BdS (fun Kv hN hX hR => ?_) | refine Stop.mk ?_ | refine Join.mk ⟨fun Kv hN hX hR => ?_, ?_⟩ | refine DrawJ.each ?_ | exact SubJ.self _) | with_reducible refine SubJ.of ?_ | (with_reducible first | refine FlS (fun Kf hF => ?_) | refine FlN ?_ | refine NdS (fun Kg hG => ?_) | (refine hF _ _ ?_; clear hF; clear Kf) | (refine hG _ _ _ _ ?_; clear hG; clear Kg))))); all_goals (conv => whnf); all_goals (repeat ((try (clear hG; clear Kg)); clear hN hX hR; clear Kv))
                 all_goals first
                   | exact wrapI (by omega) (by omega)
                   | rfl))
         | (have h := of_decide_eq_false (show decide ((i : Int) < (l.length : Nat)) = false by with_reducible assumption)
            rw [h3, minP_end (by omega)])
         | trace_state)
    | trace_state
def rowMayB (k : Int) (l : List Int) : Bool := placeB k && (decide (l.length ≤ 64) && l.all placeB)
theorem k_rowMay : Known Tryz.prog tau 143 (S2 dInt dInts fun k l => okB (rowMayB k l)) := by
  refine known2 hmix tau_ok (ctx_cons k_Place (ctx_cons k_Places ctx_nil)) (fn := Tryz.f143) (by kernel_rfl) [] (by kernel_rfl) _ _ _ fun k l hfit => ⟨rfl, [], ?_⟩
  clear hfit
  (repeat' (first | ((with_reducible refine BdI ?_); (first | ((with_reducible refine SqI ?_ (fun Kv hN hX hR => ?_)); (next => exact rfl)) | ((with_reducible refine JnI ?_ ?_); (next => exact rfl)) | (conv => whnf))) | (with_reducible first | refine BdS (fun Kv hN hX hR => ?_) | refine Stop.mk ?_ | refine Join.mk ⟨fun Kv hN hX hR => ?_, ?_⟩ | refine DrawJ.each ?_ | exact SubJ.self _) | with_reducible refine SubJ.of ?_ | (with_reducible first | refine FlS (fun Kf hF => ?_) | refine FlN ?_ | refine NdS (fun Kg hG => ?_) | (refine hF _ _ ?_; clear hF; clear Kf) | (refine hG _ _ _ _ ?_; clear hG; clear Kg)) | ((with_reducible refine SqI ?_ (fun Kv hN hX hR => ?_)); (next => exact rfl)) | ((with_reducible refine JnI ?_ ?_); (next => exact rfl)) | ((with_reducible first | refine hN _ ?_ | refine hX _ _ ?_ | refine hR _ ?_); (try (clear hG; clear Kg)); clear hN hX hR; clear Kv) | ((conv => whnf); first | (with_reducible first | rfl | exact True.intro | intro _ | refine And.intro ?_ ?_) | ((with_reducible first | refine hN _ ?_ | refine hX _ _ ?_ | refine hR _ ?_); (try (clear hG; clear Kg)); clear hN hX hR; clear Kv) | (with_reducible first | refine BdS (fun Kv hN hX hR => ?_) | refine Stop.mk ?_ | refine Join.mk ⟨fun Kv hN hX hR => ?_, ?_⟩ | refine DrawJ.each ?_ | exact SubJ.self _) | with_reducible refine SubJ.of ?_ | (with_reducible first | refine FlS (fun Kf hF => ?_) | refine FlN ?_ | refine NdS (fun Kg hG => ?_) | (refine hF _ _ ?_; clear hF; clear Kf) | (refine hG _ _ _ _ ?_; clear hG; clear Kg))))); all_goals (conv => whnf); all_goals (repeat ((try (clear hG; clear Kg)); clear hN hX hR; clear Kv))
  all_goals first
    | (have h1 : placeB k = true := by with_reducible assumption
       have h2 := of_decide_eq_true (show decide ((l.length : Int) ≤ 64) = true by with_reducible assumption)
       unfold rowMayB
       rw [h1, decide_eq_true (show l.length ≤ 64 by omega)]
       simp
       done)
    | (have h2 := of_decide_eq_false (show decide ((l.length : Int) ≤ 64) = false by with_reducible assumption)
       unfold rowMayB
       rw [decide_eq_false (show ¬ l.length ≤ 64 by omega)]
       simp
       done)
    | (have h1 : placeB k = false := by with_reducible assumption
       unfold rowMayB
       rw [h1]
       rfl)
    | trace_state
noncomputable def ownP (l : List Int) (k : Int) : Int × Int := Classical.choose (seal_ex (if rowMayB k l = true ∧ 0 < l.length then (minP k (l.getD 0 0) (l.drop 1), (0 : Int)) else (0, 200)))
theorem ownP_def (l : List Int) (k : Int) : ownP l k = if rowMayB k l = true ∧ 0 < l.length then (minP k (l.getD 0 0) (l.drop 1), 0) else (0, 200) := Classical.choose_spec (seal_ex _)
theorem ownP_yes {l : List Int} {k : Int} (h : rowMayB k l = true) (h2 : 0 < l.length) : ownP l k = (minP k (l.getD 0 0) (l.drop 1), 0) := by rw [ownP_def, if_pos ⟨h, h2⟩]
theorem ownP_no {l : List Int} {k : Int} (h : rowMayB k l = false ∨ l.length = 0) : ownP l k = (0, 200) := by
  rw [ownP_def, if_neg]
  rintro ⟨h1, h2⟩
  rcases h with h | h
  · rw [h1] at h; simp at h
  · omega
noncomputable def oOwn (l : List Int) (k : Int) : Out := .ok (.tup [.int .i64 (ownP l k).1, .int .i64 (ownP l k).2]) []
theorem k_rowOwner : Known Tryz.prog tau 123 (S2 dInts dInt oOwn) := by
  refine knownX2 hmix tau_ok (fn := Tryz.f123) (by kernel_rfl) [] (by kernel_rfl) _ _ _ fun l k hfit => ⟨rfl, _, ctx_tr t_By (ctx_cons k_rowMay (ctx_cons k_MinFunc ctx_nil)), [], ?_⟩
  clear hfit
  (repeat' (first | ((with_reducible refine BdI ?_); (first | ((with_reducible refine SqI ?_ (fun Kv hN hX hR => ?_)); (next => exact rfl)) | ((with_reducible refine JnI ?_ ?_); (next => exact rfl)) | (conv => whnf))) | (with_reducible first | refine BdS (fun Kv hN hX hR => ?_) | refine Stop.mk ?_ | refine Join.mk ⟨fun Kv hN hX hR => ?_, ?_⟩ | refine DrawJ.each ?_ | exact SubJ.self _) | with_reducible refine SubJ.of ?_ | (with_reducible first | refine FlS (fun Kf hF => ?_) | refine FlN ?_ | refine NdS (fun Kg hG => ?_) | (refine hF _ _ ?_; clear hF; clear Kf) | (refine hG _ _ _ _ ?_; clear hG; clear Kg)) | ((with_reducible refine SqI ?_ (fun Kv hN hX hR => ?_)); (next => exact rfl)) | ((with_reducible refine JnI ?_ ?_); (next => exact rfl)) | ((with_reducible first | refine hN _ ?_ | refine hX _ _ ?_ | refine hR _ ?_); (try (clear hG; clear Kg)); clear hN hX hR; clear Kv) | ((conv => whnf); first | (with_reducible first | rfl | exact True.intro | intro _ | refine And.intro ?_ ?_) | ((with_reducible first | refine hN _ ?_ | refine hX _ _ ?_ | refine hR _ ?_); (try (clear hG; clear Kg)); clear hN hX hR; clear Kv) | (with_reducible first | refine BdS (fun Kv hN hX hR => ?_) | refine Stop.mk ?_ | refine Join.mk ⟨fun Kv hN hX hR => ?_, ?_⟩ | refine DrawJ.each ?_ | exact SubJ.self _) | with_reducible refine SubJ.of ?_ | (with_reducible first | refine FlS (fun Kf hF => ?_) | refine FlN ?_ | refine NdS (fun Kg hG => ?_) | (refine hF _ _ ?_; clear hF; clear Kf) | (refine hG _ _ _ _ ?_; clear hG; clear Kg))))); all_goals (conv => whnf); all_goals (repeat ((try (clear hG; clear Kg)); clear hN hX hR; clear Kv))
  all_goals first
    | (rw [ownP_no (.inl (nf (show (!rowMayB k l) = true by with_reducible assumption)))]; done)
    | (have h := of_decide_eq_true (show decide ((l.length : Int) = 0) = true by with_reducible assumption)
       rw [ownP_no (.inr (by omega))]
       done)
    | (have h := of_decide_eq_false (show decide ((l.length : Int) = 0) = false by with_reducible assumption)
       have h1 : rowMayB k l = true := nt (by with_reducible assumption)
       first
         | exact Ob.mk (by omega)
         | (rw [ownP_yes h1 (by omega)]; done))
    | trace_state
end Go.Proofs.YtmhieddhmebfhaaGreat

/- slices.Clone at one type: its walk. -/
namespace Go.Proofs.YtmhieddhmebfhaaGreat
open Go.RowKit
set_option maxHeartbeats 1000000 in
theorem w_CloneItems : CloneW Tryz.prog 76 68 5 40 := by
  obtain ⟨hk10, het, ti, hti, hsz, hby, _⟩ := tau_ok.rk 68 4 (by kernel_rfl)
  obtain ⟨x0, z, g1, g2, g3, g4, g5, g6⟩ := (tau_ok.ti _ ti hti).info
  have g2 : x0.size = 5 := g2.trans hsz
  have g3 : x0.bytes = 40 := g3.trans hby
  have g5 : z.cells.size = 5 := g5.trans hsz
  clear hk10 het g6
  have t22 : Tryz.prog.underlying 26 = some (.slice 68) := Tryz.underlying26
  have q22 : ∀ (w : World) (a : Option Addr) (n c n' c' : Nat), (binOp .eql 26 (.slice a n c) (.slice none n' c')).run Tryz.prog w = .ok (.bool a.isNone) w := fun w a n c n' c' => Lib.run_eql_slice_nil w _ _ a n c n' c' t22
  refine ⟨fnOk_enters (fn := Tryz.f76) (D := []) (by kernel_rfl) (by kernel_rfl), fun n c w => ?_, fun ad n c news w hl hn hbig hc h1 => ?_⟩
  · go_enter Tryz.func76, Tryz.ntmps76
    go_wp2
    go_ret
    exact ⟨rfl, rfl⟩
  · have A : Aside (∀ j u, news[j]? = some u → w.cell? (ad.add j) = some u) := hc
    clear hc
    go_enter Tryz.func76, Tryz.ntmps76
    go_wp2_with (at_builtin; refine wpList_append_own _ rfl _ _ 26 rfl w.heap.size 68 x0 z 5 40 t22 g1 g4 g2 g3 g5 (by decide) _ _ _ rfl (World.ownsRow_made w #[] 0 (Nat.le_refl _) (Nat.zero_le _) (by simp)) ad n c news rfl ?qc1 ?qc2 ?qc3 ?qc4 ?qc5 ?qc6 ?_)
    case qc1 => exact hl
    case qc2 =>
      intro j u hj
      exact Lib.cell?_alloc_some _ (A.out j u hj)
    case qc3 => exact h1
    case qc4 => rw [Nat.zero_add]; exact hn
    case qc5 => rw [Nat.zero_add]; exact hbig
    case qc6 => simp
    intro v' w1 hown hgrow hnil
    go_wp2
    go_ret
    refine ⟨v', rfl, by simpa using hown, ?_⟩
    exact ((Below.refl _ w).alloc (Nat.le_refl _) _).grown hgrow (by simp) (by intro k hk; simp [Value.ownBlock] at hk; omega)
theorem k_CloneItems : Known Tryz.prog tau 76 (S1 dItems fun l => .ok (.own 0) [.items l]) := clone_known dItems .items (fun _ => rfl) (fun _ => rfl) (kd := 4) (fun _ => rfl) w_CloneItems
end Go.Proofs.YtmhieddhmebfhaaGreat

/- slices.Clone at one type: its walk. -/
namespace Go.Proofs.YtmhieddhmebfhaaGreat
open Go.RowKit
set_option maxHeartbeats 1000000 in
theorem w_CloneTolds : CloneW Tryz.prog 77 121 3 24 := by
  obtain ⟨hk10, het, ti, hti, hsz, hby, _⟩ := tau_ok.rk 121 5 (by kernel_rfl)
  obtain ⟨x0, z, g1, g2, g3, g4, g5, g6⟩ := (tau_ok.ti _ ti hti).info
  have g2 : x0.size = 3 := g2.trans hsz
  have g3 : x0.bytes = 24 := g3.trans hby
  have g5 : z.cells.size = 3 := g5.trans hsz
  clear hk10 het g6
  have t22 : Tryz.prog.underlying 27 = some (.slice 121) := Tryz.underlying27
  have q22 : ∀ (w : World) (a : Option Addr) (n c n' c' : Nat), (binOp .eql 27 (.slice a n c) (.slice none n' c')).run Tryz.prog w = .ok (.bool a.isNone) w := fun w a n c n' c' => Lib.run_eql_slice_nil w _ _ a n c n' c' t22
  refine ⟨fnOk_enters (fn := Tryz.f77) (D := []) (by kernel_rfl) (by kernel_rfl), fun n c w => ?_, fun ad n c news w hl hn hbig hc h1 => ?_⟩
  · go_enter Tryz.func77, Tryz.ntmps77
    go_wp2
    go_ret
    exact ⟨rfl, rfl⟩
  · have A : Aside (∀ j u, news[j]? = some u → w.cell? (ad.add j) = some u) := hc
    clear hc
    go_enter Tryz.func77, Tryz.ntmps77
    go_wp2_with (at_builtin; refine wpList_append_own _ rfl _ _ 27 rfl w.heap.size 121 x0 z 3 24 t22 g1 g4 g2 g3 g5 (by decide) _ _ _ rfl (World.ownsRow_made w #[] 0 (Nat.le_refl _) (Nat.zero_le _) (by simp)) ad n c news rfl ?qc1 ?qc2 ?qc3 ?qc4 ?qc5 ?qc6 ?_)
    case qc1 => exact hl
    case qc2 =>
      intro j u hj
      exact Lib.cell?_alloc_some _ (A.out j u hj)
    case qc3 => exact h1
    case qc4 => rw [Nat.zero_add]; exact hn
    case qc5 => rw [Nat.zero_add]; exact hbig
    case qc6 => simp
    intro v' w1 hown hgrow hnil
    go_wp2
    go_ret
    refine ⟨v', rfl, by simpa using hown, ?_⟩
    exact ((Below.refl _ w).alloc (Nat.le_refl _) _).grown hgrow (by simp) (by intro k hk; simp [Value.ownBlock] at hk; omega)
theorem k_CloneTolds : Known Tryz.prog tau 77 (S1 dTolds fun l => .ok (.own 0) [.tolds l]) := clone_known dTolds .tolds (fun _ => rfl) (fun _ => rfl) (kd := 5) (fun _ => rfl) w_CloneTolds
end Go.Proofs.YtmhieddhmebfhaaGreat
