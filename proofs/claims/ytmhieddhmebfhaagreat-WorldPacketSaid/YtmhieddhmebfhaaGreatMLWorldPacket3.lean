/- A part of the proof of WorldPacket: F16d, F16e, F16f, F16g, F16h, F16i, F16j, VLe, ClPeers, F11a, F11b, F11c, P11, F11d, F19a, ClItems, ClTolds, F19b, F23a, F23b, F1m. -/
import Derived.Test.YtmhieddhmebfhaaGreatMLWorldPacket2
import Derived.Shelf.RegionOpenPlain
import Derived.Lib.Walk
import Derived.Lib.SliceRun
import Derived.Laws.AppendOwn
import Derived.Conc.AppendEvents2
import Derived.Lib.AppendZeros
/- Contracts: who is heard: the program's. -/
namespace Go.Proofs.YtmhieddhmebfhaaGreat
open Go.RowKit
set_option maxRecDepth 20000

/-- A struct of one number. -/
def dOrd : Dec Int := ⟨fun x => match x with
  | .agg [.int .i64 b] => some b
  | _ => none, fun b => .agg [.int .i64 b], fun x a h => by
    split at h <;> simp at h; subst h; rfl⟩
/-- A method's value, bound to a struct of one number. -/
def dBound (f : FuncId) : Dec Int := ⟨fun x => match x with
  | .clo g [.agg [.int .i64 b]] [] => match Nat.beq g f with
    | true => some b
    | false => none
  | _ => none, fun b => .clo f [.agg [.int .i64 b]] [], fun x a h => by
    split at h
    · split at h
      · rename_i hg; simp at h; subst h; rw [Nat.eq_of_beq_eq_true hg]
      · simp at h
    · simp at h⟩
/-- A view's place. -/
def dPView : Dec GView := ⟨fun x => match x with
  | .pt .any [.int .i64 id, .row .any (.peers p), .row .any (.ints q)] => some ⟨id, p, q⟩
  | _ => none, fun v => .pt .any [.int .i64 v.id, .row .any (.peers v.peers), .row .any (.ints v.passive)], fun x a h => by
    split at h <;> simp at h; subst h; rfl⟩
/-- A function that has a view's place. -/
def dFnView (f : FuncId) : Dec GView := ⟨fun x => match x with
  | .clo g [] [.pt .any [.int .i64 id, .row .any (.peers p), .row .any (.ints q)]] => match Nat.beq g f with
    | true => some ⟨id, p, q⟩
    | false => none
  | _ => none, fun v => .clo f [] [.pt .any [.int .i64 v.id, .row .any (.peers v.peers), .row .any (.ints v.passive)]], fun x a h => by
    split at h
    · split at h
      · rename_i hg; simp at h; subst h; rw [Nat.eq_of_beq_eq_true hg]
      · simp at h
    · simp at h⟩
theorem k_find : Known Tryz.prog tau 151 (S3 dOrd dPeer dInt fun b p x => .ok (.int .i64 (cmpI (farI b p.id) (farI b x))) []) := by
  refine known3 hmix tau_ok (ctx_cons k_Far (ctx_cons k_cmpCompare ctx_nil)) (fn := Tryz.f151) (by kernel_rfl) [(1, [(0, 0), (1, 1), (2, 0), (3, 4), (4, 10), (5, 0), (6, 32), (7, 0), (8, 208), (9, 272), (10, 1023)])] (by kernel_rfl) _ _ _ _ fun b p x hfit => ⟨rfl, [], ?_⟩
  (repeat' (first | ((with_reducible refine BdI ?_); (first | ((with_reducible refine SqI ?_ (fun Kv hN hX hR => ?_)); (next => exact rfl)) | ((with_reducible refine JnI ?_ ?_); (next => exact rfl)) | (conv => whnf))) | (with_reducible first | refine BdS (fun Kv hN hX hR => ?_) | refine Stop.mk ?_ | refine Join.mk ⟨fun Kv hN hX hR => ?_, ?_⟩ | apply DrawJ.join | exact SubJ.self _) | ((with_reducible refine SubJ.of ?_); (repeat' (first | with_reducible rfl | ((conv => whnf) <;> (first | with_reducible exact True.intro | with_reducible refine And.intro ?_ ?_ | with_reducible rfl | ((conv => rhs; whnf) <;> with_reducible rfl))))); done) | (with_reducible first | refine FlS (fun Kf hF => ?_) | refine FlN ?_ | refine NdS (fun Kg hG => ?_) | (refine hF _ _ ?_; clear hF; clear Kf) | (refine hG _ _ _ _ ?_; clear hG; clear Kg)) | ((with_reducible refine SqI ?_ (fun Kv hN hX hR => ?_)); (next => exact rfl)) | ((with_reducible refine JnI ?_ ?_); (next => exact rfl)) | ((with_reducible first | refine hN _ ?_ | refine hX _ _ ?_ | refine hR _ ?_); (try (clear hG; clear Kg)); clear hN hX hR; clear Kv) | ((conv => whnf); first | (with_reducible first | rfl | exact True.intro | intro _ | refine And.intro ?_ ?_) | ((with_reducible first | refine hN _ ?_ | refine hX _ _ ?_ | refine hR _ ?_); (try (clear hG; clear Kg)); clear hN hX hR; clear Kv) | (with_reducible first | refine BdS (fun Kv hN hX hR => ?_) | refine Stop.mk ?_ | refine Join.mk ⟨fun Kv hN hX hR => ?_, ?_⟩ | apply DrawJ.join | exact SubJ.self _) | ((with_reducible refine SubJ.of ?_); (repeat' (first | with_reducible rfl | ((conv => whnf) <;> (first | with_reducible exact True.intro | with_reducible refine And.intro ?_ ?_ | with_reducible rfl | ((conv => rhs; whnf) <;> with_reducible rfl))))); done) | (with_reducible first | refine FlS (fun Kf hF => ?_) | refine FlN ?_ | refine NdS (fun Kg hG => ?_) | (refine hF _ _ ?_; clear hF; clear Kf) | (refine hG _ _ _ _ ?_; clear hG; clear Kg))))); all_goals (conv => whnf); all_goals (repeat ((try (clear hG; clear Kg)); clear hN hX hR; clear Kv))
  all_goals first
    | rfl
    | trace_state
def RisingP (b : Int) (l : List GPeer) : Prop := ∀ s t, s < t → t < l.length → farI b (l.getD s default).id < farI b (l.getD t default).id
theorem risingP_lt {b : Int} {l : List GPeer} (hs : RisingP b l) {s t : Nat} (h : s ≤ t) (ht : t < l.length) : farI b (l.getD s default).id ≤ farI b (l.getD t default).id := by
  rcases Nat.lt_or_eq_of_le h with h | rfl
  · exact Int.le_of_lt (hs s t h ht)
  · exact Int.le_refl _
def cntP (b : Int) (l : List GPeer) (x : Int) : Int := ((l.countP fun p => decide (farI b p.id < farI b x) : Nat) : Int)
def hasP (b : Int) (l : List GPeer) (x : Int) : Bool := l.any fun p => decide (farI b p.id = farI b x)
theorem cmpI_lt (a b : Int) : decide (cmpI a b < 0) = decide (a < b) := by
  unfold cmpI
  split
  · simp [*]
  · split <;> simp <;> omega
theorem cmpI_eq (a b : Int) : decide (cmpI a b = 0) = decide (a = b) := by
  unfold cmpI
  split
  · simp; omega
  · split <;> simp <;> omega
theorem k_searchP : Known Tryz.prog tau 152 (S3 dPeers dInt (dBound 151) fun l x b => .ob (RisingP b l) (.tup [.int .i64 (cntP b l x), .bool (hasP b l x)]) []) := by
  refine known3 hmix tau_ok (ctx_cons k_find ctx_nil) (fn := Tryz.f152) (by kernel_rfl) [] (by kernel_rfl) _ _ _ _ fun l x b hfit hs => ⟨rfl,
    [(3, invX (Nat × Nat) [9, 10, 11, 15, 16, 17, 18, 19, 20, 21, 22, 23, 24, 25, 26, 27, 28, 29, 30, 31, 32, 33, 34] [] (fun g => g.1 ≤ g.2 ∧ g.2 ≤ l.length ∧ (∀ t, t < g.1 → farI b (l.getD t default).id < farI b x) ∧ ∀ t, g.2 ≤ t → t < l.length → farI b x ≤ farI b (l.getD t default).id) (fun g => withS [(9, .int .i64 g.1), (10, .int .i64 g.2)]) (fun g => g.2 - g.1))], ?_⟩
  have hlen : l.length * 16 ≤ 140737488355328 := hfit.1
  clear hfit
  (repeat' (first | ((with_reducible refine BdI ?_); (first | ((with_reducible refine SqI ?_ (fun Kv hN hX hR => ?_)); (next => exact rfl)) | ((with_reducible refine JnI ?_ ?_); (next => exact rfl)) | (conv => whnf))) | (with_reducible first | refine BdS (fun Kv hN hX hR => ?_) | refine Stop.mk ?_ | refine Join.mk ⟨fun Kv hN hX hR => ?_, ?_⟩ | refine DrawJ.each ?_ | exact SubJ.self _) | with_reducible refine SubJ.of ?_ | (with_reducible first | refine FlS (fun Kf hF => ?_) | refine FlN ?_ | refine NdS (fun Kg hG => ?_) | (refine hF _ _ ?_; clear hF; clear Kf) | (refine hG _ _ _ _ ?_; clear hG; clear Kg)) | ((with_reducible refine SqI ?_ (fun Kv hN hX hR => ?_)); (next => exact rfl)) | ((with_reducible refine JnI ?_ ?_); (next => exact rfl)) | ((with_reducible first | refine hN _ ?_ | refine hX _ _ ?_ | refine hR _ ?_); (try (clear hG; clear Kg)); clear hN hX hR; clear Kv) | ((conv => whnf); first | (with_reducible first | rfl | exact True.intro | refine (fun (_ : (_ : Prop)) => ?_) | refine And.intro ?_ ?_) | ((with_reducible first | refine hN _ ?_ | refine hX _ _ ?_ | refine hR _ ?_); (try (clear hG; clear Kg)); clear hN hX hR; clear Kv) | (with_reducible first | refine BdS (fun Kv hN hX hR => ?_) | refine Stop.mk ?_ | refine Join.mk ⟨fun Kv hN hX hR => ?_, ?_⟩ | refine DrawJ.each ?_ | exact SubJ.self _) | with_reducible refine SubJ.of ?_ | (with_reducible first | refine FlS (fun Kf hF => ?_) | refine FlN ?_ | refine NdS (fun Kg hG => ?_) | (refine hF _ _ ?_; clear hF; clear Kf) | (refine hG _ _ _ _ ?_; clear hG; clear Kg))))); all_goals (conv => whnf); all_goals (repeat ((try (clear hG; clear Kg)); clear hN hX hR; clear Kv))
  all_goals first
    | (refine ⟨(0, l.length), ⟨Nat.zero_le _, Nat.le_refl _, by intros; omega, by intros; omega⟩, ?_⟩
       (repeat' (first | ((with_reducible refine BdI ?_); (first | ((with_reducible refine SqI ?_ (fun Kv hN hX hR => ?_)); (next => exact rfl)) | ((with_reducible refine JnI ?_ ?_); (next => exact rfl)) | (conv => whnf))) | (with_reducible first | refine BdS (fun Kv hN hX hR => ?_) | refine Stop.mk ?_ | refine Join.mk ⟨fun Kv hN hX hR => ?_, ?_⟩ | refine DrawJ.each ?_ | exact SubJ.self _) | with_reducible refine SubJ.of ?_ | (with_reducible first | refine FlS (fun Kf hF => ?_) | refine FlN ?_ | refine NdS (fun Kg hG => ?_) | (refine hF _ _ ?_; clear hF; clear Kf) | (refine hG _ _ _ _ ?_; clear hG; clear Kg)) | ((with_reducible refine SqI ?_ (fun Kv hN hX hR => ?_)); (next => exact rfl)) | ((with_reducible refine JnI ?_ ?_); (next => exact rfl)) | ((with_reducible first | refine hN _ ?_ | refine hX _ _ ?_ | refine hR _ ?_); (try (clear hG; clear Kg)); clear hN hX hR; clear Kv) | ((conv => whnf); first | (with_reducible first | rfl | exact True.intro | intro _ | refine And.intro ?_ ?_) | ((with_reducible first | refine hN _ ?_ | refine hX _ _ ?_ | refine hR _ ?_); (try (clear hG; clear Kg)); clear hN hX hR; clear Kv) | (with_reducible first | refine BdS (fun Kv hN hX hR => ?_) | refine Stop.mk ?_ | refine Join.mk ⟨fun Kv hN hX hR => ?_, ?_⟩ | refine DrawJ.each ?_ | exact SubJ.self _) | with_reducible refine SubJ.of ?_ | (with_reducible first | refine FlS (fun Kf hF => ?_) | refine FlN ?_ | refine NdS (fun Kg hG => ?_) | (refine hF _ _ ?_; clear hF; clear Kf) | (refine hG _ _ _ _ ?_; clear hG; clear Kg))))); all_goals (conv => whnf); all_goals (repeat ((try (clear hG; clear Kg)); clear hN hX hR; clear Kv))
       all_goals rfl)
    | (rintro ⟨i, j⟩ ⟨hij, hj, h1, h2⟩
       dsimp only at hij hj h1 h2
       (repeat' (first | ((with_reducible refine BdI ?_); (first | ((with_reducible refine SqI ?_ (fun Kv hN hX hR => ?_)); (next => exact rfl)) | ((with_reducible refine JnI ?_ ?_); (next => exact rfl)) | (conv => whnf))) | (with_reducible first | refine BdS (fun Kv hN hX hR => ?_) | refine Stop.mk ?_ | refine Join.mk ⟨fun Kv hN hX hR => ?_, ?_⟩ | refine DrawJ.each ?_ | exact SubJ.self _) | with_reducible refine SubJ.of ?_ | (with_reducible first | refine FlS (fun Kf hF => ?_) | refine FlN ?_ | refine NdS (fun Kg hG => ?_) | (refine hF _ _ ?_; clear hF; clear Kf) | (refine hG _ _ _ _ ?_; clear hG; clear Kg)) | ((with_reducible refine SqI ?_ (fun Kv hN hX hR => ?_)); (next => exact rfl)) | ((with_reducible refine JnI ?_ ?_); (next => exact rfl)) | ((with_reducible first | refine hN _ ?_ | refine hX _ _ ?_ | refine hR _ ?_); (try (clear hG; clear Kg)); clear hN hX hR; clear Kv) | ((conv => whnf); first | (with_reducible first | rfl | exact True.intro | intro _ | refine And.intro ?_ ?_) | ((with_reducible first | refine hN _ ?_ | refine hX _ _ ?_ | refine hR _ ?_); (try (clear hG; clear Kg)); clear hN hX hR; clear Kv) | (with_reducible first | refine BdS (fun Kv hN hX hR => ?_) | refine Stop.mk ?_ | refine Join.mk ⟨fun Kv hN hX hR => ?_, ?_⟩ | refine DrawJ.each ?_ | exact SubJ.self _) | with_reducible refine SubJ.of ?_ | (with_reducible first | refine FlS (fun Kf hF => ?_) | refine FlN ?_ | refine NdS (fun Kg hG => ?_) | (refine hF _ _ ?_; clear hF; clear Kf) | (refine hG _ _ _ _ ?_; clear hG; clear Kg))))); all_goals (conv => whnf); all_goals (repeat ((try (clear hG; clear Kg)); clear hN hX hR; clear Kv))
       all_goals (try dsimp only at *)
       all_goals (try simp only [cmpI_lt, cmpI_eq] at *)
       all_goals first
         | (refine Ob.mk ?_; decide)
         | (have hlt := of_decide_eq_true (show decide ((i : Int) < (j : Int)) = true by with_reducible assumption)
            obtain ⟨h, eh, h3, h4⟩ := mid_ok (i := i) (j := j) (n := l.length) (by omega) hj (by omega)
            simp only [eh, Int.toNat_natCast] at *
            first
              | exact Ob.mk ⟨by omega, by omega⟩
              | (have hc := of_decide_eq_true (show decide (farI b (l.getD h default).id < farI b x) = true by with_reducible assumption)
                 refine ⟨(h + 1, j), ⟨by omega, hj, fun t ht => ?_, h2⟩, by show j - (h + 1) < j - i; omega, ?_⟩
                 · have := risingP_lt hs (s := t) (t := h) (by omega) (by omega)
                   omega
                 · have e1 := wrap_up (h := h) (n := l.length) (by omega) (by omega)
                   (repeat' (first | ((with_reducible refine BdI ?_); (first | ((with_reducible refine SqI ?_ (fun Kv hN hX hR => ?_)); (next => exact rfl)) | ((with_reducible refine JnI ?_ ?_); (next => exact rfl)) | (conv => whnf))) | (with_reducible first | refine BdS (fun Kv hN hX hR => ?_) | refine Stop.mk ?_ | refine Join.mk ⟨fun Kv hN hX hR => ?_, ?_⟩ | refine DrawJ.each ?_ | exact SubJ.self _) | with_reducible refine SubJ.of ?_ | (with_reducible first | refine FlS (fun Kf hF => ?_) | refine FlN ?_ | refine NdS (fun Kg hG => ?_) | (refine hF _ _ ?_; clear hF; clear Kf) | (refine hG _ _ _ _ ?_; clear hG; clear Kg)) | ((with_reducible refine SqI ?_ (fun Kv hN hX hR => ?_)); (next => exact rfl)) | ((with_reducible refine JnI ?_ ?_); (next => exact rfl)) | ((with_reducible first | refine hN _ ?_ | refine hX _ _ ?_ | refine hR _ ?_); (try (clear hG; clear Kg)); clear hN hX hR; clear Kv) | ((conv => whnf); first | (with_reducible first | rfl | exact True.intro | intro _ | refine And.intro ?_ ?_) | ((with_reducible first | refine hN _ ?_ | refine hX _ _ ?_ | refine hR _ ?_); (try (clear hG; clear Kg)); clear hN hX hR; clear Kv) | (with_reducible first | refine BdS (fun Kv hN hX hR => ?_) | refine Stop.mk ?_ | refine Join.mk ⟨fun Kv hN hX hR => ?_, ?_⟩ | refine DrawJ.each ?_ | exact SubJ.self _) | with_reducible refine SubJ.of ?_ | (with_reducible first | refine FlS (fun Kf hF => ?_) | refine FlN ?_ | refine NdS (fun Kg hG => ?_) | (refine hF _ _ ?_; clear hF; clear Kf) | (refine hG _ _ _ _ ?_; clear hG; clear Kg))))); all_goals (conv => whnf); all_goals (repeat ((try (clear hG; clear Kg)); clear hN hX hR; clear Kv))
                   all_goals first
                     | exact e1
                     | rfl)
              | (have hc := of_decide_eq_false (show decide (farI b (l.getD h default).id < farI b x) = false by with_reducible assumption)
                 refine ⟨(i, h), ⟨by omega, by omega, h1, fun t ht ht2 => ?_⟩, by show h - i < j - i; omega, ?_⟩
                 · have := risingP_lt hs (s := h) (t := t) ht ht2
                   omega
                 · (repeat' (first | ((with_reducible refine BdI ?_); (first | ((with_reducible refine SqI ?_ (fun Kv hN hX hR => ?_)); (next => exact rfl)) | ((with_reducible refine JnI ?_ ?_); (next => exact rfl)) | (conv => whnf))) | (with_reducible first | refine BdS (fun Kv hN hX hR => ?_) | refine Stop.mk ?_ | refine Join.mk ⟨fun Kv hN hX hR => ?_, ?_⟩ | refine DrawJ.each ?_ | exact SubJ.self _) | with_reducible refine SubJ.of ?_ | (with_reducible first | refine FlS (fun Kf hF => ?_) | refine FlN ?_ | refine NdS (fun Kg hG => ?_) | (refine hF _ _ ?_; clear hF; clear Kf) | (refine hG _ _ _ _ ?_; clear hG; clear Kg)) | ((with_reducible refine SqI ?_ (fun Kv hN hX hR => ?_)); (next => exact rfl)) | ((with_reducible refine JnI ?_ ?_); (next => exact rfl)) | ((with_reducible first | refine hN _ ?_ | refine hX _ _ ?_ | refine hR _ ?_); (try (clear hG; clear Kg)); clear hN hX hR; clear Kv) | ((conv => whnf); first | (with_reducible first | rfl | exact True.intro | intro _ | refine And.intro ?_ ?_) | ((with_reducible first | refine hN _ ?_ | refine hX _ _ ?_ | refine hR _ ?_); (try (clear hG; clear Kg)); clear hN hX hR; clear Kv) | (with_reducible first | refine BdS (fun Kv hN hX hR => ?_) | refine Stop.mk ?_ | refine Join.mk ⟨fun Kv hN hX hR => ?_, ?_⟩ | refine DrawJ.each ?_ | exact SubJ.self _) | with_reducible refine SubJ.of ?_ | (with_reducible first | refine FlS (fun Kf hF => ?_) | refine FlN ?_ | refine NdS (fun Kg hG => ?_) | (refine hF _ _ ?_; clear hF; clear Kf) | (refine hG _ _ _ _ ?_; clear hG; clear Kg))))); all_goals (conv => whnf); all_goals (repeat ((try (clear hG; clear Kg)); clear hN hX hR; clear Kv))
                   all_goals rfl))
         | (have hge := of_decide_eq_false (show decide ((i : Int) < (j : Int)) = false by with_reducible assumption)
            obtain rfl : i = j := by omega
            have e1 : cntP b l x = (i : Int) := congrArg Int.ofNat (search_end (d := default) (κ := fun p : GPeer => farI b p.id) (K := farI b x) hj h1 h2)
            have e2 : hasP b l x = (decide (i < l.length) && decide (farI b (l.getD i default).id = farI b x)) := search_there (d := default) (κ := fun p : GPeer => farI b p.id) hs h1 h2
            (try simp only [Int.toNat_natCast] at *)
            first
              | exact Ob.mk ⟨by omega, of_decide_eq_true (by with_reducible assumption)⟩
              | exact e1.symm
              | (have a1 := of_decide_eq_true (show decide ((i : Int) < (l.length : Nat)) = true by with_reducible assumption)
                 rw [e2, decide_eq_true (show i < l.length by omega), Bool.true_and]
                 done)
              | (have a2 := of_decide_eq_true (show decide (farI b (l.getD i default).id = farI b x) = true by with_reducible assumption)
                 have a1 := of_decide_eq_true (show decide ((i : Int) < (l.length : Nat)) = true by with_reducible assumption)
                 rw [e2, decide_eq_true a2, decide_eq_true (show i < l.length by omega)]
                 rfl)
              | (have a2 := of_decide_eq_false (show decide (farI b (l.getD i default).id = farI b x) = false by with_reducible assumption)
                 rw [e2, decide_eq_false a2, Bool.and_false])
              | (have a1 := of_decide_eq_false (show decide ((i : Int) < (l.length : Nat)) = false by with_reducible assumption)
                 rw [e2, decide_eq_false (show ¬ i < l.length by omega), Bool.false_and]))
         | trace_state)
    | trace_state
theorem k_Find : Known Tryz.prog tau 138 (S3 dInt dPeers dInt fun b l x => .ob (RisingP b l) (.tup [.int .i64 (cntP b l x), .bool (hasP b l x)]) []) := by
  refine known3 hmix tau_ok (ctx_cons k_find (ctx_cons k_searchP ctx_nil)) (fn := Tryz.f138) (by kernel_rfl) [] (by kernel_rfl) _ _ _ _ fun b l x hfit hs => ⟨rfl, [], ?_⟩
  clear hfit
  (repeat' (first | ((with_reducible refine BdI ?_); (first | ((with_reducible refine SqI ?_ (fun Kv hN hX hR => ?_)); (next => exact rfl)) | ((with_reducible refine JnI ?_ ?_); (next => exact rfl)) | (conv => whnf))) | (with_reducible first | refine BdS (fun Kv hN hX hR => ?_) | refine Stop.mk ?_ | refine Join.mk ⟨fun Kv hN hX hR => ?_, ?_⟩ | refine DrawJ.each ?_ | exact SubJ.self _) | with_reducible refine SubJ.of ?_ | (with_reducible first | refine FlS (fun Kf hF => ?_) | refine FlN ?_ | refine NdS (fun Kg hG => ?_) | (refine hF _ _ ?_; clear hF; clear Kf) | (refine hG _ _ _ _ ?_; clear hG; clear Kg)) | ((with_reducible refine SqI ?_ (fun Kv hN hX hR => ?_)); (next => exact rfl)) | ((with_reducible refine JnI ?_ ?_); (next => exact rfl)) | ((with_reducible first | refine hN _ ?_ | refine hX _ _ ?_ | refine hR _ ?_); (try (clear hG; clear Kg)); clear hN hX hR; clear Kv) | ((conv => whnf); first | (with_reducible first | rfl | exact True.intro | intro _ | refine And.intro ?_ ?_) | ((with_reducible first | refine hN _ ?_ | refine hX _ _ ?_ | refine hR _ ?_); (try (clear hG; clear Kg)); clear hN hX hR; clear Kv) | (with_reducible first | refine BdS (fun Kv hN hX hR => ?_) | refine Stop.mk ?_ | refine Join.mk ⟨fun Kv hN hX hR => ?_, ?_⟩ | refine DrawJ.each ?_ | exact SubJ.self _) | with_reducible refine SubJ.of ?_ | (with_reducible first | refine FlS (fun Kf hF => ?_) | refine FlN ?_ | refine NdS (fun Kg hG => ?_) | (refine hF _ _ ?_; clear hF; clear Kf) | (refine hG _ _ _ _ ?_; clear hG; clear Kg))))); all_goals (conv => whnf); all_goals (repeat ((try (clear hG; clear Kg)); clear hN hX hR; clear Kv))
  all_goals first
    | exact Ob.mk hs
    | rfl
    | trace_state
theorem k_viewPeer : Known Tryz.prog tau 117 (S2 dPView dInt fun v x => .ob (RisingP v.id v.peers) (.bool (hasP v.id v.peers x)) []) := by
  refine known2 hmix tau_ok (ctx_cons k_Find ctx_nil) (fn := Tryz.f117) (by kernel_rfl) [(1, [(0, 0), (1, 1), (2, 2), (3, 4), (4, 0), (5, 16), (6, 32), (7, 64), (8, 0), (9, 392), (10, 512), (11, 1024), (12, 1024), (13, 4095), (14, 16383)])] (by kernel_rfl) _ _ _ fun v x hfit hs => ⟨rfl, [], ?_⟩
  clear hfit
  (repeat' (first | ((with_reducible refine BdI ?_); (first | ((with_reducible refine SqI ?_ (fun Kv hN hX hR => ?_)); (next => exact rfl)) | ((with_reducible refine JnI ?_ ?_); (next => exact rfl)) | (conv => whnf))) | (with_reducible first | refine BdS (fun Kv hN hX hR => ?_) | refine Stop.mk ?_ | refine Join.mk ⟨fun Kv hN hX hR => ?_, ?_⟩ | apply DrawJ.join | exact SubJ.self _) | ((with_reducible refine SubJ.of ?_); (repeat' (first | with_reducible rfl | ((conv => whnf) <;> (first | with_reducible exact True.intro | with_reducible refine And.intro ?_ ?_ | with_reducible rfl | ((conv => rhs; whnf) <;> with_reducible rfl))))); done) | (with_reducible first | refine FlS (fun Kf hF => ?_) | refine FlN ?_ | refine NdS (fun Kg hG => ?_) | (refine hF _ _ ?_; clear hF; clear Kf) | (refine hG _ _ _ _ ?_; clear hG; clear Kg)) | ((with_reducible refine SqI ?_ (fun Kv hN hX hR => ?_)); (next => exact rfl)) | ((with_reducible refine JnI ?_ ?_); (next => exact rfl)) | ((with_reducible first | refine hN _ ?_ | refine hX _ _ ?_ | refine hR _ ?_); (try (clear hG; clear Kg)); clear hN hX hR; clear Kv) | ((conv => whnf); first | (with_reducible first | rfl | exact True.intro | intro _ | refine And.intro ?_ ?_) | ((with_reducible first | refine hN _ ?_ | refine hX _ _ ?_ | refine hR _ ?_); (try (clear hG; clear Kg)); clear hN hX hR; clear Kv) | (with_reducible first | refine BdS (fun Kv hN hX hR => ?_) | refine Stop.mk ?_ | refine Join.mk ⟨fun Kv hN hX hR => ?_, ?_⟩ | apply DrawJ.join | exact SubJ.self _) | ((with_reducible refine SubJ.of ?_); (repeat' (first | with_reducible rfl | ((conv => whnf) <;> (first | with_reducible exact True.intro | with_reducible refine And.intro ?_ ?_ | with_reducible rfl | ((conv => rhs; whnf) <;> with_reducible rfl))))); done) | (with_reducible first | refine FlS (fun Kf hF => ?_) | refine FlN ?_ | refine NdS (fun Kg hG => ?_) | (refine hF _ _ ?_; clear hF; clear Kf) | (refine hG _ _ _ _ ?_; clear hG; clear Kg))))); all_goals (conv => whnf); all_goals (repeat ((try (clear hG; clear Kg)); clear hN hX hR; clear Kv))
  all_goals first
    | exact Ob.mk hs
    | rfl
    | trace_state
def oddV (v : GView) (x : Int) : Bool := decide (x = v.id) || hasP v.id v.peers x
theorem k_vMay1 : Known Tryz.prog tau 116 (S2 dInt dPView fun x v => .ob (RisingP v.id v.peers) (.bool (oddV v x)) []) := by
  refine known2 hmix tau_ok (ctx_cons k_viewPeer ctx_nil) (fn := Tryz.f116) (by kernel_rfl) [] (by kernel_rfl) _ _ _ fun x v hfit hs => ⟨rfl, [], ?_⟩
  clear hfit
  (repeat' (first | ((with_reducible refine BdI ?_); (first | ((with_reducible refine SqI ?_ (fun Kv hN hX hR => ?_)); (next => exact rfl)) | ((with_reducible refine JnI ?_ ?_); (next => exact rfl)) | (conv => whnf))) | (with_reducible first | refine BdS (fun Kv hN hX hR => ?_) | refine Stop.mk ?_ | refine Join.mk ⟨fun Kv hN hX hR => ?_, ?_⟩ | refine DrawJ.each ?_ | exact SubJ.self _) | with_reducible refine SubJ.of ?_ | (with_reducible first | refine FlS (fun Kf hF => ?_) | refine FlN ?_ | refine NdS (fun Kg hG => ?_) | (refine hF _ _ ?_; clear hF; clear Kf) | (refine hG _ _ _ _ ?_; clear hG; clear Kg)) | ((with_reducible refine SqI ?_ (fun Kv hN hX hR => ?_)); (next => exact rfl)) | ((with_reducible refine JnI ?_ ?_); (next => exact rfl)) | ((with_reducible first | refine hN _ ?_ | refine hX _ _ ?_ | refine hR _ ?_); (try (clear hG; clear Kg)); clear hN hX hR; clear Kv) | ((conv => whnf); first | (with_reducible first | rfl | exact True.intro | intro _ | refine And.intro ?_ ?_) | ((with_reducible first | refine hN _ ?_ | refine hX _ _ ?_ | refine hR _ ?_); (try (clear hG; clear Kg)); clear hN hX hR; clear Kv) | (with_reducible first | refine BdS (fun Kv hN hX hR => ?_) | refine Stop.mk ?_ | refine Join.mk ⟨fun Kv hN hX hR => ?_, ?_⟩ | refine DrawJ.each ?_ | exact SubJ.self _) | with_reducible refine SubJ.of ?_ | (with_reducible first | refine FlS (fun Kf hF => ?_) | refine FlN ?_ | refine NdS (fun Kg hG => ?_) | (refine hF _ _ ?_; clear hF; clear Kf) | (refine hG _ _ _ _ ?_; clear hG; clear Kg))))); all_goals (conv => whnf); all_goals (repeat ((try (clear hG; clear Kg)); clear hN hX hR; clear Kv))
  all_goals first
    | exact Ob.mk hs
    | (simp_all [oddV]; done)
    | trace_state

theorem k_vIndex : Known Tryz.prog tau 105 (S2 dInts (dFnView 116) fun l v => .ob (RisingP v.id v.peers) (.int .i64 (idxI (oddV v) l)) []) := by
  refine known2 hmix tau_ok (ctx_cons k_vMay1 ctx_nil) (fn := Tryz.f105) (by kernel_rfl) [] (by kernel_rfl) _ _ _ fun xs v hfit hs => ⟨rfl,
    [(2, invN [4, 5, 8, 9, 10, 11, 12, 13, 14, 15, 16, 17, 18] (fun i => i ≤ xs.length ∧ ∀ x ∈ xs.take i, oddV v x = false) (fun i => withS [(8, .int .i64 i)]) (fun i => xs.length - i))], ?_⟩
  have hlen : xs.length * 8 ≤ 140737488355328 := hfit.1
  clear hfit
  (repeat' (first | ((with_reducible refine BdI ?_); (first | ((with_reducible refine SqI ?_ (fun Kv hN hX hR => ?_)); (next => exact rfl)) | ((with_reducible refine JnI ?_ ?_); (next => exact rfl)) | (conv => whnf))) | (with_reducible first | refine BdS (fun Kv hN hX hR => ?_) | refine Stop.mk ?_ | refine Join.mk ⟨fun Kv hN hX hR => ?_, ?_⟩ | refine DrawJ.each ?_ | exact SubJ.self _) | with_reducible refine SubJ.of ?_ | (with_reducible first | refine FlS (fun Kf hF => ?_) | refine FlN ?_ | refine NdS (fun Kg hG => ?_) | (refine hF _ _ ?_; clear hF; clear Kf) | (refine hG _ _ _ _ ?_; clear hG; clear Kg)) | ((with_reducible refine SqI ?_ (fun Kv hN hX hR => ?_)); (next => exact rfl)) | ((with_reducible refine JnI ?_ ?_); (next => exact rfl)) | ((with_reducible first | refine hN _ ?_ | refine hX _ _ ?_ | refine hR _ ?_); (try (clear hG; clear Kg)); clear hN hX hR; clear Kv) | ((conv => whnf); first | (with_reducible first | rfl | exact True.intro | refine (fun (_ : (_ : Prop)) => ?_) | refine And.intro ?_ ?_) | ((with_reducible first | refine hN _ ?_ | refine hX _ _ ?_ | refine hR _ ?_); (try (clear hG; clear Kg)); clear hN hX hR; clear Kv) | (with_reducible first | refine BdS (fun Kv hN hX hR => ?_) | refine Stop.mk ?_ | refine Join.mk ⟨fun Kv hN hX hR => ?_, ?_⟩ | refine DrawJ.each ?_ | exact SubJ.self _) | with_reducible refine SubJ.of ?_ | (with_reducible first | refine FlS (fun Kf hF => ?_) | refine FlN ?_ | refine NdS (fun Kg hG => ?_) | (refine hF _ _ ?_; clear hF; clear Kf) | (refine hG _ _ _ _ ?_; clear hG; clear Kg))))); all_goals (conv => whnf); all_goals (repeat ((try (clear hG; clear Kg)); clear hN hX hR; clear Kv))
  all_goals first
    | (refine ⟨0, ⟨by omega, by simp⟩, ?_⟩
       (repeat' (first | ((with_reducible refine BdI ?_); (first | ((with_reducible refine SqI ?_ (fun Kv hN hX hR => ?_)); (next => exact rfl)) | ((with_reducible refine JnI ?_ ?_); (next => exact rfl)) | (conv => whnf))) | (with_reducible first | refine BdS (fun Kv hN hX hR => ?_) | refine Stop.mk ?_ | refine Join.mk ⟨fun Kv hN hX hR => ?_, ?_⟩ | refine DrawJ.each ?_ | exact SubJ.self _) | with_reducible refine SubJ.of ?_ | (with_reducible first | refine FlS (fun Kf hF => ?_) | refine FlN ?_ | refine NdS (fun Kg hG => ?_) | (refine hF _ _ ?_; clear hF; clear Kf) | (refine hG _ _ _ _ ?_; clear hG; clear Kg)) | ((with_reducible refine SqI ?_ (fun Kv hN hX hR => ?_)); (next => exact rfl)) | ((with_reducible refine JnI ?_ ?_); (next => exact rfl)) | ((with_reducible first | refine hN _ ?_ | refine hX _ _ ?_ | refine hR _ ?_); (try (clear hG; clear Kg)); clear hN hX hR; clear Kv) | ((conv => whnf); first | (with_reducible first | rfl | exact True.intro | intro _ | refine And.intro ?_ ?_) | ((with_reducible first | refine hN _ ?_ | refine hX _ _ ?_ | refine hR _ ?_); (try (clear hG; clear Kg)); clear hN hX hR; clear Kv) | (with_reducible first | refine BdS (fun Kv hN hX hR => ?_) | refine Stop.mk ?_ | refine Join.mk ⟨fun Kv hN hX hR => ?_, ?_⟩ | refine DrawJ.each ?_ | exact SubJ.self _) | with_reducible refine SubJ.of ?_ | (with_reducible first | refine FlS (fun Kf hF => ?_) | refine FlN ?_ | refine NdS (fun Kg hG => ?_) | (refine hF _ _ ?_; clear hF; clear Kf) | (refine hG _ _ _ _ ?_; clear hG; clear Kg))))); all_goals (conv => whnf); all_goals (repeat ((try (clear hG; clear Kg)); clear hN hX hR; clear Kv))
       all_goals rfl)
    | (with_reducible intro i hi
       (repeat' (first | ((with_reducible refine BdI ?_); (first | ((with_reducible refine SqI ?_ (fun Kv hN hX hR => ?_)); (next => exact rfl)) | ((with_reducible refine JnI ?_ ?_); (next => exact rfl)) | (conv => whnf))) | (with_reducible first | refine BdS (fun Kv hN hX hR => ?_) | refine Stop.mk ?_ | refine Join.mk ⟨fun Kv hN hX hR => ?_, ?_⟩ | refine DrawJ.each ?_ | exact SubJ.self _) | with_reducible refine SubJ.of ?_ | (with_reducible first | refine FlS (fun Kf hF => ?_) | refine FlN ?_ | refine NdS (fun Kg hG => ?_) | (refine hF _ _ ?_; clear hF; clear Kf) | (refine hG _ _ _ _ ?_; clear hG; clear Kg)) | ((with_reducible refine SqI ?_ (fun Kv hN hX hR => ?_)); (next => exact rfl)) | ((with_reducible refine JnI ?_ ?_); (next => exact rfl)) | ((with_reducible first | refine hN _ ?_ | refine hX _ _ ?_ | refine hR _ ?_); (try (clear hG; clear Kg)); clear hN hX hR; clear Kv) | ((conv => whnf); first | (with_reducible first | rfl | exact True.intro | intro _ | refine And.intro ?_ ?_) | ((with_reducible first | refine hN _ ?_ | refine hX _ _ ?_ | refine hR _ ?_); (try (clear hG; clear Kg)); clear hN hX hR; clear Kv) | (with_reducible first | refine BdS (fun Kv hN hX hR => ?_) | refine Stop.mk ?_ | refine Join.mk ⟨fun Kv hN hX hR => ?_, ?_⟩ | refine DrawJ.each ?_ | exact SubJ.self _) | with_reducible refine SubJ.of ?_ | (with_reducible first | refine FlS (fun Kf hF => ?_) | refine FlN ?_ | refine NdS (fun Kg hG => ?_) | (refine hF _ _ ?_; clear hF; clear Kf) | (refine hG _ _ _ _ ?_; clear hG; clear Kg))))); all_goals (conv => whnf); all_goals (repeat ((try (clear hG; clear Kg)); clear hN hX hR; clear Kv))
       all_goals (try simp only [Int.toNat_natCast] at *)
       all_goals first
         | exact Ob.mk ⟨by omega, of_decide_eq_true (by with_reducible assumption)⟩
         | exact Ob.mk hs
         | (have h := of_decide_eq_true (show decide ((i : Int) < (xs.length : Nat)) = true by with_reducible assumption)
            exact (idxI_at (d := 0) (by omega) hi.2 (by with_reducible assumption)).symm)
         | (have h := of_decide_eq_true (show decide ((i : Int) < (xs.length : Nat)) = true by with_reducible assumption)
            refine ⟨i + 1, ⟨by omega, all_take_succ (d := 0) (by omega) hi.2 (by with_reducible assumption)⟩, by show xs.length - (i + 1) < xs.length - i; omega, ?_⟩
            (repeat' (first | ((with_reducible refine BdI ?_); (first | ((with_reducible refine SqI ?_ (fun Kv hN hX hR => ?_)); (next => exact rfl)) | ((with_reducible refine JnI ?_ ?_); (next => exact rfl)) | (conv => whnf))) | (with_reducible first | refine BdS (fun Kv hN hX hR => ?_) | refine Stop.mk ?_ | refine Join.mk ⟨fun Kv hN hX hR => ?_, ?_⟩ | refine DrawJ.each ?_ | exact SubJ.self _) | with_reducible refine SubJ.of ?_ | (with_reducible first | refine FlS (fun Kf hF => ?_) | refine FlN ?_ | refine NdS (fun Kg hG => ?_) | (refine hF _ _ ?_; clear hF; clear Kf) | (refine hG _ _ _ _ ?_; clear hG; clear Kg)) | ((with_reducible refine SqI ?_ (fun Kv hN hX hR => ?_)); (next => exact rfl)) | ((with_reducible refine JnI ?_ ?_); (next => exact rfl)) | ((with_reducible first | refine hN _ ?_ | refine hX _ _ ?_ | refine hR _ ?_); (try (clear hG; clear Kg)); clear hN hX hR; clear Kv) | ((conv => whnf); first | (with_reducible first | rfl | exact True.intro | intro _ | refine And.intro ?_ ?_) | ((with_reducible first | refine hN _ ?_ | refine hX _ _ ?_ | refine hR _ ?_); (try (clear hG; clear Kg)); clear hN hX hR; clear Kv) | (with_reducible first | refine BdS (fun Kv hN hX hR => ?_) | refine Stop.mk ?_ | refine Join.mk ⟨fun Kv hN hX hR => ?_, ?_⟩ | refine DrawJ.each ?_ | exact SubJ.self _) | with_reducible refine SubJ.of ?_ | (with_reducible first | refine FlS (fun Kf hF => ?_) | refine FlN ?_ | refine NdS (fun Kg hG => ?_) | (refine hF _ _ ?_; clear hF; clear Kf) | (refine hG _ _ _ _ ?_; clear hG; clear Kg))))); all_goals (conv => whnf); all_goals (repeat ((try (clear hG; clear Kg)); clear hN hX hR; clear Kv))
            all_goals first
              | exact wrapI (by omega) (by omega)
              | rfl)
         | (have h := of_decide_eq_false (show decide ((i : Int) < (xs.length : Nat)) = false by with_reducible assumption)
            have h2 := hi.2
            rw [List.take_of_length_le (by omega)] at h2
            exact (idxI_none h2).symm)
         | trace_state)
    | trace_state
theorem k_vContains : Known Tryz.prog tau 65 (S2 dInts (dFnView 116) fun l v => .ob (RisingP v.id v.peers) (.bool (l.any (oddV v))) []) := by
  refine known2 hmix tau_ok (ctx_cons k_vIndex ctx_nil) (fn := Tryz.f65) (by kernel_rfl) [] (by kernel_rfl) _ _ _ fun xs v hfit hs => ⟨rfl, [], ?_⟩
  clear hfit
  (repeat' (first | ((with_reducible refine BdI ?_); (first | ((with_reducible refine SqI ?_ (fun Kv hN hX hR => ?_)); (next => exact rfl)) | ((with_reducible refine JnI ?_ ?_); (next => exact rfl)) | (conv => whnf))) | (with_reducible first | refine BdS (fun Kv hN hX hR => ?_) | refine Stop.mk ?_ | refine Join.mk ⟨fun Kv hN hX hR => ?_, ?_⟩ | refine DrawJ.each ?_ | exact SubJ.self _) | with_reducible refine SubJ.of ?_ | (with_reducible first | refine FlS (fun Kf hF => ?_) | refine FlN ?_ | refine NdS (fun Kg hG => ?_) | (refine hF _ _ ?_; clear hF; clear Kf) | (refine hG _ _ _ _ ?_; clear hG; clear Kg)) | ((with_reducible refine SqI ?_ (fun Kv hN hX hR => ?_)); (next => exact rfl)) | ((with_reducible refine JnI ?_ ?_); (next => exact rfl)) | ((with_reducible first | refine hN _ ?_ | refine hX _ _ ?_ | refine hR _ ?_); (try (clear hG; clear Kg)); clear hN hX hR; clear Kv) | ((conv => whnf); first | (with_reducible first | rfl | exact True.intro | intro _ | refine And.intro ?_ ?_) | ((with_reducible first | refine hN _ ?_ | refine hX _ _ ?_ | refine hR _ ?_); (try (clear hG; clear Kg)); clear hN hX hR; clear Kv) | (with_reducible first | refine BdS (fun Kv hN hX hR => ?_) | refine Stop.mk ?_ | refine Join.mk ⟨fun Kv hN hX hR => ?_, ?_⟩ | refine DrawJ.each ?_ | exact SubJ.self _) | with_reducible refine SubJ.of ?_ | (with_reducible first | refine FlS (fun Kf hF => ?_) | refine FlN ?_ | refine NdS (fun Kg hG => ?_) | (refine hF _ _ ?_; clear hF; clear Kf) | (refine hG _ _ _ _ ?_; clear hG; clear Kg))))); all_goals (conv => whnf); all_goals (repeat ((try (clear hG; clear Kg)); clear hN hX hR; clear Kv))
  all_goals first
    | exact Ob.mk hs
    | exact idxI_ge _ _
    | trace_state
def peerB (b : Int) (p : GPeer) : Bool := placeB p.id && (decide (0 ≤ p.missed) && (decide (p.missed < 3) && decide (0 < farI b p.id)))
def peersB (b : Int) (l : List GPeer) : Bool := placeB b && (decide (l.length ≤ 16) && (decide (l.Pairwise fun p q => farI b p.id < farI b q.id) && l.all (peerB b)))
theorem etaP {l : List GPeer} {i : Nat} (h : i < l.length) : l.getD i default = l[i] := by simp [List.getD_eq_getElem?_getD, h]
theorem risingP_iff {b : Int} {l : List GPeer} : RisingP b l ↔ l.Pairwise fun p q => farI b p.id < farI b q.id := by
  rw [List.pairwise_iff_getElem]
  constructor
  · intro h i j hi hj hij
    have := h i j hij hj
    rwa [etaP hi, etaP hj] at this
  · intro h i j hij hj
    rw [etaP (show i < l.length by omega), etaP hj]
    exact h i j (by omega) hj hij
theorem peersB_iff {b : Int} {l : List GPeer} : peersB b l = true ↔ placeB b = true ∧ l.length ≤ 16 ∧ RisingP b l ∧ ∀ p ∈ l, peerB b p = true := by
  simp only [peersB, Bool.and_eq_true, decide_eq_true_eq, risingP_iff, List.all_eq_true]
theorem peersB_no {b : Int} {l : List GPeer} (h : ¬ (placeB b = true ∧ l.length ≤ 16 ∧ RisingP b l ∧ ∀ p ∈ l, peerB b p = true)) : peersB b l = false := by
  rw [← peersB_iff] at h
  simpa using h
theorem risingP_adj {b : Int} {l : List GPeer} (h : ∀ t, t + 1 < l.length → farI b (l.getD t default).id < farI b (l.getD (t + 1) default).id) : RisingP b l := by
  intro s t
  induction t with
  | zero => intro h1; omega
  | succ t ih =>
    intro h1 h2
    have := h t h2
    rcases Nat.lt_or_eq_of_le (Nat.le_of_lt_succ h1) with h3 | rfl
    · have := ih h3 (by omega)
      omega
    · exact this
/-- How far the last one is, of the first i. -/
def lastF (b : Int) (l : List GPeer) : Nat → Int
  | 0 => 0
  | i + 1 => farI b (l.getD i default).id
theorem lastF_ge {b : Int} {l : List GPeer} {i : Nat} (hi : i ≤ l.length) (h : ∀ x ∈ l.take i, peerB b x = true) : 0 ≤ lastF b l i := by
  rcases i with _ | i
  · exact Int.le_refl _
  · have hm : l.getD i default ∈ l.take (i + 1) := by
      rw [etaP (by omega), List.mem_take_iff_getElem]
      exact ⟨i, by omega, rfl⟩
    have := h _ hm
    simp only [peerB, Bool.and_eq_true, decide_eq_true_eq] at this
    show 0 ≤ farI b (l.getD i default).id
    omega
set_option maxHeartbeats 2000000 in
theorem k_peersMay : Known Tryz.prog tau 115 (S2 dInt dPeers fun b l => okB (peersB b l)) := by
  refine known2 hmix tau_ok (ctx_cons k_Place (ctx_cons k_Far ctx_nil)) (fn := Tryz.f115) (by kernel_rfl) [] (by kernel_rfl) _ _ _ fun b xs hfit => ⟨rfl,
    [(5, invN (4 :: 5 :: 7 :: 18 :: 19 :: 20 :: 21 :: 22 :: 23 :: 24 :: 25 :: 26 :: 27 :: 28 :: 29 :: 30 :: 31 :: 32 :: 33 :: 34 :: 35 :: 36 :: 37 :: 38 :: 39 :: 40 :: 41 :: 42 :: 43 :: 44 :: 45 :: 46 :: 47 :: 48 :: []) (fun i => i ≤ xs.length ∧ (∀ x ∈ xs.take i, peerB b x = true) ∧ ∀ t, t + 1 < i → farI b (xs.getD t default).id < farI b (xs.getD (t + 1) default).id) (fun i => withS [(18, .int .i64 i), (5, .int .i64 (lastF b xs i))]) (fun i => xs.length - i))], ?_⟩
  have hlen : xs.length * 16 ≤ 140737488355328 := hfit.2.1
  clear hfit
  (repeat' (first | ((with_reducible refine BdI ?_); (first | ((with_reducible refine SqI ?_ (fun Kv hN hX hR => ?_)); (next => exact rfl)) | ((with_reducible refine JnI ?_ ?_); (next => exact rfl)) | (conv => whnf))) | (with_reducible first | refine BdS (fun Kv hN hX hR => ?_) | refine Stop.mk ?_ | refine Join.mk ⟨fun Kv hN hX hR => ?_, ?_⟩ | refine DrawJ.each ?_ | exact SubJ.self _) | with_reducible refine SubJ.of ?_ | (with_reducible first | refine FlS (fun Kf hF => ?_) | refine FlN ?_ | refine NdS (fun Kg hG => ?_) | (refine hF _ _ ?_; clear hF; clear Kf) | (refine hG _ _ _ _ ?_; clear hG; clear Kg)) | ((with_reducible refine SqI ?_ (fun Kv hN hX hR => ?_)); (next => exact rfl)) | ((with_reducible refine JnI ?_ ?_); (next => exact rfl)) | ((with_reducible first | refine hN _ ?_ | refine hX _ _ ?_ | refine hR _ ?_); (try (clear hG; clear Kg)); clear hN hX hR; clear Kv) | ((conv => whnf); first | (with_reducible first | rfl | exact True.intro | refine (fun (_ : (_ : Prop)) => ?_) | refine And.intro ?_ ?_) | ((with_reducible first | refine hN _ ?_ | refine hX _ _ ?_ | refine hR _ ?_); (try (clear hG; clear Kg)); clear hN hX hR; clear Kv) | (with_reducible first | refine BdS (fun Kv hN hX hR => ?_) | refine Stop.mk ?_ | refine Join.mk ⟨fun Kv hN hX hR => ?_, ?_⟩ | refine DrawJ.each ?_ | exact SubJ.self _) | with_reducible refine SubJ.of ?_ | (with_reducible first | refine FlS (fun Kf hF => ?_) | refine FlN ?_ | refine NdS (fun Kg hG => ?_) | (refine hF _ _ ?_; clear hF; clear Kf) | (refine hG _ _ _ _ ?_; clear hG; clear Kg))))); all_goals (conv => whnf); all_goals (repeat ((try (clear hG; clear Kg)); clear hN hX hR; clear Kv))
  all_goals first
    | (have h0 := nf (show (!placeB b) = true by with_reducible assumption)
       exact (peersB_no fun h => by rw [h.1] at h0; simp at h0).symm)
    | (have h0 := of_decide_eq_true (show decide ((16 : Int) < (xs.length : Nat)) = true by with_reducible assumption)
       exact (peersB_no fun h => by have := h.2.1; omega).symm)
    | (refine ⟨0, ⟨by omega, by simp, by intros; omega⟩, ?_⟩
       (repeat' (first | ((with_reducible refine BdI ?_); (first | ((with_reducible refine SqI ?_ (fun Kv hN hX hR => ?_)); (next => exact rfl)) | ((with_reducible refine JnI ?_ ?_); (next => exact rfl)) | (conv => whnf))) | (with_reducible first | refine BdS (fun Kv hN hX hR => ?_) | refine Stop.mk ?_ | refine Join.mk ⟨fun Kv hN hX hR => ?_, ?_⟩ | refine DrawJ.each ?_ | exact SubJ.self _) | with_reducible refine SubJ.of ?_ | (with_reducible first | refine FlS (fun Kf hF => ?_) | refine FlN ?_ | refine NdS (fun Kg hG => ?_) | (refine hF _ _ ?_; clear hF; clear Kf) | (refine hG _ _ _ _ ?_; clear hG; clear Kg)) | ((with_reducible refine SqI ?_ (fun Kv hN hX hR => ?_)); (next => exact rfl)) | ((with_reducible refine JnI ?_ ?_); (next => exact rfl)) | ((with_reducible first | refine hN _ ?_ | refine hX _ _ ?_ | refine hR _ ?_); (try (clear hG; clear Kg)); clear hN hX hR; clear Kv) | ((conv => whnf); first | (with_reducible first | rfl | exact True.intro | intro _ | refine And.intro ?_ ?_) | ((with_reducible first | refine hN _ ?_ | refine hX _ _ ?_ | refine hR _ ?_); (try (clear hG; clear Kg)); clear hN hX hR; clear Kv) | (with_reducible first | refine BdS (fun Kv hN hX hR => ?_) | refine Stop.mk ?_ | refine Join.mk ⟨fun Kv hN hX hR => ?_, ?_⟩ | refine DrawJ.each ?_ | exact SubJ.self _) | with_reducible refine SubJ.of ?_ | (with_reducible first | refine FlS (fun Kf hF => ?_) | refine FlN ?_ | refine NdS (fun Kg hG => ?_) | (refine hF _ _ ?_; clear hF; clear Kf) | (refine hG _ _ _ _ ?_; clear hG; clear Kg))))); all_goals (conv => whnf); all_goals (repeat ((try (clear hG; clear Kg)); clear hN hX hR; clear Kv))
       all_goals rfl)
    | (with_reducible intro i hi
       (repeat' (first | ((with_reducible refine BdI ?_); (first | ((with_reducible refine SqI ?_ (fun Kv hN hX hR => ?_)); (next => exact rfl)) | ((with_reducible refine JnI ?_ ?_); (next => exact rfl)) | (conv => whnf))) | (with_reducible first | refine BdS (fun Kv hN hX hR => ?_) | refine Stop.mk ?_ | refine Join.mk ⟨fun Kv hN hX hR => ?_, ?_⟩ | refine DrawJ.each ?_ | exact SubJ.self _) | with_reducible refine SubJ.of ?_ | (with_reducible first | refine FlS (fun Kf hF => ?_) | refine FlN ?_ | refine NdS (fun Kg hG => ?_) | (refine hF _ _ ?_; clear hF; clear Kf) | (refine hG _ _ _ _ ?_; clear hG; clear Kg)) | ((with_reducible refine SqI ?_ (fun Kv hN hX hR => ?_)); (next => exact rfl)) | ((with_reducible refine JnI ?_ ?_); (next => exact rfl)) | ((with_reducible first | refine hN _ ?_ | refine hX _ _ ?_ | refine hR _ ?_); (try (clear hG; clear Kg)); clear hN hX hR; clear Kv) | ((conv => whnf); first | (with_reducible first | rfl | exact True.intro | intro _ | refine And.intro ?_ ?_) | ((with_reducible first | refine hN _ ?_ | refine hX _ _ ?_ | refine hR _ ?_); (try (clear hG; clear Kg)); clear hN hX hR; clear Kv) | (with_reducible first | refine BdS (fun Kv hN hX hR => ?_) | refine Stop.mk ?_ | refine Join.mk ⟨fun Kv hN hX hR => ?_, ?_⟩ | refine DrawJ.each ?_ | exact SubJ.self _) | with_reducible refine SubJ.of ?_ | (with_reducible first | refine FlS (fun Kf hF => ?_) | refine FlN ?_ | refine NdS (fun Kg hG => ?_) | (refine hF _ _ ?_; clear hF; clear Kf) | (refine hG _ _ _ _ ?_; clear hG; clear Kg))))); all_goals (conv => whnf); all_goals (repeat ((try (clear hG; clear Kg)); clear hN hX hR; clear Kv))
       all_goals first
         | exact Ob.mk ⟨by omega, of_decide_eq_true (by with_reducible assumption)⟩
         | (have h := of_decide_eq_true (show decide ((i : Int) < (xs.length : Nat)) = true by with_reducible assumption)
            first
              | (refine (peersB_no ?_).symm
                 rintro ⟨_, _, h3, h4⟩
                 have h5 := h4 _ (getD_mem (l := xs) (i := i) (d := default) (by omega))
                 simp only [peerB, Bool.and_eq_true] at h5
                 simp only [decide_eq_true_eq, decide_eq_false_iff_not, Bool.not_eq_true', Bool.not_eq_false', Int.toNat_natCast] at *
                 first
                   | (simp_all; done)
                   | omega
                   | (rcases i with _ | i
                      · simp only [lastF] at *
                        omega
                      · have := h3 i (i + 1) (by omega) (by omega)
                        simp only [lastF] at *
                        omega))
              | (have hp : peerB b (xs.getD i default) = true := by
                   have hge := lastF_ge hi.1 hi.2.1
                   simp only [peerB, Bool.and_eq_true]
                   simp only [decide_eq_true_eq, decide_eq_false_iff_not, Bool.not_eq_true', Bool.not_eq_false', Int.toNat_natCast] at *
                   refine ⟨by assumption, by omega, by omega, by omega⟩
                 have hl : lastF b xs i < farI b (xs.getD i default).id := by
                   simp only [decide_eq_true_eq, decide_eq_false_iff_not, Bool.not_eq_true', Bool.not_eq_false', Int.toNat_natCast] at *
                   omega
                 refine ⟨i + 1, ⟨by omega, all_take_succ (d := default) (by omega) hi.2.1 hp, fun t ht => ?_⟩, by show xs.length - (i + 1) < xs.length - i; omega, ?_⟩
                 · rcases Nat.lt_or_eq_of_le (Nat.le_of_lt_succ ht) with h3 | h3
                   · exact hi.2.2 t h3
                   · subst h3
                     exact hl
                 · (repeat' (first | ((with_reducible refine BdI ?_); (first | ((with_reducible refine SqI ?_ (fun Kv hN hX hR => ?_)); (next => exact rfl)) | ((with_reducible refine JnI ?_ ?_); (next => exact rfl)) | (conv => whnf))) | (with_reducible first | refine BdS (fun Kv hN hX hR => ?_) | refine Stop.mk ?_ | refine Join.mk ⟨fun Kv hN hX hR => ?_, ?_⟩ | refine DrawJ.each ?_ | exact SubJ.self _) | with_reducible refine SubJ.of ?_ | (with_reducible first | refine FlS (fun Kf hF => ?_) | refine FlN ?_ | refine NdS (fun Kg hG => ?_) | (refine hF _ _ ?_; clear hF; clear Kf) | (refine hG _ _ _ _ ?_; clear hG; clear Kg)) | ((with_reducible refine SqI ?_ (fun Kv hN hX hR => ?_)); (next => exact rfl)) | ((with_reducible refine JnI ?_ ?_); (next => exact rfl)) | ((with_reducible first | refine hN _ ?_ | refine hX _ _ ?_ | refine hR _ ?_); (try (clear hG; clear Kg)); clear hN hX hR; clear Kv) | ((conv => whnf); first | (with_reducible first | rfl | exact True.intro | intro _ | refine And.intro ?_ ?_) | ((with_reducible first | refine hN _ ?_ | refine hX _ _ ?_ | refine hR _ ?_); (try (clear hG; clear Kg)); clear hN hX hR; clear Kv) | (with_reducible first | refine BdS (fun Kv hN hX hR => ?_) | refine Stop.mk ?_ | refine Join.mk ⟨fun Kv hN hX hR => ?_, ?_⟩ | refine DrawJ.each ?_ | exact SubJ.self _) | with_reducible refine SubJ.of ?_ | (with_reducible first | refine FlS (fun Kf hF => ?_) | refine FlN ?_ | refine NdS (fun Kg hG => ?_) | (refine hF _ _ ?_; clear hF; clear Kf) | (refine hG _ _ _ _ ?_; clear hG; clear Kg))))); all_goals (conv => whnf); all_goals (repeat ((try (clear hG; clear Kg)); clear hN hX hR; clear Kv))
                   all_goals first
                     | exact wrapI (by omega) (by omega)
                     | rfl))
         | (have h := of_decide_eq_false (show decide ((i : Int) < (xs.length : Nat)) = false by with_reducible assumption)
            obtain rfl : i = xs.length := by omega
            have h2 := hi.2.1
            rw [List.take_of_length_le (Nat.le_refl _)] at h2
            have h16 := of_decide_eq_false (show decide ((16 : Int) < (xs.length : Nat)) = false by with_reducible assumption)
            exact (peersB_iff.2 ⟨nt (by with_reducible assumption), by omega, risingP_adj hi.2.2, h2⟩).symm)
         | trace_state)
    | trace_state
end Go.Proofs.YtmhieddhmebfhaaGreat

/- Contracts: who is heard: the document's. -/
namespace Go.Proofs.YtmhieddhmebfhaaGreat
open Go.RowKit
set_option maxRecDepth 20000

def refPB (b : Int) (p : GPeer) : Bool := placeB p.id && (!decide (p.id = b) && (decide (0 ≤ p.missed) && decide (p.missed < 3)))
theorem far_pos {b x : Int} (h1 : placeB b = true) (h2 : placeB x = true) : (0 < farI b x ↔ x ≠ b) ∧ 0 ≤ farI b x := by
  simp only [placeB, Bool.and_eq_true, decide_eq_true_eq] at h1 h2
  rw [farI_eq h1.1 h1.2 h2.1 h2.2]
  omega
theorem far_inj {b x y : Int} (h1 : placeB b = true) (h2 : placeB x = true) (h3 : placeB y = true) : farI b x = farI b y ↔ x = y := by
  simp only [placeB, Bool.and_eq_true, decide_eq_true_eq] at h1 h2 h3
  rw [farI_eq h1.1 h1.2 h2.1 h2.2, farI_eq h1.1 h1.2 h3.1 h3.2]
  omega
theorem refPB_iff {b : Int} {p : GPeer} (h : placeB b = true) : refPB b p = peerB b p := by
  unfold refPB peerB
  cases hp : placeB p.id with
  | false => simp
  | true =>
    have h1 := (far_pos h hp).1
    by_cases e : p.id = b
    · have : ¬ 0 < farI b p.id := fun h2 => h1.1 h2 e
      simp [e, this]
      intro _ _
      rw [e] at this
      omega
    · have : 0 < farI b p.id := h1.2 e
      simp [e, this]
set_option maxHeartbeats 4000000 in
theorem k_refPeers : Known Tryz.prog tau 125 (S2 dInt dPeers fun b l => okB (peersB b l)) := by
  refine known2 hmix tau_ok (ctx_cons k_refPlace (ctx_cons k_reffar ctx_nil)) (fn := Tryz.f125) (by kernel_rfl) [(4, ((0, 0) :: (1, 0) :: (2, 3) :: (3, 4) :: (4, 8) :: (5, 16) :: (6, 32) :: (7, 96) :: (8, 128) :: (9, 128) :: (10, 896) :: (11, 1152) :: (12, 2176) :: (13, 128) :: (14, 12416) :: (15, 16512) :: (16, 32896) :: (17, 65536) :: (18, 65536) :: (19, 458752) :: (20, 589824) :: (21, 1114112) :: (22, 2162688) :: (23, 4259840) :: (24, 8454144) :: (25, 16777216) :: (26, 16777216) :: (27, 117440512) :: (28, 150994944) :: (29, 285212672) :: (30, 553648128) :: (31, 1090519040) :: (32, 2164260864) :: (33, 4294967296) :: (34, 12884901888) :: (35, 21474836480) :: (36, 34359738368) :: (37, 34359738368) :: (38, 34359738368) :: (39, 309237645312) :: (40, 721554505728) :: (41, 1133871366144) :: (42, 2233382993920) :: (43, 4501125726208) :: (44, 34359738368) :: (45, 34359738368) :: (46, 34359738368) :: (47, 105587476004864) :: (48, 140771848093696) :: (49, 281509336449024) :: (50, 589372592226304) :: (51, 1134730359603200) :: (52, 2251838468390912) :: (53, 4503603922337792) :: []))] (by kernel_rfl) _ _ _ fun b xs hfit => ⟨rfl,
    [(2, invN (4 :: 5 :: 6 :: 7 :: 8 :: 9 :: 10 :: 11 :: 12 :: 13 :: 14 :: 15 :: 16 :: 17 :: 18 :: 19 :: 20 :: 21 :: 22 :: 23 :: 24 :: 25 :: 26 :: 27 :: 28 :: 29 :: 30 :: 31 :: 32 :: 33 :: 34 :: 35 :: 36 :: 37 :: 38 :: 39 :: 40 :: 41 :: 42 :: 43 :: 44 :: 45 :: 46 :: 47 :: 48 :: 49 :: 50 :: 51 :: 52 :: 53 :: 54 :: 55 :: 56 :: 57 :: 58 :: 59 :: 60 :: 61 :: 62 :: 63 :: 64 :: 65 :: []) (fun i => i ≤ xs.length ∧ (∀ x ∈ xs.take i, refPB b x = true) ∧ ∀ t, t + 1 < i → farI b (xs.getD t default).id < farI b (xs.getD (t + 1) default).id) (fun i => withS [(5, .int .i64 i)]) (fun i => xs.length - i))], ?_⟩
  have hlen : xs.length * 16 ≤ 140737488355328 := hfit.2.1
  clear hfit
  (repeat' (first | ((with_reducible refine BdI ?_); (first | ((with_reducible refine SqI ?_ (fun Kv hN hX hR => ?_)); (next => exact rfl)) | ((with_reducible refine JnI ?_ ?_); (next => exact rfl)) | (conv => whnf))) | (with_reducible first | refine BdS (fun Kv hN hX hR => ?_) | refine Stop.mk ?_ | refine Join.mk ⟨fun Kv hN hX hR => ?_, ?_⟩ | refine DrawJ.each ?_ | exact SubJ.self _) | with_reducible refine SubJ.of ?_ | (with_reducible first | refine FlS (fun Kf hF => ?_) | refine FlN ?_ | refine NdS (fun Kg hG => ?_) | (refine hF _ _ ?_; clear hF; clear Kf) | (refine hG _ _ _ _ ?_; clear hG; clear Kg)) | ((with_reducible refine SqI ?_ (fun Kv hN hX hR => ?_)); (next => exact rfl)) | ((with_reducible refine JnI ?_ ?_); (next => exact rfl)) | ((with_reducible first | refine hN _ ?_ | refine hX _ _ ?_ | refine hR _ ?_); (try (clear hG; clear Kg)); clear hN hX hR; clear Kv) | ((conv => whnf); first | (with_reducible first | rfl | exact True.intro | refine (fun (_ : (_ : Prop)) => ?_) | refine And.intro ?_ ?_) | ((with_reducible first | refine hN _ ?_ | refine hX _ _ ?_ | refine hR _ ?_); (try (clear hG; clear Kg)); clear hN hX hR; clear Kv) | (with_reducible first | refine BdS (fun Kv hN hX hR => ?_) | refine Stop.mk ?_ | refine Join.mk ⟨fun Kv hN hX hR => ?_, ?_⟩ | refine DrawJ.each ?_ | exact SubJ.self _) | with_reducible refine SubJ.of ?_ | (with_reducible first | refine FlS (fun Kf hF => ?_) | refine FlN ?_ | refine NdS (fun Kg hG => ?_) | (refine hF _ _ ?_; clear hF; clear Kf) | (refine hG _ _ _ _ ?_; clear hG; clear Kg))))); all_goals (conv => whnf); all_goals (repeat ((try (clear hG; clear Kg)); clear hN hX hR; clear Kv))
  all_goals first
    | (refine ⟨0, ⟨by omega, by simp, by intros; omega⟩, ?_⟩
       (repeat' (first | ((with_reducible refine BdI ?_); (first | ((with_reducible refine SqI ?_ (fun Kv hN hX hR => ?_)); (next => exact rfl)) | ((with_reducible refine JnI ?_ ?_); (next => exact rfl)) | (conv => whnf))) | (with_reducible first | refine BdS (fun Kv hN hX hR => ?_) | refine Stop.mk ?_ | refine Join.mk ⟨fun Kv hN hX hR => ?_, ?_⟩ | refine DrawJ.each ?_ | exact SubJ.self _) | with_reducible refine SubJ.of ?_ | (with_reducible first | refine FlS (fun Kf hF => ?_) | refine FlN ?_ | refine NdS (fun Kg hG => ?_) | (refine hF _ _ ?_; clear hF; clear Kf) | (refine hG _ _ _ _ ?_; clear hG; clear Kg)) | ((with_reducible refine SqI ?_ (fun Kv hN hX hR => ?_)); (next => exact rfl)) | ((with_reducible refine JnI ?_ ?_); (next => exact rfl)) | ((with_reducible first | refine hN _ ?_ | refine hX _ _ ?_ | refine hR _ ?_); (try (clear hG; clear Kg)); clear hN hX hR; clear Kv) | ((conv => whnf); first | (with_reducible first | rfl | exact True.intro | intro _ | refine And.intro ?_ ?_) | ((with_reducible first | refine hN _ ?_ | refine hX _ _ ?_ | refine hR _ ?_); (try (clear hG; clear Kg)); clear hN hX hR; clear Kv) | (with_reducible first | refine BdS (fun Kv hN hX hR => ?_) | refine Stop.mk ?_ | refine Join.mk ⟨fun Kv hN hX hR => ?_, ?_⟩ | refine DrawJ.each ?_ | exact SubJ.self _) | with_reducible refine SubJ.of ?_ | (with_reducible first | refine FlS (fun Kf hF => ?_) | refine FlN ?_ | refine NdS (fun Kg hG => ?_) | (refine hF _ _ ?_; clear hF; clear Kf) | (refine hG _ _ _ _ ?_; clear hG; clear Kg))))); all_goals (conv => whnf); all_goals (repeat ((try (clear hG; clear Kg)); clear hN hX hR; clear Kv))
       all_goals rfl)
    | (with_reducible intro i hi
       (repeat' (first | ((with_reducible refine BdI ?_); (first | ((with_reducible refine SqI ?_ (fun Kv hN hX hR => ?_)); (next => exact rfl)) | ((with_reducible refine JnI ?_ ?_); (next => exact rfl)) | (conv => whnf))) | (with_reducible first | refine BdS (fun Kv hN hX hR => ?_) | refine Stop.mk ?_ | refine Join.mk ⟨fun Kv hN hX hR => ?_, ?_⟩ | refine DrawJ.each ?_ | exact SubJ.self _) | with_reducible refine SubJ.of ?_ | (with_reducible first | refine FlS (fun Kf hF => ?_) | refine FlN ?_ | refine NdS (fun Kg hG => ?_) | (refine hF _ _ ?_; clear hF; clear Kf) | (refine hG _ _ _ _ ?_; clear hG; clear Kg)) | ((with_reducible refine SqI ?_ (fun Kv hN hX hR => ?_)); (next => exact rfl)) | ((with_reducible refine JnI ?_ ?_); (next => exact rfl)) | ((with_reducible first | refine hN _ ?_ | refine hX _ _ ?_ | refine hR _ ?_); (try (clear hG; clear Kg)); clear hN hX hR; clear Kv) | ((conv => whnf); first | (with_reducible first | rfl | exact True.intro | intro _ | refine And.intro ?_ ?_) | ((with_reducible first | refine hN _ ?_ | refine hX _ _ ?_ | refine hR _ ?_); (try (clear hG; clear Kg)); clear hN hX hR; clear Kv) | (with_reducible first | refine BdS (fun Kv hN hX hR => ?_) | refine Stop.mk ?_ | refine Join.mk ⟨fun Kv hN hX hR => ?_, ?_⟩ | refine DrawJ.each ?_ | exact SubJ.self _) | with_reducible refine SubJ.of ?_ | (with_reducible first | refine FlS (fun Kf hF => ?_) | refine FlN ?_ | refine NdS (fun Kg hG => ?_) | (refine hF _ _ ?_; clear hF; clear Kf) | (refine hG _ _ _ _ ?_; clear hG; clear Kg))))); all_goals (conv => whnf); all_goals (repeat ((try (clear hG; clear Kg)); clear hN hX hR; clear Kv))
       all_goals first
               | (have h := of_decide_eq_true (show decide ((i : Int) < (xs.length : Nat)) = true by with_reducible assumption)
                  first
                    | exact Ob.mk ⟨by omega, h⟩
                    | (have h0 := of_decide_eq_true (show decide (0 < (i : Int)) = true by with_reducible assumption)
                       have hb := back1 (i := i) (by omega) (by omega)
                       exact Ob.mk (by rw [hb.2]; omega))
                    | (refine (peersB_no ?_).symm
                       rintro ⟨h0, _, h3, h4⟩
                       have h5 := h4 _ (getD_mem (l := xs) (i := i) (d := default) (by omega))
                       rw [← refPB_iff h0] at h5
                       simp only [refPB, Bool.and_eq_true] at h5
                       simp only [decide_eq_true_eq, decide_eq_false_iff_not, Bool.not_eq_true', Bool.not_eq_false', Int.toNat_natCast] at *
                       first
                         | omega
                         | (simp_all; done)
                         | (have hb := back1 (i := i) (by omega) (by omega)
                            have h6 : farI b (xs.getD i default).id ≤ farI b (xs.getD (IntKind.i64.wrap ((i : Int) - 1)).toNat default).id := by assumption
                            rw [hb.1] at h6
                            have := h3 (i - 1) i (by omega) (by omega)
                            omega)
                         | trace_state)
                    | (have hp : refPB b (xs.getD i default) = true := by
                         simp only [refPB, Bool.and_eq_true]
                         simp only [decide_eq_true_eq, decide_eq_false_iff_not, Bool.not_eq_true', Bool.not_eq_false', Int.toNat_natCast] at *
                         refine ⟨by assumption, by assumption, by omega, by omega⟩
                       have hl : 0 < i → farI b (xs.getD (i - 1) default).id < farI b (xs.getD i default).id := by
                         intro h0
                         first
                           | (have hb := back1 (i := i) (by omega) (by omega)
                              have h6 := of_decide_eq_false (show decide (farI b (xs.getD (i : Int).toNat default).id ≤ farI b (xs.getD (IntKind.i64.wrap ((i : Int) - 1)).toNat default).id) = false by with_reducible assumption)
                              rw [hb.1, Int.toNat_natCast] at h6
                              omega)
                           | (have h6 := of_decide_eq_false (show decide (0 < (i : Int)) = false by with_reducible assumption)
                              omega)
                       refine ⟨i + 1, ⟨by omega, all_take_succ (d := default) (by omega) hi.2.1 hp, fun t ht => ?_⟩, by show xs.length - (i + 1) < xs.length - i; omega, ?_⟩
                       · rcases Nat.lt_or_eq_of_le (Nat.le_of_lt_succ ht) with h3 | h3
                         · exact hi.2.2 t h3
                         · subst h3
                           exact hl (by omega)
                       · (repeat' (first | ((with_reducible refine BdI ?_); (first | ((with_reducible refine SqI ?_ (fun Kv hN hX hR => ?_)); (next => exact rfl)) | ((with_reducible refine JnI ?_ ?_); (next => exact rfl)) | (conv => whnf))) | (with_reducible first | refine BdS (fun Kv hN hX hR => ?_) | refine Stop.mk ?_ | refine Join.mk ⟨fun Kv hN hX hR => ?_, ?_⟩ | refine DrawJ.each ?_ | exact SubJ.self _) | with_reducible refine SubJ.of ?_ | (with_reducible first | refine FlS (fun Kf hF => ?_) | refine FlN ?_ | refine NdS (fun Kg hG => ?_) | (refine hF _ _ ?_; clear hF; clear Kf) | (refine hG _ _ _ _ ?_; clear hG; clear Kg)) | ((with_reducible refine SqI ?_ (fun Kv hN hX hR => ?_)); (next => exact rfl)) | ((with_reducible refine JnI ?_ ?_); (next => exact rfl)) | ((with_reducible first | refine hN _ ?_ | refine hX _ _ ?_ | refine hR _ ?_); (try (clear hG; clear Kg)); clear hN hX hR; clear Kv) | ((conv => whnf); first | (with_reducible first | rfl | exact True.intro | intro _ | refine And.intro ?_ ?_) | ((with_reducible first | refine hN _ ?_ | refine hX _ _ ?_ | refine hR _ ?_); (try (clear hG; clear Kg)); clear hN hX hR; clear Kv) | (with_reducible first | refine BdS (fun Kv hN hX hR => ?_) | refine Stop.mk ?_ | refine Join.mk ⟨fun Kv hN hX hR => ?_, ?_⟩ | refine DrawJ.each ?_ | exact SubJ.self _) | with_reducible refine SubJ.of ?_ | (with_reducible first | refine FlS (fun Kf hF => ?_) | refine FlN ?_ | refine NdS (fun Kg hG => ?_) | (refine hF _ _ ?_; clear hF; clear Kf) | (refine hG _ _ _ _ ?_; clear hG; clear Kg))))); all_goals (conv => whnf); all_goals (repeat ((try (clear hG; clear Kg)); clear hN hX hR; clear Kv))
                         all_goals first
                           | exact wrapI (by omega) (by omega)
                           | rfl))
               | (have h0 : placeB b = false := by with_reducible assumption
                  exact (peersB_no fun h => by rw [h.1] at h0; simp at h0).symm)
               | (have h := of_decide_eq_false (show decide ((i : Int) < (xs.length : Nat)) = false by with_reducible assumption)
                  have h0 : placeB b = true := by with_reducible assumption
                  obtain rfl : i = xs.length := by omega
                  have h2 := hi.2.1
                  rw [List.take_of_length_le (Nat.le_refl _)] at h2
                  by_cases h4 : xs.length ≤ 16
                  · rw [peersB_iff.2 ⟨h0, h4, risingP_adj hi.2.2, fun p hp => by rw [← refPB_iff h0]; exact h2 p hp⟩]
                    exact decide_eq_true (by omega)
                  · rw [peersB_no (fun h => h4 h.2.1)]
                    exact decide_eq_false (by omega))
               | trace_state)
    | trace_state
end Go.Proofs.YtmhieddhmebfhaaGreat

/- Contracts: views, stores, nodes: may they be. -/
namespace Go.Proofs.YtmhieddhmebfhaaGreat
open Go.RowKit
set_option maxRecDepth 20000

def viewB (v : GView) : Bool := peersB v.id v.peers && (passB v.passive && (decide (v.peers.length + v.passive.length ≤ 16) && !v.passive.any (oddV v)))
theorem viewB_iff {v : GView} : viewB v = true ↔ peersB v.id v.peers = true ∧ passB v.passive = true ∧ v.peers.length + v.passive.length ≤ 16 ∧ v.passive.any (oddV v) = false := by
  simp only [viewB, Bool.and_eq_true, decide_eq_true_eq, Bool.not_eq_true']
theorem viewB_no {v : GView} (h : ¬ (peersB v.id v.peers = true ∧ passB v.passive = true ∧ v.peers.length + v.passive.length ≤ 16 ∧ v.passive.any (oddV v) = false)) : viewB v = false := by
  rw [← viewB_iff] at h
  simpa using h
theorem etaView (v : GView) : (⟨v.id, v.peers, v.passive⟩ : GView) = v := rfl
set_option maxHeartbeats 1000000 in
theorem k_viewMay : Known Tryz.prog tau 78 (S1 dView fun v => okB (viewB v)) := by
  refine known1 hmix tau_ok (ctx_cons k_peersMay (ctx_cons k_passMay (ctx_cons k_vContains ctx_nil))) (fn := Tryz.f78) (by kernel_rfl) [] (by kernel_rfl) _ _ fun v hfit => ⟨rfl, [], ?_⟩
  clear hfit
  (repeat' (first | ((with_reducible refine BdI ?_); (first | ((with_reducible refine SqI ?_ (fun Kv hN hX hR => ?_)); (next => exact rfl)) | ((with_reducible refine JnI ?_ ?_); (next => exact rfl)) | (conv => whnf))) | (with_reducible first | refine BdS (fun Kv hN hX hR => ?_) | refine Stop.mk ?_ | refine Join.mk ⟨fun Kv hN hX hR => ?_, ?_⟩ | refine DrawJ.each ?_ | exact SubJ.self _) | with_reducible refine SubJ.of ?_ | (with_reducible first | refine FlS (fun Kf hF => ?_) | refine FlN ?_ | refine NdS (fun Kg hG => ?_) | (refine hF _ _ ?_; clear hF; clear Kf) | (refine hG _ _ _ _ ?_; clear hG; clear Kg)) | ((with_reducible refine SqI ?_ (fun Kv hN hX hR => ?_)); (next => exact rfl)) | ((with_reducible refine JnI ?_ ?_); (next => exact rfl)) | ((with_reducible first | refine hN _ ?_ | refine hX _ _ ?_ | refine hR _ ?_); (try (clear hG; clear Kg)); clear hN hX hR; clear Kv) | ((conv => whnf); first | (with_reducible first | rfl | exact True.intro | intro _ | refine And.intro ?_ ?_) | ((with_reducible first | refine hN _ ?_ | refine hX _ _ ?_ | refine hR _ ?_); (try (clear hG; clear Kg)); clear hN hX hR; clear Kv) | (with_reducible first | refine BdS (fun Kv hN hX hR => ?_) | refine Stop.mk ?_ | refine Join.mk ⟨fun Kv hN hX hR => ?_, ?_⟩ | refine DrawJ.each ?_ | exact SubJ.self _) | with_reducible refine SubJ.of ?_ | (with_reducible first | refine FlS (fun Kf hF => ?_) | refine FlN ?_ | refine NdS (fun Kg hG => ?_) | (refine hF _ _ ?_; clear hF; clear Kf) | (refine hG _ _ _ _ ?_; clear hG; clear Kg))))); all_goals (conv => whnf); all_goals (repeat ((try (clear hG; clear Kg)); clear hN hX hR; clear Kv))
  all_goals first
    | (have h1 := nf (show (!peersB v.id v.peers) = true by with_reducible assumption)
       exact (viewB_no fun h => by rw [h.1] at h1; simp at h1).symm)
    | (have h1 := nf (show (!passB v.passive) = true by with_reducible assumption)
       exact (viewB_no fun h => by rw [h.2.1] at h1; simp at h1).symm)
    | (have h1 := nt (show (!peersB v.id v.peers) = false by with_reducible assumption)
       have h2 := nt (show (!passB v.passive) = false by with_reducible assumption)
       have g1 := peersB_iff.1 h1
       have g2 := passB_iff.1 h2
       have e1 : IntKind.i64.wrap ((v.peers.length : Int) + (v.passive.length : Int)) = v.peers.length + v.passive.length := wrapI (by omega) (by omega)
       first
         | exact Ob.mk g1.2.2.1
         | (have h3 := of_decide_eq_true (show decide (16 < IntKind.i64.wrap ((v.peers.length : Int) + (v.passive.length : Int))) = true by with_reducible assumption)
            rw [e1] at h3
            exact (viewB_no fun h => by have := h.2.2.1; omega).symm)
         | (have h3 := of_decide_eq_false (show decide (16 < IntKind.i64.wrap ((v.peers.length : Int) + (v.passive.length : Int))) = false by with_reducible assumption)
            rw [e1] at h3
            unfold viewB
            rw [h1, h2, decide_eq_true (show v.peers.length + v.passive.length ≤ 16 by omega)]
            rfl))
    | trace_state
def toldB (t : GTold) : Bool := placeB t.key && (placeB t.value && (t.has || decide (t.value = 0)))
theorem k_odd : Known Tryz.prog tau 113 (S1 dTold fun t => okB (!toldB t)) := by
  refine known1 hmix tau_ok (ctx_cons k_Byte ctx_nil) (fn := Tryz.f113) (by kernel_rfl) [] (by kernel_rfl) _ _ fun t hfit => ⟨rfl, [], ?_⟩
  clear hfit
  (repeat' (first | ((with_reducible refine BdI ?_); (first | ((with_reducible refine SqI ?_ (fun Kv hN hX hR => ?_)); (next => exact rfl)) | ((with_reducible refine JnI ?_ ?_); (next => exact rfl)) | (conv => whnf))) | (with_reducible first | refine BdS (fun Kv hN hX hR => ?_) | refine Stop.mk ?_ | refine Join.mk ⟨fun Kv hN hX hR => ?_, ?_⟩ | refine DrawJ.each ?_ | exact SubJ.self _) | with_reducible refine SubJ.of ?_ | (with_reducible first | refine FlS (fun Kf hF => ?_) | refine FlN ?_ | refine NdS (fun Kg hG => ?_) | (refine hF _ _ ?_; clear hF; clear Kf) | (refine hG _ _ _ _ ?_; clear hG; clear Kg)) | ((with_reducible refine SqI ?_ (fun Kv hN hX hR => ?_)); (next => exact rfl)) | ((with_reducible refine JnI ?_ ?_); (next => exact rfl)) | ((with_reducible first | refine hN _ ?_ | refine hX _ _ ?_ | refine hR _ ?_); (try (clear hG; clear Kg)); clear hN hX hR; clear Kv) | ((conv => whnf); first | (with_reducible first | rfl | exact True.intro | intro _ | refine And.intro ?_ ?_) | ((with_reducible first | refine hN _ ?_ | refine hX _ _ ?_ | refine hR _ ?_); (try (clear hG; clear Kg)); clear hN hX hR; clear Kv) | (with_reducible first | refine BdS (fun Kv hN hX hR => ?_) | refine Stop.mk ?_ | refine Join.mk ⟨fun Kv hN hX hR => ?_, ?_⟩ | refine DrawJ.each ?_ | exact SubJ.self _) | with_reducible refine SubJ.of ?_ | (with_reducible first | refine FlS (fun Kf hF => ?_) | refine FlN ?_ | refine NdS (fun Kg hG => ?_) | (refine hF _ _ ?_; clear hF; clear Kf) | (refine hG _ _ _ _ ?_; clear hG; clear Kg))))); all_goals (conv => whnf); all_goals (repeat ((try (clear hG; clear Kg)); clear hN hX hR; clear Kv))
  all_goals first
    | (simp_all [toldB]; done)
    | trace_state
theorem k_tIndex : Known Tryz.prog tau 135 (S2 dTolds (dFn 113) fun l _ => .ok (.int .i64 (idxI (fun m => !toldB m) l)) []) := by
  refine known2 hmix tau_ok (ctx_cons k_odd ctx_nil) (fn := Tryz.f135) (by kernel_rfl) [] (by kernel_rfl) _ _ _ fun xs _ hfit => ⟨rfl,
    [(2, invN [4, 5, 8, 9, 10, 11, 12, 13, 14, 15, 16, 17, 18] (fun i => i ≤ xs.length ∧ ∀ x ∈ xs.take i, (!toldB x) = false) (fun i => withS [(8, .int .i64 i)]) (fun i => xs.length - i))], ?_⟩
  have hlen : xs.length * 24 ≤ 140737488355328 := hfit.1
  clear hfit
  (repeat' (first | ((with_reducible refine BdI ?_); (first | ((with_reducible refine SqI ?_ (fun Kv hN hX hR => ?_)); (next => exact rfl)) | ((with_reducible refine JnI ?_ ?_); (next => exact rfl)) | (conv => whnf))) | (with_reducible first | refine BdS (fun Kv hN hX hR => ?_) | refine Stop.mk ?_ | refine Join.mk ⟨fun Kv hN hX hR => ?_, ?_⟩ | refine DrawJ.each ?_ | exact SubJ.self _) | with_reducible refine SubJ.of ?_ | (with_reducible first | refine FlS (fun Kf hF => ?_) | refine FlN ?_ | refine NdS (fun Kg hG => ?_) | (refine hF _ _ ?_; clear hF; clear Kf) | (refine hG _ _ _ _ ?_; clear hG; clear Kg)) | ((with_reducible refine SqI ?_ (fun Kv hN hX hR => ?_)); (next => exact rfl)) | ((with_reducible refine JnI ?_ ?_); (next => exact rfl)) | ((with_reducible first | refine hN _ ?_ | refine hX _ _ ?_ | refine hR _ ?_); (try (clear hG; clear Kg)); clear hN hX hR; clear Kv) | ((conv => whnf); first | (with_reducible first | rfl | exact True.intro | refine (fun (_ : (_ : Prop)) => ?_) | refine And.intro ?_ ?_) | ((with_reducible first | refine hN _ ?_ | refine hX _ _ ?_ | refine hR _ ?_); (try (clear hG; clear Kg)); clear hN hX hR; clear Kv) | (with_reducible first | refine BdS (fun Kv hN hX hR => ?_) | refine Stop.mk ?_ | refine Join.mk ⟨fun Kv hN hX hR => ?_, ?_⟩ | refine DrawJ.each ?_ | exact SubJ.self _) | with_reducible refine SubJ.of ?_ | (with_reducible first | refine FlS (fun Kf hF => ?_) | refine FlN ?_ | refine NdS (fun Kg hG => ?_) | (refine hF _ _ ?_; clear hF; clear Kf) | (refine hG _ _ _ _ ?_; clear hG; clear Kg))))); all_goals (conv => whnf); all_goals (repeat ((try (clear hG; clear Kg)); clear hN hX hR; clear Kv))
  all_goals first
    | (refine ⟨0, ⟨by omega, by simp⟩, ?_⟩
       (repeat' (first | ((with_reducible refine BdI ?_); (first | ((with_reducible refine SqI ?_ (fun Kv hN hX hR => ?_)); (next => exact rfl)) | ((with_reducible refine JnI ?_ ?_); (next => exact rfl)) | (conv => whnf))) | (with_reducible first | refine BdS (fun Kv hN hX hR => ?_) | refine Stop.mk ?_ | refine Join.mk ⟨fun Kv hN hX hR => ?_, ?_⟩ | refine DrawJ.each ?_ | exact SubJ.self _) | with_reducible refine SubJ.of ?_ | (with_reducible first | refine FlS (fun Kf hF => ?_) | refine FlN ?_ | refine NdS (fun Kg hG => ?_) | (refine hF _ _ ?_; clear hF; clear Kf) | (refine hG _ _ _ _ ?_; clear hG; clear Kg)) | ((with_reducible refine SqI ?_ (fun Kv hN hX hR => ?_)); (next => exact rfl)) | ((with_reducible refine JnI ?_ ?_); (next => exact rfl)) | ((with_reducible first | refine hN _ ?_ | refine hX _ _ ?_ | refine hR _ ?_); (try (clear hG; clear Kg)); clear hN hX hR; clear Kv) | ((conv => whnf); first | (with_reducible first | rfl | exact True.intro | intro _ | refine And.intro ?_ ?_) | ((with_reducible first | refine hN _ ?_ | refine hX _ _ ?_ | refine hR _ ?_); (try (clear hG; clear Kg)); clear hN hX hR; clear Kv) | (with_reducible first | refine BdS (fun Kv hN hX hR => ?_) | refine Stop.mk ?_ | refine Join.mk ⟨fun Kv hN hX hR => ?_, ?_⟩ | refine DrawJ.each ?_ | exact SubJ.self _) | with_reducible refine SubJ.of ?_ | (with_reducible first | refine FlS (fun Kf hF => ?_) | refine FlN ?_ | refine NdS (fun Kg hG => ?_) | (refine hF _ _ ?_; clear hF; clear Kf) | (refine hG _ _ _ _ ?_; clear hG; clear Kg))))); all_goals (conv => whnf); all_goals (repeat ((try (clear hG; clear Kg)); clear hN hX hR; clear Kv))
       all_goals rfl)
    | (with_reducible intro i hi
       (repeat' (first | ((with_reducible refine BdI ?_); (first | ((with_reducible refine SqI ?_ (fun Kv hN hX hR => ?_)); (next => exact rfl)) | ((with_reducible refine JnI ?_ ?_); (next => exact rfl)) | (conv => whnf))) | (with_reducible first | refine BdS (fun Kv hN hX hR => ?_) | refine Stop.mk ?_ | refine Join.mk ⟨fun Kv hN hX hR => ?_, ?_⟩ | refine DrawJ.each ?_ | exact SubJ.self _) | with_reducible refine SubJ.of ?_ | (with_reducible first | refine FlS (fun Kf hF => ?_) | refine FlN ?_ | refine NdS (fun Kg hG => ?_) | (refine hF _ _ ?_; clear hF; clear Kf) | (refine hG _ _ _ _ ?_; clear hG; clear Kg)) | ((with_reducible refine SqI ?_ (fun Kv hN hX hR => ?_)); (next => exact rfl)) | ((with_reducible refine JnI ?_ ?_); (next => exact rfl)) | ((with_reducible first | refine hN _ ?_ | refine hX _ _ ?_ | refine hR _ ?_); (try (clear hG; clear Kg)); clear hN hX hR; clear Kv) | ((conv => whnf); first | (with_reducible first | rfl | exact True.intro | intro _ | refine And.intro ?_ ?_) | ((with_reducible first | refine hN _ ?_ | refine hX _ _ ?_ | refine hR _ ?_); (try (clear hG; clear Kg)); clear hN hX hR; clear Kv) | (with_reducible first | refine BdS (fun Kv hN hX hR => ?_) | refine Stop.mk ?_ | refine Join.mk ⟨fun Kv hN hX hR => ?_, ?_⟩ | refine DrawJ.each ?_ | exact SubJ.self _) | with_reducible refine SubJ.of ?_ | (with_reducible first | refine FlS (fun Kf hF => ?_) | refine FlN ?_ | refine NdS (fun Kg hG => ?_) | (refine hF _ _ ?_; clear hF; clear Kf) | (refine hG _ _ _ _ ?_; clear hG; clear Kg))))); all_goals (conv => whnf); all_goals (repeat ((try (clear hG; clear Kg)); clear hN hX hR; clear Kv))
       all_goals (try simp only [Int.toNat_natCast] at *)
       all_goals first
         | exact Ob.mk ⟨by omega, of_decide_eq_true (by with_reducible assumption)⟩
         | (have h := of_decide_eq_true (show decide ((i : Int) < (xs.length : Nat)) = true by with_reducible assumption)
            have hm : (!toldB (xs.getD i default)) = true := by assumption
            exact (idxI_at (d := default) (by omega) hi.2 hm).symm)
         | (have h := of_decide_eq_true (show decide ((i : Int) < (xs.length : Nat)) = true by with_reducible assumption)
            have hm : (!toldB (xs.getD i default)) = false := by assumption
            refine ⟨i + 1, ⟨by omega, all_take_succ (d := default) (by omega) hi.2 hm⟩, by show xs.length - (i + 1) < xs.length - i; omega, ?_⟩
            (repeat' (first | ((with_reducible refine BdI ?_); (first | ((with_reducible refine SqI ?_ (fun Kv hN hX hR => ?_)); (next => exact rfl)) | ((with_reducible refine JnI ?_ ?_); (next => exact rfl)) | (conv => whnf))) | (with_reducible first | refine BdS (fun Kv hN hX hR => ?_) | refine Stop.mk ?_ | refine Join.mk ⟨fun Kv hN hX hR => ?_, ?_⟩ | refine DrawJ.each ?_ | exact SubJ.self _) | with_reducible refine SubJ.of ?_ | (with_reducible first | refine FlS (fun Kf hF => ?_) | refine FlN ?_ | refine NdS (fun Kg hG => ?_) | (refine hF _ _ ?_; clear hF; clear Kf) | (refine hG _ _ _ _ ?_; clear hG; clear Kg)) | ((with_reducible refine SqI ?_ (fun Kv hN hX hR => ?_)); (next => exact rfl)) | ((with_reducible refine JnI ?_ ?_); (next => exact rfl)) | ((with_reducible first | refine hN _ ?_ | refine hX _ _ ?_ | refine hR _ ?_); (try (clear hG; clear Kg)); clear hN hX hR; clear Kv) | ((conv => whnf); first | (with_reducible first | rfl | exact True.intro | intro _ | refine And.intro ?_ ?_) | ((with_reducible first | refine hN _ ?_ | refine hX _ _ ?_ | refine hR _ ?_); (try (clear hG; clear Kg)); clear hN hX hR; clear Kv) | (with_reducible first | refine BdS (fun Kv hN hX hR => ?_) | refine Stop.mk ?_ | refine Join.mk ⟨fun Kv hN hX hR => ?_, ?_⟩ | refine DrawJ.each ?_ | exact SubJ.self _) | with_reducible refine SubJ.of ?_ | (with_reducible first | refine FlS (fun Kf hF => ?_) | refine FlN ?_ | refine NdS (fun Kg hG => ?_) | (refine hF _ _ ?_; clear hF; clear Kf) | (refine hG _ _ _ _ ?_; clear hG; clear Kg))))); all_goals (conv => whnf); all_goals (repeat ((try (clear hG; clear Kg)); clear hN hX hR; clear Kv))
            all_goals first
              | exact wrapI (by omega) (by omega)
              | rfl)
         | (have h := of_decide_eq_false (show decide ((i : Int) < (xs.length : Nat)) = false by with_reducible assumption)
            have h2 := hi.2
            rw [List.take_of_length_le (by omega)] at h2
            exact (idxI_none h2).symm)
         | trace_state)
    | trace_state
theorem k_tContains : Known Tryz.prog tau 112 (S2 dTolds (dFn 113) fun l _ => okB (l.any fun m => !toldB m)) := by
  refine known2 hmix tau_ok (ctx_cons k_tIndex ctx_nil) (fn := Tryz.f112) (by kernel_rfl) [] (by kernel_rfl) _ _ _ fun xs _ hfit => ⟨rfl, [], ?_⟩
  (repeat' (first | ((with_reducible refine BdI ?_); (first | ((with_reducible refine SqI ?_ (fun Kv hN hX hR => ?_)); (next => exact rfl)) | ((with_reducible refine JnI ?_ ?_); (next => exact rfl)) | (conv => whnf))) | (with_reducible first | refine BdS (fun Kv hN hX hR => ?_) | refine Stop.mk ?_ | refine Join.mk ⟨fun Kv hN hX hR => ?_, ?_⟩ | refine DrawJ.each ?_ | exact SubJ.self _) | with_reducible refine SubJ.of ?_ | (with_reducible first | refine FlS (fun Kf hF => ?_) | refine FlN ?_ | refine NdS (fun Kg hG => ?_) | (refine hF _ _ ?_; clear hF; clear Kf) | (refine hG _ _ _ _ ?_; clear hG; clear Kg)) | ((with_reducible refine SqI ?_ (fun Kv hN hX hR => ?_)); (next => exact rfl)) | ((with_reducible refine JnI ?_ ?_); (next => exact rfl)) | ((with_reducible first | refine hN _ ?_ | refine hX _ _ ?_ | refine hR _ ?_); (try (clear hG; clear Kg)); clear hN hX hR; clear Kv) | ((conv => whnf); first | (with_reducible first | rfl | exact True.intro | intro _ | refine And.intro ?_ ?_) | ((with_reducible first | refine hN _ ?_ | refine hX _ _ ?_ | refine hR _ ?_); (try (clear hG; clear Kg)); clear hN hX hR; clear Kv) | (with_reducible first | refine BdS (fun Kv hN hX hR => ?_) | refine Stop.mk ?_ | refine Join.mk ⟨fun Kv hN hX hR => ?_, ?_⟩ | refine DrawJ.each ?_ | exact SubJ.self _) | with_reducible refine SubJ.of ?_ | (with_reducible first | refine FlS (fun Kf hF => ?_) | refine FlN ?_ | refine NdS (fun Kg hG => ?_) | (refine hF _ _ ?_; clear hF; clear Kf) | (refine hG _ _ _ _ ?_; clear hG; clear Kg))))); all_goals (conv => whnf); all_goals (repeat ((try (clear hG; clear Kg)); clear hN hX hR; clear Kv))
  exact idxI_ge _ _
def storeB (l : List GItem) : Bool := decide (l.length ≤ 16) && (decide (l.Pairwise fun a b => a.key < b.key) && l.all itemB)
def RisingK (l : List GItem) : Prop := ∀ s t, s < t → t < l.length → (l.getD s default).key < (l.getD t default).key
theorem etaIt {l : List GItem} {i : Nat} (h : i < l.length) : l.getD i default = l[i] := by simp [List.getD_eq_getElem?_getD, h]
theorem risingK_iff {l : List GItem} : RisingK l ↔ l.Pairwise fun a b => a.key < b.key := by
  rw [List.pairwise_iff_getElem]
  constructor
  · intro h i j hi hj hij
    have := h i j hij hj
    rwa [etaIt hi, etaIt hj] at this
  · intro h i j hij hj
    rw [etaIt (show i < l.length by omega), etaIt hj]
    exact h i j (by omega) hj hij
theorem risingK_adj {l : List GItem} (h : ∀ t, t + 1 < l.length → (l.getD t default).key < (l.getD (t + 1) default).key) : RisingK l := by
  intro s t
  induction t with
  | zero => intro h1; omega
  | succ t ih =>
    intro h1 h2
    have := h t h2
    rcases Nat.lt_or_eq_of_le (Nat.le_of_lt_succ h1) with h3 | rfl
    · have := ih h3 (by omega)
      omega
    · exact this
theorem storeB_iff {l : List GItem} : storeB l = true ↔ l.length ≤ 16 ∧ RisingK l ∧ ∀ x ∈ l, itemB x = true := by
  simp only [storeB, Bool.and_eq_true, decide_eq_true_eq, risingK_iff, List.all_eq_true]
theorem storeB_no {l : List GItem} (h : ¬ (l.length ≤ 16 ∧ RisingK l ∧ ∀ x ∈ l, itemB x = true)) : storeB l = false := by
  rw [← storeB_iff] at h
  simpa using h
theorem etaItem (i : GItem) : (⟨i.key, ⟨i.ver.count, i.ver.writer⟩, i.value, i.gone⟩ : GItem) = i := rfl
set_option maxHeartbeats 4000000 in
theorem k_storeMay : Known Tryz.prog tau 111 (S1 dItems fun l => okB (storeB l)) := by
  refine known1 hmix tau_ok (ctx_cons k_ItemMay ctx_nil) (fn := Tryz.f111) (by kernel_rfl) [(4, [(0, 0), (1, 1), (2, 2), (3, 6), (4, 8), (5, 24), (6, 40), (7, 64), (8, 64), (9, 320), (10, 704), (11, 1088), (12, 2112), (13, 64), (14, 8256), (15, 20544), (16, 32840), (17, 65544)])] (by kernel_rfl) _ _ fun xs hfit => ⟨rfl,
    [(2, invN [2, 3, 4, 7, 8, 9, 10, 11, 12, 13, 14, 15, 16, 17, 18, 19, 20, 21, 22, 23, 24, 25, 26, 27, 28, 29, 30] (fun i => i ≤ xs.length ∧ (∀ x ∈ xs.take i, itemB x = true) ∧ ∀ t, t + 1 < i → (xs.getD t default).key < (xs.getD (t + 1) default).key) (fun i => withS [(7, .int .i64 i)]) (fun i => xs.length - i))], ?_⟩
  have hlen : xs.length * 40 ≤ 140737488355328 := hfit.1
  clear hfit
  (repeat' (first | ((with_reducible refine BdI ?_); (first | ((with_reducible refine SqI ?_ (fun Kv hN hX hR => ?_)); (next => exact rfl)) | ((with_reducible refine JnI ?_ ?_); (next => exact rfl)) | (conv => whnf))) | (with_reducible first | refine BdS (fun Kv hN hX hR => ?_) | refine Stop.mk ?_ | refine Join.mk ⟨fun Kv hN hX hR => ?_, ?_⟩ | refine DrawJ.each ?_ | exact SubJ.self _) | with_reducible refine SubJ.of ?_ | (with_reducible first | refine FlS (fun Kf hF => ?_) | refine FlN ?_ | refine NdS (fun Kg hG => ?_) | (refine hF _ _ ?_; clear hF; clear Kf) | (refine hG _ _ _ _ ?_; clear hG; clear Kg)) | ((with_reducible refine SqI ?_ (fun Kv hN hX hR => ?_)); (next => exact rfl)) | ((with_reducible refine JnI ?_ ?_); (next => exact rfl)) | ((with_reducible first | refine hN _ ?_ | refine hX _ _ ?_ | refine hR _ ?_); (try (clear hG; clear Kg)); clear hN hX hR; clear Kv) | ((conv => whnf); first | (with_reducible first | rfl | exact True.intro | refine (fun (_ : (_ : Prop)) => ?_) | refine And.intro ?_ ?_) | ((with_reducible first | refine hN _ ?_ | refine hX _ _ ?_ | refine hR _ ?_); (try (clear hG; clear Kg)); clear hN hX hR; clear Kv) | (with_reducible first | refine BdS (fun Kv hN hX hR => ?_) | refine Stop.mk ?_ | refine Join.mk ⟨fun Kv hN hX hR => ?_, ?_⟩ | refine DrawJ.each ?_ | exact SubJ.self _) | with_reducible refine SubJ.of ?_ | (with_reducible first | refine FlS (fun Kf hF => ?_) | refine FlN ?_ | refine NdS (fun Kg hG => ?_) | (refine hF _ _ ?_; clear hF; clear Kf) | (refine hG _ _ _ _ ?_; clear hG; clear Kg))))); all_goals (conv => whnf); all_goals (repeat ((try (clear hG; clear Kg)); clear hN hX hR; clear Kv))
  all_goals first
    | (refine ⟨0, ⟨by omega, by simp, by intros; omega⟩, ?_⟩
       (repeat' (first | ((with_reducible refine BdI ?_); (first | ((with_reducible refine SqI ?_ (fun Kv hN hX hR => ?_)); (next => exact rfl)) | ((with_reducible refine JnI ?_ ?_); (next => exact rfl)) | (conv => whnf))) | (with_reducible first | refine BdS (fun Kv hN hX hR => ?_) | refine Stop.mk ?_ | refine Join.mk ⟨fun Kv hN hX hR => ?_, ?_⟩ | refine DrawJ.each ?_ | exact SubJ.self _) | with_reducible refine SubJ.of ?_ | (with_reducible first | refine FlS (fun Kf hF => ?_) | refine FlN ?_ | refine NdS (fun Kg hG => ?_) | (refine hF _ _ ?_; clear hF; clear Kf) | (refine hG _ _ _ _ ?_; clear hG; clear Kg)) | ((with_reducible refine SqI ?_ (fun Kv hN hX hR => ?_)); (next => exact rfl)) | ((with_reducible refine JnI ?_ ?_); (next => exact rfl)) | ((with_reducible first | refine hN _ ?_ | refine hX _ _ ?_ | refine hR _ ?_); (try (clear hG; clear Kg)); clear hN hX hR; clear Kv) | ((conv => whnf); first | (with_reducible first | rfl | exact True.intro | intro _ | refine And.intro ?_ ?_) | ((with_reducible first | refine hN _ ?_ | refine hX _ _ ?_ | refine hR _ ?_); (try (clear hG; clear Kg)); clear hN hX hR; clear Kv) | (with_reducible first | refine BdS (fun Kv hN hX hR => ?_) | refine Stop.mk ?_ | refine Join.mk ⟨fun Kv hN hX hR => ?_, ?_⟩ | refine DrawJ.each ?_ | exact SubJ.self _) | with_reducible refine SubJ.of ?_ | (with_reducible first | refine FlS (fun Kf hF => ?_) | refine FlN ?_ | refine NdS (fun Kg hG => ?_) | (refine hF _ _ ?_; clear hF; clear Kf) | (refine hG _ _ _ _ ?_; clear hG; clear Kg))))); all_goals (conv => whnf); all_goals (repeat ((try (clear hG; clear Kg)); clear hN hX hR; clear Kv))
       all_goals rfl)
    | (with_reducible intro i hi
       (repeat' (first | ((with_reducible refine BdI ?_); (first | ((with_reducible refine SqI ?_ (fun Kv hN hX hR => ?_)); (next => exact rfl)) | ((with_reducible refine JnI ?_ ?_); (next => exact rfl)) | (conv => whnf))) | (with_reducible first | refine BdS (fun Kv hN hX hR => ?_) | refine Stop.mk ?_ | refine Join.mk ⟨fun Kv hN hX hR => ?_, ?_⟩ | refine DrawJ.each ?_ | exact SubJ.self _) | with_reducible refine SubJ.of ?_ | (with_reducible first | refine FlS (fun Kf hF => ?_) | refine FlN ?_ | refine NdS (fun Kg hG => ?_) | (refine hF _ _ ?_; clear hF; clear Kf) | (refine hG _ _ _ _ ?_; clear hG; clear Kg)) | ((with_reducible refine SqI ?_ (fun Kv hN hX hR => ?_)); (next => exact rfl)) | ((with_reducible refine JnI ?_ ?_); (next => exact rfl)) | ((with_reducible first | refine hN _ ?_ | refine hX _ _ ?_ | refine hR _ ?_); (try (clear hG; clear Kg)); clear hN hX hR; clear Kv) | ((conv => whnf); first | (with_reducible first | rfl | exact True.intro | intro _ | refine And.intro ?_ ?_) | ((with_reducible first | refine hN _ ?_ | refine hX _ _ ?_ | refine hR _ ?_); (try (clear hG; clear Kg)); clear hN hX hR; clear Kv) | (with_reducible first | refine BdS (fun Kv hN hX hR => ?_) | refine Stop.mk ?_ | refine Join.mk ⟨fun Kv hN hX hR => ?_, ?_⟩ | refine DrawJ.each ?_ | exact SubJ.self _) | with_reducible refine SubJ.of ?_ | (with_reducible first | refine FlS (fun Kf hF => ?_) | refine FlN ?_ | refine NdS (fun Kg hG => ?_) | (refine hF _ _ ?_; clear hF; clear Kf) | (refine hG _ _ _ _ ?_; clear hG; clear Kg))))); all_goals (conv => whnf); all_goals (repeat ((try (clear hG; clear Kg)); clear hN hX hR; clear Kv))
       all_goals (try simp only [Int.toNat_natCast, etaItem] at *)
       all_goals first
         | exact Ob.mk ⟨by omega, of_decide_eq_true (by with_reducible assumption)⟩
         | (have h := of_decide_eq_true (show decide ((i : Int) < (xs.length : Nat)) = true by with_reducible assumption)
            first
              | (have h0 := of_decide_eq_true (show decide (0 < (i : Int)) = true by with_reducible assumption)
                 have hb := back1 (i := i) (by omega) (by omega)
                 exact Ob.mk (by rw [hb.2]; omega))
              | (have hm := nf (show (!itemB (xs.getD i default)) = true by with_reducible assumption)
                 refine (storeB_no ?_).symm
                 rintro ⟨_, _, h3⟩
                 have := h3 _ (getD_mem (l := xs) (i := i) (d := default) (by omega))
                 rw [this] at hm
                 simp at hm)
              | (have h0 := of_decide_eq_true (show decide (0 < (i : Int)) = true by with_reducible assumption)
                 have hb := back1 (i := i) (by omega) (by omega)
                 have hm := of_decide_eq_true (show decide ((xs.getD i default).key ≤ (xs.getD (IntKind.i64.wrap ((i : Int) - 1)).toNat default).key) = true by with_reducible assumption)
                 rw [hb.1] at hm
                 refine (storeB_no ?_).symm
                 rintro ⟨_, h2, _⟩
                 have := h2 (i - 1) i (by omega) (by omega)
                 omega)
              | (have hp := nt (show (!itemB (xs.getD i default)) = false by with_reducible assumption)
                 refine ⟨i + 1, ⟨by omega, all_take_succ (d := default) (by omega) hi.2.1 hp, fun t ht => ?_⟩, by show xs.length - (i + 1) < xs.length - i; omega, ?_⟩
                 · rcases Nat.lt_or_eq_of_le (Nat.le_of_lt_succ ht) with h3 | h3
                   · exact hi.2.2 t h3
                   · first
                       | (have h0 := of_decide_eq_false (show decide (0 < (i : Int)) = false by with_reducible assumption)
                          omega)
                       | (have hb := back1 (i := i) (by omega) (by omega)
                          have hm := of_decide_eq_false (show decide ((xs.getD i default).key ≤ (xs.getD (IntKind.i64.wrap ((i : Int) - 1)).toNat default).key) = false by with_reducible assumption)
                          rw [hb.1] at hm
                          rw [show t = i - 1 by omega, show i - 1 + 1 = i by omega]
                          omega)
                 · (repeat' (first | ((with_reducible refine BdI ?_); (first | ((with_reducible refine SqI ?_ (fun Kv hN hX hR => ?_)); (next => exact rfl)) | ((with_reducible refine JnI ?_ ?_); (next => exact rfl)) | (conv => whnf))) | (with_reducible first | refine BdS (fun Kv hN hX hR => ?_) | refine Stop.mk ?_ | refine Join.mk ⟨fun Kv hN hX hR => ?_, ?_⟩ | refine DrawJ.each ?_ | exact SubJ.self _) | with_reducible refine SubJ.of ?_ | (with_reducible first | refine FlS (fun Kf hF => ?_) | refine FlN ?_ | refine NdS (fun Kg hG => ?_) | (refine hF _ _ ?_; clear hF; clear Kf) | (refine hG _ _ _ _ ?_; clear hG; clear Kg)) | ((with_reducible refine SqI ?_ (fun Kv hN hX hR => ?_)); (next => exact rfl)) | ((with_reducible refine JnI ?_ ?_); (next => exact rfl)) | ((with_reducible first | refine hN _ ?_ | refine hX _ _ ?_ | refine hR _ ?_); (try (clear hG; clear Kg)); clear hN hX hR; clear Kv) | ((conv => whnf); first | (with_reducible first | rfl | exact True.intro | intro _ | refine And.intro ?_ ?_) | ((with_reducible first | refine hN _ ?_ | refine hX _ _ ?_ | refine hR _ ?_); (try (clear hG; clear Kg)); clear hN hX hR; clear Kv) | (with_reducible first | refine BdS (fun Kv hN hX hR => ?_) | refine Stop.mk ?_ | refine Join.mk ⟨fun Kv hN hX hR => ?_, ?_⟩ | refine DrawJ.each ?_ | exact SubJ.self _) | with_reducible refine SubJ.of ?_ | (with_reducible first | refine FlS (fun Kf hF => ?_) | refine FlN ?_ | refine NdS (fun Kg hG => ?_) | (refine hF _ _ ?_; clear hF; clear Kf) | (refine hG _ _ _ _ ?_; clear hG; clear Kg))))); all_goals (conv => whnf); all_goals (repeat ((try (clear hG; clear Kg)); clear hN hX hR; clear Kv))
                   all_goals first
                     | exact wrapI (by omega) (by omega)
                     | rfl))
         | (have h := of_decide_eq_false (show decide ((i : Int) < (xs.length : Nat)) = false by with_reducible assumption)
            obtain rfl : i = xs.length := by omega
            have h2 := hi.2.1
            rw [List.take_of_length_le (Nat.le_refl _)] at h2
            have h3 := risingK_adj hi.2.2
            by_cases h4 : xs.length ≤ 16
            · rw [storeB_iff.2 ⟨h4, h3, h2⟩]
              exact decide_eq_true (by omega)
            · rw [storeB_no (fun h => h4 h.1)]
              exact decide_eq_false (by omega))
         | trace_state)
    | trace_state
end Go.Proofs.YtmhieddhmebfhaaGreat

/- Contracts: nodes: may they be; a new one. -/
namespace Go.Proofs.YtmhieddhmebfhaaGreat
open Go.RowKit
set_option maxRecDepth 20000

def nodeB (x : GNode) : Bool := viewB x.view && (storeB x.items && (decide (x.log.length ≤ 64) && (x.log.all toldB && (x.up || decide (x.view.peers.length + x.view.passive.length + x.items.length + x.log.length = 0)))))
set_option maxHeartbeats 1000000 in
theorem k_nodeMay : Known Tryz.prog tau 74 (S1 dNode fun x => okB (nodeB x)) := by
  refine known1 hmix tau_ok (ctx_cons k_viewMay (ctx_cons k_storeMay (ctx_cons k_tContains ctx_nil))) (fn := Tryz.f74) (by kernel_rfl) [] (by kernel_rfl) _ _ fun x hfit => ⟨rfl, [], ?_⟩
  have hp1 : x.view.peers.length * 16 ≤ 140737488355328 := hfit.1.2.2.1
  have hp2 : x.view.passive.length * 8 ≤ 140737488355328 := hfit.1.2.2.2.1
  have hp3 : x.items.length * 40 ≤ 140737488355328 := hfit.1.2.2.2.2.1
  have hp4 : x.log.length * 24 ≤ 140737488355328 := hfit.1.2.2.2.2.2.1
  clear hfit
  have e1 : IntKind.i64.wrap (IntKind.i64.wrap (IntKind.i64.wrap ((x.view.peers.length : Int) + (x.view.passive.length : Int)) + (x.items.length : Int)) + (x.log.length : Int)) = ((x.view.peers.length + x.view.passive.length + x.items.length + x.log.length : Nat) : Int) := by
    rw [wrapI (n := (x.view.peers.length : Int) + (x.view.passive.length : Int)) (by omega) (by omega), wrapI (n := (x.view.peers.length : Int) + (x.view.passive.length : Int) + (x.items.length : Int)) (by omega) (by omega), wrapI (by omega) (by omega)]
    omega
  (repeat' (first | ((with_reducible refine BdI ?_); (first | ((with_reducible refine SqI ?_ (fun Kv hN hX hR => ?_)); (next => exact rfl)) | ((with_reducible refine JnI ?_ ?_); (next => exact rfl)) | (conv => whnf))) | (with_reducible first | refine BdS (fun Kv hN hX hR => ?_) | refine Stop.mk ?_ | refine Join.mk ⟨fun Kv hN hX hR => ?_, ?_⟩ | refine DrawJ.each ?_ | exact SubJ.self _) | with_reducible refine SubJ.of ?_ | (with_reducible first | refine FlS (fun Kf hF => ?_) | refine FlN ?_ | refine NdS (fun Kg hG => ?_) | (refine hF _ _ ?_; clear hF; clear Kf) | (refine hG _ _ _ _ ?_; clear hG; clear Kg)) | ((with_reducible refine SqI ?_ (fun Kv hN hX hR => ?_)); (next => exact rfl)) | ((with_reducible refine JnI ?_ ?_); (next => exact rfl)) | ((with_reducible first | refine hN _ ?_ | refine hX _ _ ?_ | refine hR _ ?_); (try (clear hG; clear Kg)); clear hN hX hR; clear Kv) | ((conv => whnf); first | (with_reducible first | rfl | exact True.intro | intro _ | refine And.intro ?_ ?_) | ((with_reducible first | refine hN _ ?_ | refine hX _ _ ?_ | refine hR _ ?_); (try (clear hG; clear Kg)); clear hN hX hR; clear Kv) | (with_reducible first | refine BdS (fun Kv hN hX hR => ?_) | refine Stop.mk ?_ | refine Join.mk ⟨fun Kv hN hX hR => ?_, ?_⟩ | refine DrawJ.each ?_ | exact SubJ.self _) | with_reducible refine SubJ.of ?_ | (with_reducible first | refine FlS (fun Kf hF => ?_) | refine FlN ?_ | refine NdS (fun Kg hG => ?_) | (refine hF _ _ ?_; clear hF; clear Kf) | (refine hG _ _ _ _ ?_; clear hG; clear Kg))))); all_goals (conv => whnf); all_goals (repeat ((try (clear hG; clear Kg)); clear hN hX hR; clear Kv))
  all_goals (try simp only [etaView, e1] at *)
  all_goals first
    | (have h1 := nf (show (!x.up) = true by with_reducible assumption)
       have h2 := of_decide_eq_true (show decide ((0 : Int) < ((x.view.peers.length + x.view.passive.length + x.items.length + x.log.length : Nat) : Int)) = true by with_reducible assumption)
       unfold nodeB
       rw [h1, decide_eq_false (show ¬ x.view.peers.length + x.view.passive.length + x.items.length + x.log.length = 0 by omega)]
       simp
       done)
    | (have h1 : viewB x.view = false := by with_reducible assumption
       unfold nodeB
       rw [h1, Bool.false_and])
    | (have h1 : storeB x.items = false := by with_reducible assumption
       unfold nodeB
       rw [h1, Bool.false_and, Bool.and_false])
    | (have h1 := of_decide_eq_false (show decide ((x.log.length : Int) ≤ 64) = false by with_reducible assumption)
       unfold nodeB
       rw [decide_eq_false (show ¬ x.log.length ≤ 64 by omega), Bool.false_and, Bool.and_false, Bool.and_false])
    | (have h1 : viewB x.view = true := by with_reducible assumption
       have h2 : storeB x.items = true := by with_reducible assumption
       have h3 := of_decide_eq_true (show decide ((x.log.length : Int) ≤ 64) = true by with_reducible assumption)
       unfold nodeB
       rw [any_not, Bool.not_not, h1, h2, decide_eq_true (show x.log.length ≤ 64 by omega)]
       have h4 : (x.up || decide (x.view.peers.length + x.view.passive.length + x.items.length + x.log.length = 0)) = true := by
         first
           | (rw [nt (show (!x.up) = false by with_reducible assumption)]; rfl)
           | (have h5 := of_decide_eq_false (show decide ((0 : Int) < ((x.view.peers.length + x.view.passive.length + x.items.length + x.log.length : Nat) : Int)) = false by with_reducible assumption)
              rw [decide_eq_true (show x.view.peers.length + x.view.passive.length + x.items.length + x.log.length = 0 by omega), Bool.or_true])
       rw [h4]
       simp
       done)
    | trace_state
noncomputable def newP (id : Int) : List Int → List Int → Option (List Int)
  | acc, [] => some acc
  | acc, y :: ys => if y = id then newP id acc ys else if (withP acc y).2 = 0 then newP id (withP acc y).1 ys else none
def nodeZ : GNode := ⟨false, ⟨0, [], []⟩, [], []⟩
noncomputable def newN (id : Int) (ids : List Int) : GNode × Int := Classical.choose (seal_ex (if placeB id = true then (match newP id [] ids with
  | some l => ((⟨true, ⟨id, [], l⟩, [], []⟩ : GNode), (0 : Int))
  | none => (nodeZ, 1600)) else (nodeZ, 1600)))
theorem newN_def (id : Int) (ids : List Int) : newN id ids = (if placeB id = true then (match newP id [] ids with
  | some l => ((⟨true, ⟨id, [], l⟩, [], []⟩ : GNode), (0 : Int))
  | none => (nodeZ, 1600)) else (nodeZ, 1600)) := Classical.choose_spec (seal_ex _)
theorem newN_no {id : Int} {ids : List Int} (h : placeB id = false ∨ newP id [] ids = none) : newN id ids = (nodeZ, 1600) := by
  rw [newN_def]
  rcases h with h | h
  · rw [h]; rfl
  · rw [h]; split <;> rfl
theorem newN_yes {id : Int} {ids l : List Int} (h1 : placeB id = true) (h : newP id [] ids = some l) : newN id ids = (⟨true, ⟨id, [], l⟩, [], []⟩, 0) := by
  rw [newN_def, h1, h]; rfl
theorem newP_bad {id : Int} (h1 : placeB id = true) : ∀ {ids acc : List Int}, ids.all placeB = false → newP id acc ids = none
  | [], _, h => by simp at h
  | y :: ys, acc, h => by
    rw [List.all_cons] at h
    unfold newP
    split
    · rename_i e
      subst e
      rw [h1, Bool.true_and] at h
      exact newP_bad h1 h
    · split
      · rename_i h2
        cases hy : placeB y with
        | true => rw [hy, Bool.true_and] at h; exact newP_bad h1 h
        | false => rw [withP_no (.inr hy)] at h2; simp at h2
      · rfl
theorem drop_one_more {α : Type} {d : α} {l : List α} {i : Nat} (h : i < l.length) : l.drop i = l.getD i d :: l.drop (i + 1) := by
  rw [List.drop_eq_getElem_cons h]
  simp [List.getD_eq_getElem?_getD, h]
theorem newP_same {id : Int} {acc xs : List Int} {i : Nat} (h : i < xs.length) (h2 : xs.getD i 0 = id) : newP id acc (xs.drop i) = newP id acc (xs.drop (i + 1)) := by
  rw [drop_one_more (d := 0) h, newP, if_pos h2]
theorem newP_bad2 {id : Int} {acc xs : List Int} {i : Nat} (h : i < xs.length) (h2 : ¬ xs.getD i 0 = id) (h3 : ¬ (withP acc (xs.getD i 0)).2 = 0) : newP id acc (xs.drop i) = none := by
  rw [drop_one_more (d := 0) h, newP, if_neg h2, if_neg h3]
theorem newP_next {id : Int} {acc xs : List Int} {i : Nat} (h : i < xs.length) (h2 : ¬ xs.getD i 0 = id) (h3 : (withP acc (xs.getD i 0)).2 = 0) : newP id acc (xs.drop i) = newP id (withP acc (xs.getD i 0)).1 (xs.drop (i + 1)) := by
  rw [drop_one_more (d := 0) h, newP, if_neg h2, if_pos h3]
theorem newP_end {id : Int} {acc xs : List Int} {i : Nat} (h : ¬ i < xs.length) : newP id acc (xs.drop i) = some acc := by
  rw [List.drop_eq_nil_of_le (by omega)]
  rfl
theorem withP_ne {l : List Int} {x : Int} (h : (withP l x).2 = 0) : (withP l x).1 ≠ [] := by
  rw [withP_def] at h ⊢
  split at h
  · rename_i h1
    rw [if_pos h1]
    split at h
    · rename_i h2
      rw [if_pos h2]
      intro e
      simp only at e
      rw [e] at h2
      simp [hasI] at h2
    · rename_i h2
      rw [if_neg h2]
      split at h
      · simp at h
      · rename_i h3
        rw [if_neg h3]
        simp [insP]
  · simp at h
theorem newP_go {id : Int} {acc xs : List Int} {i : Nat} (h : i < xs.length) (h2 : ¬ xs.getD i 0 = id) (h3 : (withP acc (xs.getD i 0)).2 = 0) (hl : newP id [] xs = newP id acc (xs.drop i)) :
    ∃ y W, (withP acc (xs.getD i 0)).1 = y :: W ∧ newP id [] xs = newP id (y :: W) (xs.drop (i + 1)) := by
  have h4 := hl.trans (newP_next h h2 h3)
  have h5 := withP_ne h3
  generalize (withP acc (xs.getD i 0)).1 = V at *
  rcases V with _ | ⟨y, W⟩
  · exact absurd rfl h5
  · exact ⟨y, W, rfl, h4⟩
/-- A new node. -/
def nNew (n : GNode) : List SV := [.bool n.up, .int .i64 n.view.id, .row .new (.peers n.view.peers), .own 0, .row .new (.items n.items), .row .new (.tolds n.log)]
set_option maxHeartbeats 2000000 in
theorem k_New : Known Tryz.prog tau 54 (S2 dInt dInts fun id ids => .ok (.tup [.agg (nNew (newN id ids).1), .int .i64 (newN id ids).2]) [.ints (newN id ids).1.view.passive]) := by
  refine known2 hmix tau_ok (ctx_cons k_Place (ctx_cons k_Places (ctx_cons k_passWith ctx_nil))) (fn := Tryz.f54) (by kernel_rfl) [] (by kernel_rfl) _ _ _ fun id xs hfit => ⟨rfl,
    [(5, invX (Nat × Bool × List Int) [5, 8, 9, 10, 25, 26, 27, 28, 29, 30, 31, 32, 33, 34, 35, 36, 37, 38, 39, 40, 41, 42, 43, 44, 45, 46] [6, 37, 50037] (fun g => g.1 ≤ xs.length ∧ newP id [] xs = newP id g.2.2 (xs.drop g.1)) (fun g st => match g.2.2, g.2.1 with
      | [], _ => withS [(25, .int .i64 g.1)] (withB [(6, (29, [.bool true, .int .i64 id, .nilS (.peers []), .nilS (.ints []), .nilS (.items []), .nilS (.tolds [])]))] st)
      | y :: ys, false => withS [(25, .int .i64 g.1)] (withR [(37, .own (.ints (y :: ys)))] (withB [(6, (29, [.bool true, .int .i64 id, .nilS (.peers []), .own 37, .nilS (.items []), .nilS (.tolds [])]))] st))
      | y :: ys, true => withS [(25, .int .i64 g.1)] (withR [(50037, .own (.ints (y :: ys)))] (withB [(6, (29, [.bool true, .int .i64 id, .nilS (.peers []), .own 50037, .nilS (.items []), .nilS (.tolds [])]))] st))) (fun g => xs.length - g.1))], ?_⟩
  have hlen : xs.length * 8 ≤ 140737488355328 := hfit.2.1
  clear hfit
  (repeat' (first | ((with_reducible refine BdI ?_); (first | ((with_reducible refine SqI ?_ (fun Kv hN hX hR => ?_)); (next => exact rfl)) | ((with_reducible refine JnI ?_ ?_); (next => exact rfl)) | (conv => whnf))) | (with_reducible first | refine BdS (fun Kv hN hX hR => ?_) | refine Stop.mk ?_ | refine Join.mk ⟨fun Kv hN hX hR => ?_, ?_⟩ | refine DrawJ.each ?_ | exact SubJ.self _) | with_reducible refine SubJ.of ?_ | (with_reducible first | refine FlS (fun Kf hF => ?_) | refine FlN ?_ | refine NdS (fun Kg hG => ?_) | (refine hF _ _ ?_; clear hF; clear Kf) | (refine hG _ _ _ _ ?_; clear hG; clear Kg)) | ((with_reducible refine SqI ?_ (fun Kv hN hX hR => ?_)); (next => exact rfl)) | ((with_reducible refine JnI ?_ ?_); (next => exact rfl)) | ((with_reducible first | refine hN _ ?_ | refine hX _ _ ?_ | refine hR _ ?_); (try (clear hG; clear Kg)); clear hN hX hR; clear Kv) | ((conv => whnf); first | (with_reducible first | rfl | exact True.intro | refine (fun (_ : (_ : Prop)) => ?_) | refine And.intro ?_ ?_) | ((with_reducible first | refine hN _ ?_ | refine hX _ _ ?_ | refine hR _ ?_); (try (clear hG; clear Kg)); clear hN hX hR; clear Kv) | (with_reducible first | refine BdS (fun Kv hN hX hR => ?_) | refine Stop.mk ?_ | refine Join.mk ⟨fun Kv hN hX hR => ?_, ?_⟩ | refine DrawJ.each ?_ | exact SubJ.self _) | with_reducible refine SubJ.of ?_ | (with_reducible first | refine FlS (fun Kf hF => ?_) | refine FlN ?_ | refine NdS (fun Kg hG => ?_) | (refine hF _ _ ?_; clear hF; clear Kf) | (refine hG _ _ _ _ ?_; clear hG; clear Kg))))); all_goals (conv => whnf); all_goals (repeat ((try (clear hG; clear Kg)); clear hN hX hR; clear Kv))
  all_goals first
    | (rw [newN_no (.inl (nf (show (!placeB id) = true by with_reducible assumption)))] <;> rfl)
    | (rw [newN_no (.inr (newP_bad (nt (show (!placeB id) = false by with_reducible assumption)) (nf (show (!xs.all placeB) = true by with_reducible assumption))))] <;> rfl)
    | (refine ⟨(0, false, []), ⟨Nat.zero_le _, rfl⟩, ?_⟩
       (repeat' (first | ((with_reducible refine BdI ?_); (first | ((with_reducible refine SqI ?_ (fun Kv hN hX hR => ?_)); (next => exact rfl)) | ((with_reducible refine JnI ?_ ?_); (next => exact rfl)) | (conv => whnf))) | (with_reducible first | refine BdS (fun Kv hN hX hR => ?_) | refine Stop.mk ?_ | refine Join.mk ⟨fun Kv hN hX hR => ?_, ?_⟩ | refine DrawJ.each ?_ | exact SubJ.self _) | with_reducible refine SubJ.of ?_ | (with_reducible first | refine FlS (fun Kf hF => ?_) | refine FlN ?_ | refine NdS (fun Kg hG => ?_) | (refine hF _ _ ?_; clear hF; clear Kf) | (refine hG _ _ _ _ ?_; clear hG; clear Kg)) | ((with_reducible refine SqI ?_ (fun Kv hN hX hR => ?_)); (next => exact rfl)) | ((with_reducible refine JnI ?_ ?_); (next => exact rfl)) | ((with_reducible first | refine hN _ ?_ | refine hX _ _ ?_ | refine hR _ ?_); (try (clear hG; clear Kg)); clear hN hX hR; clear Kv) | ((conv => whnf); first | (with_reducible first | rfl | exact True.intro | intro _ | refine And.intro ?_ ?_) | ((with_reducible first | refine hN _ ?_ | refine hX _ _ ?_ | refine hR _ ?_); (try (clear hG; clear Kg)); clear hN hX hR; clear Kv) | (with_reducible first | refine BdS (fun Kv hN hX hR => ?_) | refine Stop.mk ?_ | refine Join.mk ⟨fun Kv hN hX hR => ?_, ?_⟩ | refine DrawJ.each ?_ | exact SubJ.self _) | with_reducible refine SubJ.of ?_ | (with_reducible first | refine FlS (fun Kf hF => ?_) | refine FlN ?_ | refine NdS (fun Kg hG => ?_) | (refine hF _ _ ?_; clear hF; clear Kf) | (refine hG _ _ _ _ ?_; clear hG; clear Kg))))); all_goals (conv => whnf); all_goals (repeat ((try (clear hG; clear Kg)); clear hN hX hR; clear Kv))
       all_goals rfl)
    | (rintro ⟨i, kb, l⟩ ⟨hi, hl⟩
       dsimp only at hi hl
       have hid := nt (show (!placeB id) = false by with_reducible assumption)
       rcases l with _ | ⟨y, l⟩
       rotate_left
       rcases kb with _ | _
       all_goals
         (repeat' (first | ((with_reducible refine BdI ?_); (first | ((with_reducible refine SqI ?_ (fun Kv hN hX hR => ?_)); (next => exact rfl)) | ((with_reducible refine JnI ?_ ?_); (next => exact rfl)) | (conv => whnf))) | (with_reducible first | refine BdS (fun Kv hN hX hR => ?_) | refine Stop.mk ?_ | refine Join.mk ⟨fun Kv hN hX hR => ?_, ?_⟩ | refine DrawJ.each ?_ | exact SubJ.self _) | with_reducible refine SubJ.of ?_ | (with_reducible first | refine FlS (fun Kf hF => ?_) | refine FlN ?_ | refine NdS (fun Kg hG => ?_) | (refine hF _ _ ?_; clear hF; clear Kf) | (refine hG _ _ _ _ ?_; clear hG; clear Kg)) | ((with_reducible refine SqI ?_ (fun Kv hN hX hR => ?_)); (next => exact rfl)) | ((with_reducible refine JnI ?_ ?_); (next => exact rfl)) | ((with_reducible first | refine hN _ ?_ | refine hX _ _ ?_ | refine hR _ ?_); (try (clear hG; clear Kg)); clear hN hX hR; clear Kv) | ((conv => whnf); first | (with_reducible first | rfl | exact True.intro | intro _ | refine And.intro ?_ ?_) | ((with_reducible first | refine hN _ ?_ | refine hX _ _ ?_ | refine hR _ ?_); (try (clear hG; clear Kg)); clear hN hX hR; clear Kv) | (with_reducible first | refine BdS (fun Kv hN hX hR => ?_) | refine Stop.mk ?_ | refine Join.mk ⟨fun Kv hN hX hR => ?_, ?_⟩ | refine DrawJ.each ?_ | exact SubJ.self _) | with_reducible refine SubJ.of ?_ | (with_reducible first | refine FlS (fun Kf hF => ?_) | refine FlN ?_ | refine NdS (fun Kg hG => ?_) | (refine hF _ _ ?_; clear hF; clear Kf) | (refine hG _ _ _ _ ?_; clear hG; clear Kg))))); all_goals (conv => whnf); all_goals (repeat ((try (clear hG; clear Kg)); clear hN hX hR; clear Kv))
       all_goals (try dsimp only at *)
       all_goals (try simp only [Int.toNat_natCast] at *)
       all_goals first
         | (have h := of_decide_eq_true (show decide ((i : Int) < (xs.length : Nat)) = true by with_reducible assumption)
            first
              | exact Ob.mk ⟨by omega, h⟩
              | (have h2 := of_decide_eq_true (show decide (xs.getD i 0 = id) = true by with_reducible assumption)
                 refine ⟨(i + 1, false, _), ⟨by show i + 1 ≤ xs.length; omega, hl.trans (newP_same (by omega) h2)⟩, by show xs.length - (i + 1) < xs.length - i; omega, ?_⟩
                 (repeat' (first | ((with_reducible refine BdI ?_); (first | ((with_reducible refine SqI ?_ (fun Kv hN hX hR => ?_)); (next => exact rfl)) | ((with_reducible refine JnI ?_ ?_); (next => exact rfl)) | (conv => whnf))) | (with_reducible first | refine BdS (fun Kv hN hX hR => ?_) | refine Stop.mk ?_ | refine Join.mk ⟨fun Kv hN hX hR => ?_, ?_⟩ | refine DrawJ.each ?_ | exact SubJ.self _) | with_reducible refine SubJ.of ?_ | (with_reducible first | refine FlS (fun Kf hF => ?_) | refine FlN ?_ | refine NdS (fun Kg hG => ?_) | (refine hF _ _ ?_; clear hF; clear Kf) | (refine hG _ _ _ _ ?_; clear hG; clear Kg)) | ((with_reducible refine SqI ?_ (fun Kv hN hX hR => ?_)); (next => exact rfl)) | ((with_reducible refine JnI ?_ ?_); (next => exact rfl)) | ((with_reducible first | refine hN _ ?_ | refine hX _ _ ?_ | refine hR _ ?_); (try (clear hG; clear Kg)); clear hN hX hR; clear Kv) | ((conv => whnf); first | (with_reducible first | rfl | exact True.intro | intro _ | refine And.intro ?_ ?_) | ((with_reducible first | refine hN _ ?_ | refine hX _ _ ?_ | refine hR _ ?_); (try (clear hG; clear Kg)); clear hN hX hR; clear Kv) | (with_reducible first | refine BdS (fun Kv hN hX hR => ?_) | refine Stop.mk ?_ | refine Join.mk ⟨fun Kv hN hX hR => ?_, ?_⟩ | refine DrawJ.each ?_ | exact SubJ.self _) | with_reducible refine SubJ.of ?_ | (with_reducible first | refine FlS (fun Kf hF => ?_) | refine FlN ?_ | refine NdS (fun Kg hG => ?_) | (refine hF _ _ ?_; clear hF; clear Kf) | (refine hG _ _ _ _ ?_; clear hG; clear Kg))))); all_goals (conv => whnf); all_goals (repeat ((try (clear hG; clear Kg)); clear hN hX hR; clear Kv))
                 all_goals first
                   | exact wrapI (by omega) (by omega)
                   | rfl)
              | (have h2 := of_decide_eq_true (show decide (xs.getD i 0 = id) = true by with_reducible assumption)
                 refine ⟨(i + 1, true, _), ⟨by show i + 1 ≤ xs.length; omega, hl.trans (newP_same (by omega) h2)⟩, by show xs.length - (i + 1) < xs.length - i; omega, ?_⟩
                 (repeat' (first | ((with_reducible refine BdI ?_); (first | ((with_reducible refine SqI ?_ (fun Kv hN hX hR => ?_)); (next => exact rfl)) | ((with_reducible refine JnI ?_ ?_); (next => exact rfl)) | (conv => whnf))) | (with_reducible first | refine BdS (fun Kv hN hX hR => ?_) | refine Stop.mk ?_ | refine Join.mk ⟨fun Kv hN hX hR => ?_, ?_⟩ | refine DrawJ.each ?_ | exact SubJ.self _) | with_reducible refine SubJ.of ?_ | (with_reducible first | refine FlS (fun Kf hF => ?_) | refine FlN ?_ | refine NdS (fun Kg hG => ?_) | (refine hF _ _ ?_; clear hF; clear Kf) | (refine hG _ _ _ _ ?_; clear hG; clear Kg)) | ((with_reducible refine SqI ?_ (fun Kv hN hX hR => ?_)); (next => exact rfl)) | ((with_reducible refine JnI ?_ ?_); (next => exact rfl)) | ((with_reducible first | refine hN _ ?_ | refine hX _ _ ?_ | refine hR _ ?_); (try (clear hG; clear Kg)); clear hN hX hR; clear Kv) | ((conv => whnf); first | (with_reducible first | rfl | exact True.intro | intro _ | refine And.intro ?_ ?_) | ((with_reducible first | refine hN _ ?_ | refine hX _ _ ?_ | refine hR _ ?_); (try (clear hG; clear Kg)); clear hN hX hR; clear Kv) | (with_reducible first | refine BdS (fun Kv hN hX hR => ?_) | refine Stop.mk ?_ | refine Join.mk ⟨fun Kv hN hX hR => ?_, ?_⟩ | refine DrawJ.each ?_ | exact SubJ.self _) | with_reducible refine SubJ.of ?_ | (with_reducible first | refine FlS (fun Kf hF => ?_) | refine FlN ?_ | refine NdS (fun Kg hG => ?_) | (refine hF _ _ ?_; clear hF; clear Kf) | (refine hG _ _ _ _ ?_; clear hG; clear Kg))))); all_goals (conv => whnf); all_goals (repeat ((try (clear hG; clear Kg)); clear hN hX hR; clear Kv))
                 all_goals first
                   | exact wrapI (by omega) (by omega)
                   | rfl)
              | (have h2 := of_decide_eq_false (show decide (xs.getD i 0 = id) = false by with_reducible assumption)
                 have h3 := of_decide_eq_false (nf (b := decide ((withP _ (xs.getD i 0)).2 = 0)) (by with_reducible assumption))
                 rw [newN_no (.inr (hl.trans (newP_bad2 (by omega) h2 h3)))] <;> rfl)
              | (have h2 := of_decide_eq_false (show decide (xs.getD i 0 = id) = false by with_reducible assumption)
                 have h3 := of_decide_eq_true (nt (b := decide ((withP _ (xs.getD i 0)).2 = 0)) (by with_reducible assumption))
                 obtain ⟨y', W, hW, h4⟩ := newP_go (by omega) h2 h3 hl
                 refine ⟨(i + 1, false, y' :: W), ⟨by show i + 1 ≤ xs.length; omega, h4⟩, by show xs.length - (i + 1) < xs.length - i; omega, ?_⟩
                 · (try dsimp only)
                   (repeat' (first | ((with_reducible refine BdI ?_); (first | ((with_reducible refine SqI ?_ (fun Kv hN hX hR => ?_)); (next => exact rfl)) | ((with_reducible refine JnI ?_ ?_); (next => exact rfl)) | (conv => whnf))) | (with_reducible first | refine BdS (fun Kv hN hX hR => ?_) | refine Stop.mk ?_ | refine Join.mk ⟨fun Kv hN hX hR => ?_, ?_⟩ | refine DrawJ.each ?_ | exact SubJ.self _) | with_reducible refine SubJ.of ?_ | (with_reducible first | refine FlS (fun Kf hF => ?_) | refine FlN ?_ | refine NdS (fun Kg hG => ?_) | (refine hF _ _ ?_; clear hF; clear Kf) | (refine hG _ _ _ _ ?_; clear hG; clear Kg)) | ((with_reducible refine SqI ?_ (fun Kv hN hX hR => ?_)); (next => exact rfl)) | ((with_reducible refine JnI ?_ ?_); (next => exact rfl)) | ((with_reducible first | refine hN _ ?_ | refine hX _ _ ?_ | refine hR _ ?_); (try (clear hG; clear Kg)); clear hN hX hR; clear Kv) | ((conv => whnf); first | (with_reducible first | rfl | exact True.intro | intro _ | refine And.intro ?_ ?_) | ((with_reducible first | refine hN _ ?_ | refine hX _ _ ?_ | refine hR _ ?_); (try (clear hG; clear Kg)); clear hN hX hR; clear Kv) | (with_reducible first | refine BdS (fun Kv hN hX hR => ?_) | refine Stop.mk ?_ | refine Join.mk ⟨fun Kv hN hX hR => ?_, ?_⟩ | refine DrawJ.each ?_ | exact SubJ.self _) | with_reducible refine SubJ.of ?_ | (with_reducible first | refine FlS (fun Kf hF => ?_) | refine FlN ?_ | refine NdS (fun Kg hG => ?_) | (refine hF _ _ ?_; clear hF; clear Kf) | (refine hG _ _ _ _ ?_; clear hG; clear Kg))))); all_goals (conv => whnf); all_goals (repeat ((try (clear hG; clear Kg)); clear hN hX hR; clear Kv))
                   all_goals first
                     | exact wrapI (by omega) (by omega)
                     | exact congrArg Rw.ints hW
                     | exact congrArg Rw.ints hW.symm
                     | rfl)
              | (have h2 := of_decide_eq_false (show decide (xs.getD i 0 = id) = false by with_reducible assumption)
                 have h3 := of_decide_eq_true (nt (b := decide ((withP _ (xs.getD i 0)).2 = 0)) (by with_reducible assumption))
                 obtain ⟨y', W, hW, h4⟩ := newP_go (by omega) h2 h3 hl
                 refine ⟨(i + 1, true, y' :: W), ⟨by show i + 1 ≤ xs.length; omega, h4⟩, by show xs.length - (i + 1) < xs.length - i; omega, ?_⟩
                 · (try dsimp only)
                   (repeat' (first | ((with_reducible refine BdI ?_); (first | ((with_reducible refine SqI ?_ (fun Kv hN hX hR => ?_)); (next => exact rfl)) | ((with_reducible refine JnI ?_ ?_); (next => exact rfl)) | (conv => whnf))) | (with_reducible first | refine BdS (fun Kv hN hX hR => ?_) | refine Stop.mk ?_ | refine Join.mk ⟨fun Kv hN hX hR => ?_, ?_⟩ | refine DrawJ.each ?_ | exact SubJ.self _) | with_reducible refine SubJ.of ?_ | (with_reducible first | refine FlS (fun Kf hF => ?_) | refine FlN ?_ | refine NdS (fun Kg hG => ?_) | (refine hF _ _ ?_; clear hF; clear Kf) | (refine hG _ _ _ _ ?_; clear hG; clear Kg)) | ((with_reducible refine SqI ?_ (fun Kv hN hX hR => ?_)); (next => exact rfl)) | ((with_reducible refine JnI ?_ ?_); (next => exact rfl)) | ((with_reducible first | refine hN _ ?_ | refine hX _ _ ?_ | refine hR _ ?_); (try (clear hG; clear Kg)); clear hN hX hR; clear Kv) | ((conv => whnf); first | (with_reducible first | rfl | exact True.intro | intro _ | refine And.intro ?_ ?_) | ((with_reducible first | refine hN _ ?_ | refine hX _ _ ?_ | refine hR _ ?_); (try (clear hG; clear Kg)); clear hN hX hR; clear Kv) | (with_reducible first | refine BdS (fun Kv hN hX hR => ?_) | refine Stop.mk ?_ | refine Join.mk ⟨fun Kv hN hX hR => ?_, ?_⟩ | refine DrawJ.each ?_ | exact SubJ.self _) | with_reducible refine SubJ.of ?_ | (with_reducible first | refine FlS (fun Kf hF => ?_) | refine FlN ?_ | refine NdS (fun Kg hG => ?_) | (refine hF _ _ ?_; clear hF; clear Kf) | (refine hG _ _ _ _ ?_; clear hG; clear Kg))))); all_goals (conv => whnf); all_goals (repeat ((try (clear hG; clear Kg)); clear hN hX hR; clear Kv))
                   all_goals first
                     | exact wrapI (by omega) (by omega)
                     | exact congrArg Rw.ints hW
                     | exact congrArg Rw.ints hW.symm
                     | rfl))
         | (have h := of_decide_eq_false (show decide ((i : Int) < (xs.length : Nat)) = false by with_reducible assumption)
            rw [newN_yes hid (hl.trans (newP_end (by omega)))] <;> rfl)
         | trace_state)
    | trace_state
end Go.Proofs.YtmhieddhmebfhaaGreat

/- Contracts: views, stores, nodes: the document's. -/
namespace Go.Proofs.YtmhieddhmebfhaaGreat
open Go.RowKit
set_option maxRecDepth 20000

set_option maxHeartbeats 4000000 in
theorem k_refStore : Known Tryz.prog tau 110 (S1 dItems fun l => okB (storeB l)) := by
  refine known1 hmix tau_ok (ctx_cons k_refItem ctx_nil) (fn := Tryz.f110) (by kernel_rfl) [(4, [(0, 0), (1, 0), (2, 3), (3, 4), (4, 8), (5, 16), (6, 48), (7, 64), (8, 192), (9, 320), (10, 512), (11, 512), (12, 2560), (13, 5632), (14, 8704), (15, 16896), (16, 512), (17, 512), (18, 197120), (19, 262656), (20, 524800), (21, 1081856), (22, 2097728), (23, 4194368)])] (by kernel_rfl) _ _ fun xs hfit => ⟨rfl,
    [(2, invN (2 :: 3 :: 4 :: 5 :: 6 :: 7 :: 8 :: 9 :: 10 :: 11 :: 12 :: 13 :: 14 :: 15 :: 16 :: 17 :: 18 :: 19 :: 20 :: 21 :: 22 :: 23 :: 24 :: 25 :: 26 :: 27 :: 28 :: 29 :: 30 :: 31 :: 32 :: 33 :: []) (fun i => i ≤ xs.length ∧ (∀ x ∈ xs.take i, itemB x = true) ∧ ∀ t, t + 1 < i → (xs.getD t default).key < (xs.getD (t + 1) default).key) (fun i => withS [(3, .int .i64 i)]) (fun i => xs.length - i))], ?_⟩
  have hlen : xs.length * 40 ≤ 140737488355328 := hfit.1
  clear hfit
  (repeat' (first | ((with_reducible refine BdI ?_); (first | ((with_reducible refine SqI ?_ (fun Kv hN hX hR => ?_)); (next => exact rfl)) | ((with_reducible refine JnI ?_ ?_); (next => exact rfl)) | (conv => whnf))) | (with_reducible first | refine BdS (fun Kv hN hX hR => ?_) | refine Stop.mk ?_ | refine Join.mk ⟨fun Kv hN hX hR => ?_, ?_⟩ | refine DrawJ.each ?_ | exact SubJ.self _) | with_reducible refine SubJ.of ?_ | (with_reducible first | refine FlS (fun Kf hF => ?_) | refine FlN ?_ | refine NdS (fun Kg hG => ?_) | (refine hF _ _ ?_; clear hF; clear Kf) | (refine hG _ _ _ _ ?_; clear hG; clear Kg)) | ((with_reducible refine SqI ?_ (fun Kv hN hX hR => ?_)); (next => exact rfl)) | ((with_reducible refine JnI ?_ ?_); (next => exact rfl)) | ((with_reducible first | refine hN _ ?_ | refine hX _ _ ?_ | refine hR _ ?_); (try (clear hG; clear Kg)); clear hN hX hR; clear Kv) | ((conv => whnf); first | (with_reducible first | rfl | exact True.intro | refine (fun (_ : (_ : Prop)) => ?_) | refine And.intro ?_ ?_) | ((with_reducible first | refine hN _ ?_ | refine hX _ _ ?_ | refine hR _ ?_); (try (clear hG; clear Kg)); clear hN hX hR; clear Kv) | (with_reducible first | refine BdS (fun Kv hN hX hR => ?_) | refine Stop.mk ?_ | refine Join.mk ⟨fun Kv hN hX hR => ?_, ?_⟩ | refine DrawJ.each ?_ | exact SubJ.self _) | with_reducible refine SubJ.of ?_ | (with_reducible first | refine FlS (fun Kf hF => ?_) | refine FlN ?_ | refine NdS (fun Kg hG => ?_) | (refine hF _ _ ?_; clear hF; clear Kf) | (refine hG _ _ _ _ ?_; clear hG; clear Kg))))); all_goals (conv => whnf); all_goals (repeat ((try (clear hG; clear Kg)); clear hN hX hR; clear Kv))
  all_goals first
    | (refine ⟨0, ⟨by omega, by simp, by intros; omega⟩, ?_⟩
       (repeat' (first | ((with_reducible refine BdI ?_); (first | ((with_reducible refine SqI ?_ (fun Kv hN hX hR => ?_)); (next => exact rfl)) | ((with_reducible refine JnI ?_ ?_); (next => exact rfl)) | (conv => whnf))) | (with_reducible first | refine BdS (fun Kv hN hX hR => ?_) | refine Stop.mk ?_ | refine Join.mk ⟨fun Kv hN hX hR => ?_, ?_⟩ | refine DrawJ.each ?_ | exact SubJ.self _) | with_reducible refine SubJ.of ?_ | (with_reducible first | refine FlS (fun Kf hF => ?_) | refine FlN ?_ | refine NdS (fun Kg hG => ?_) | (refine hF _ _ ?_; clear hF; clear Kf) | (refine hG _ _ _ _ ?_; clear hG; clear Kg)) | ((with_reducible refine SqI ?_ (fun Kv hN hX hR => ?_)); (next => exact rfl)) | ((with_reducible refine JnI ?_ ?_); (next => exact rfl)) | ((with_reducible first | refine hN _ ?_ | refine hX _ _ ?_ | refine hR _ ?_); (try (clear hG; clear Kg)); clear hN hX hR; clear Kv) | ((conv => whnf); first | (with_reducible first | rfl | exact True.intro | intro _ | refine And.intro ?_ ?_) | ((with_reducible first | refine hN _ ?_ | refine hX _ _ ?_ | refine hR _ ?_); (try (clear hG; clear Kg)); clear hN hX hR; clear Kv) | (with_reducible first | refine BdS (fun Kv hN hX hR => ?_) | refine Stop.mk ?_ | refine Join.mk ⟨fun Kv hN hX hR => ?_, ?_⟩ | refine DrawJ.each ?_ | exact SubJ.self _) | with_reducible refine SubJ.of ?_ | (with_reducible first | refine FlS (fun Kf hF => ?_) | refine FlN ?_ | refine NdS (fun Kg hG => ?_) | (refine hF _ _ ?_; clear hF; clear Kf) | (refine hG _ _ _ _ ?_; clear hG; clear Kg))))); all_goals (conv => whnf); all_goals (repeat ((try (clear hG; clear Kg)); clear hN hX hR; clear Kv))
       all_goals rfl)
    | (with_reducible intro i hi
       (repeat' (first | ((with_reducible refine BdI ?_); (first | ((with_reducible refine SqI ?_ (fun Kv hN hX hR => ?_)); (next => exact rfl)) | ((with_reducible refine JnI ?_ ?_); (next => exact rfl)) | (conv => whnf))) | (with_reducible first | refine BdS (fun Kv hN hX hR => ?_) | refine Stop.mk ?_ | refine Join.mk ⟨fun Kv hN hX hR => ?_, ?_⟩ | refine DrawJ.each ?_ | exact SubJ.self _) | with_reducible refine SubJ.of ?_ | (with_reducible first | refine FlS (fun Kf hF => ?_) | refine FlN ?_ | refine NdS (fun Kg hG => ?_) | (refine hF _ _ ?_; clear hF; clear Kf) | (refine hG _ _ _ _ ?_; clear hG; clear Kg)) | ((with_reducible refine SqI ?_ (fun Kv hN hX hR => ?_)); (next => exact rfl)) | ((with_reducible refine JnI ?_ ?_); (next => exact rfl)) | ((with_reducible first | refine hN _ ?_ | refine hX _ _ ?_ | refine hR _ ?_); (try (clear hG; clear Kg)); clear hN hX hR; clear Kv) | ((conv => whnf); first | (with_reducible first | rfl | exact True.intro | intro _ | refine And.intro ?_ ?_) | ((with_reducible first | refine hN _ ?_ | refine hX _ _ ?_ | refine hR _ ?_); (try (clear hG; clear Kg)); clear hN hX hR; clear Kv) | (with_reducible first | refine BdS (fun Kv hN hX hR => ?_) | refine Stop.mk ?_ | refine Join.mk ⟨fun Kv hN hX hR => ?_, ?_⟩ | refine DrawJ.each ?_ | exact SubJ.self _) | with_reducible refine SubJ.of ?_ | (with_reducible first | refine FlS (fun Kf hF => ?_) | refine FlN ?_ | refine NdS (fun Kg hG => ?_) | (refine hF _ _ ?_; clear hF; clear Kf) | (refine hG _ _ _ _ ?_; clear hG; clear Kg))))); all_goals (conv => whnf); all_goals (repeat ((try (clear hG; clear Kg)); clear hN hX hR; clear Kv))
       all_goals (try simp only [Int.toNat_natCast, etaItem] at *)
       all_goals first
         | exact Ob.mk ⟨by omega, of_decide_eq_true (by with_reducible assumption)⟩
         | (have h := of_decide_eq_true (show decide ((i : Int) < (xs.length : Nat)) = true by with_reducible assumption)
            first
              | (have h0 := of_decide_eq_true (show decide (0 < (i : Int)) = true by with_reducible assumption)
                 have hb := back1 (i := i) (by omega) (by omega)
                 exact Ob.mk (by rw [hb.2]; omega))
              | (have hm := nf (show (!itemB (xs.getD i default)) = true by with_reducible assumption)
                 refine (storeB_no ?_).symm
                 rintro ⟨_, _, h3⟩
                 have := h3 _ (getD_mem (l := xs) (i := i) (d := default) (by omega))
                 rw [this] at hm
                 simp at hm)
              | (have h0 := of_decide_eq_true (show decide (0 < (i : Int)) = true by with_reducible assumption)
                 have hb := back1 (i := i) (by omega) (by omega)
                 have hm := of_decide_eq_true (show decide ((xs.getD i default).key ≤ (xs.getD (IntKind.i64.wrap ((i : Int) - 1)).toNat default).key) = true by with_reducible assumption)
                 rw [hb.1] at hm
                 refine (storeB_no ?_).symm
                 rintro ⟨_, h2, _⟩
                 have := h2 (i - 1) i (by omega) (by omega)
                 omega)
              | (have hp := nt (show (!itemB (xs.getD i default)) = false by with_reducible assumption)
                 refine ⟨i + 1, ⟨by omega, all_take_succ (d := default) (by omega) hi.2.1 hp, fun t ht => ?_⟩, by show xs.length - (i + 1) < xs.length - i; omega, ?_⟩
                 · rcases Nat.lt_or_eq_of_le (Nat.le_of_lt_succ ht) with h3 | h3
                   · exact hi.2.2 t h3
                   · first
                       | (have h0 := of_decide_eq_false (show decide (0 < (i : Int)) = false by with_reducible assumption)
                          omega)
                       | (have hb := back1 (i := i) (by omega) (by omega)
                          have hm := of_decide_eq_false (show decide ((xs.getD i default).key ≤ (xs.getD (IntKind.i64.wrap ((i : Int) - 1)).toNat default).key) = false by with_reducible assumption)
                          rw [hb.1] at hm
                          rw [show t = i - 1 by omega, show i - 1 + 1 = i by omega]
                          omega)
                 · (repeat' (first | ((with_reducible refine BdI ?_); (first | ((with_reducible refine SqI ?_ (fun Kv hN hX hR => ?_)); (next => exact rfl)) | ((with_reducible refine JnI ?_ ?_); (next => exact rfl)) | (conv => whnf))) | (with_reducible first | refine BdS (fun Kv hN hX hR => ?_) | refine Stop.mk ?_ | refine Join.mk ⟨fun Kv hN hX hR => ?_, ?_⟩ | refine DrawJ.each ?_ | exact SubJ.self _) | with_reducible refine SubJ.of ?_ | (with_reducible first | refine FlS (fun Kf hF => ?_) | refine FlN ?_ | refine NdS (fun Kg hG => ?_) | (refine hF _ _ ?_; clear hF; clear Kf) | (refine hG _ _ _ _ ?_; clear hG; clear Kg)) | ((with_reducible refine SqI ?_ (fun Kv hN hX hR => ?_)); (next => exact rfl)) | ((with_reducible refine JnI ?_ ?_); (next => exact rfl)) | ((with_reducible first | refine hN _ ?_ | refine hX _ _ ?_ | refine hR _ ?_); (try (clear hG; clear Kg)); clear hN hX hR; clear Kv) | ((conv => whnf); first | (with_reducible first | rfl | exact True.intro | intro _ | refine And.intro ?_ ?_) | ((with_reducible first | refine hN _ ?_ | refine hX _ _ ?_ | refine hR _ ?_); (try (clear hG; clear Kg)); clear hN hX hR; clear Kv) | (with_reducible first | refine BdS (fun Kv hN hX hR => ?_) | refine Stop.mk ?_ | refine Join.mk ⟨fun Kv hN hX hR => ?_, ?_⟩ | refine DrawJ.each ?_ | exact SubJ.self _) | with_reducible refine SubJ.of ?_ | (with_reducible first | refine FlS (fun Kf hF => ?_) | refine FlN ?_ | refine NdS (fun Kg hG => ?_) | (refine hF _ _ ?_; clear hF; clear Kf) | (refine hG _ _ _ _ ?_; clear hG; clear Kg))))); all_goals (conv => whnf); all_goals (repeat ((try (clear hG; clear Kg)); clear hN hX hR; clear Kv))
                   all_goals first
                     | exact wrapI (by omega) (by omega)
                     | rfl))
         | (have h := of_decide_eq_false (show decide ((i : Int) < (xs.length : Nat)) = false by with_reducible assumption)
            obtain rfl : i = xs.length := by omega
            have h2 := hi.2.1
            rw [List.take_of_length_le (Nat.le_refl _)] at h2
            have h3 := risingK_adj hi.2.2
            by_cases h4 : xs.length ≤ 16
            · rw [storeB_iff.2 ⟨h4, h3, h2⟩]
              exact decide_eq_true (by omega)
            · rw [storeB_no (fun h => h4 h.1)]
              exact decide_eq_false (by omega))
         | trace_state)
    | trace_state
def namesP (l : List GPeer) : List Int := l.map fun p => p.id
theorem namesP_succ {l : List GPeer} {i : Nat} (h : i < l.length) : namesP (l.take (i + 1)) = namesP (l.take i) ++ [(l.getD i default).id] := by
  unfold namesP
  rw [List.take_succ_eq_append_getElem h, List.map_append, etaP h]
  rfl
theorem namesP_len (l : List GPeer) : (namesP l).length = l.length := by simp [namesP]
theorem k_refNames : Known Tryz.prog tau 40 (S1 dPeers fun l => .ok (.own 0) [.ints (namesP l)]) := by
  refine known1 hmix tau_ok ctx_nil (fn := Tryz.f40) (by kernel_rfl) [] (by kernel_rfl) _ _ fun xs hfit => ⟨rfl,
    [(3, invX Nat [3, 4, 5, 6, 7, 8, 9, 10, 11, 12, 13, 14, 15, 16, 17, 18] [18] (fun i => i ≤ xs.length) (fun i => match i with
      | 0 => withS [(4, .int .i64 0), (3, .nilS (.ints []))]
      | i + 1 => fun st => withS [(4, .int .i64 ((i + 1 : Nat) : Int)), (3, .own 18)] (withR [(18, .own (.ints (namesP (xs.take (i + 1)))))] st)) (fun i => xs.length - i))], ?_⟩
  have hlen : xs.length * 16 ≤ 140737488355328 := hfit.1
  clear hfit
  (repeat' (first | ((with_reducible refine BdI ?_); (first | ((with_reducible refine SqI ?_ (fun Kv hN hX hR => ?_)); (next => exact rfl)) | ((with_reducible refine JnI ?_ ?_); (next => exact rfl)) | (conv => whnf))) | (with_reducible first | refine BdS (fun Kv hN hX hR => ?_) | refine Stop.mk ?_ | refine Join.mk ⟨fun Kv hN hX hR => ?_, ?_⟩ | refine DrawJ.each ?_ | exact SubJ.self _) | with_reducible refine SubJ.of ?_ | (with_reducible first | refine FlS (fun Kf hF => ?_) | refine FlN ?_ | refine NdS (fun Kg hG => ?_) | (refine hF _ _ ?_; clear hF; clear Kf) | (refine hG _ _ _ _ ?_; clear hG; clear Kg)) | ((with_reducible refine SqI ?_ (fun Kv hN hX hR => ?_)); (next => exact rfl)) | ((with_reducible refine JnI ?_ ?_); (next => exact rfl)) | ((with_reducible first | refine hN _ ?_ | refine hX _ _ ?_ | refine hR _ ?_); (try (clear hG; clear Kg)); clear hN hX hR; clear Kv) | ((conv => whnf); first | (with_reducible first | rfl | exact True.intro | refine (fun (_ : (_ : Prop)) => ?_) | refine And.intro ?_ ?_) | ((with_reducible first | refine hN _ ?_ | refine hX _ _ ?_ | refine hR _ ?_); (try (clear hG; clear Kg)); clear hN hX hR; clear Kv) | (with_reducible first | refine BdS (fun Kv hN hX hR => ?_) | refine Stop.mk ?_ | refine Join.mk ⟨fun Kv hN hX hR => ?_, ?_⟩ | refine DrawJ.each ?_ | exact SubJ.self _) | with_reducible refine SubJ.of ?_ | (with_reducible first | refine FlS (fun Kf hF => ?_) | refine FlN ?_ | refine NdS (fun Kg hG => ?_) | (refine hF _ _ ?_; clear hF; clear Kf) | (refine hG _ _ _ _ ?_; clear hG; clear Kg))))); all_goals (conv => whnf); all_goals (repeat ((try (clear hG; clear Kg)); clear hN hX hR; clear Kv))
  all_goals first
    | (refine ⟨0, Nat.zero_le _, ?_⟩
       (repeat' (first | ((with_reducible refine BdI ?_); (first | ((with_reducible refine SqI ?_ (fun Kv hN hX hR => ?_)); (next => exact rfl)) | ((with_reducible refine JnI ?_ ?_); (next => exact rfl)) | (conv => whnf))) | (with_reducible first | refine BdS (fun Kv hN hX hR => ?_) | refine Stop.mk ?_ | refine Join.mk ⟨fun Kv hN hX hR => ?_, ?_⟩ | refine DrawJ.each ?_ | exact SubJ.self _) | with_reducible refine SubJ.of ?_ | (with_reducible first | refine FlS (fun Kf hF => ?_) | refine FlN ?_ | refine NdS (fun Kg hG => ?_) | (refine hF _ _ ?_; clear hF; clear Kf) | (refine hG _ _ _ _ ?_; clear hG; clear Kg)) | ((with_reducible refine SqI ?_ (fun Kv hN hX hR => ?_)); (next => exact rfl)) | ((with_reducible refine JnI ?_ ?_); (next => exact rfl)) | ((with_reducible first | refine hN _ ?_ | refine hX _ _ ?_ | refine hR _ ?_); (try (clear hG; clear Kg)); clear hN hX hR; clear Kv) | ((conv => whnf); first | (with_reducible first | rfl | exact True.intro | intro _ | refine And.intro ?_ ?_) | ((with_reducible first | refine hN _ ?_ | refine hX _ _ ?_ | refine hR _ ?_); (try (clear hG; clear Kg)); clear hN hX hR; clear Kv) | (with_reducible first | refine BdS (fun Kv hN hX hR => ?_) | refine Stop.mk ?_ | refine Join.mk ⟨fun Kv hN hX hR => ?_, ?_⟩ | refine DrawJ.each ?_ | exact SubJ.self _) | with_reducible refine SubJ.of ?_ | (with_reducible first | refine FlS (fun Kf hF => ?_) | refine FlN ?_ | refine NdS (fun Kg hG => ?_) | (refine hF _ _ ?_; clear hF; clear Kf) | (refine hG _ _ _ _ ?_; clear hG; clear Kg))))); all_goals (conv => whnf); all_goals (repeat ((try (clear hG; clear Kg)); clear hN hX hR; clear Kv))
       all_goals rfl)
    | (with_reducible intro i hi
       rcases i with _ | i
       all_goals
         (repeat' (first | ((with_reducible refine BdI ?_); (first | ((with_reducible refine SqI ?_ (fun Kv hN hX hR => ?_)); (next => exact rfl)) | ((with_reducible refine JnI ?_ ?_); (next => exact rfl)) | (conv => whnf))) | (with_reducible first | refine BdS (fun Kv hN hX hR => ?_) | refine Stop.mk ?_ | refine Join.mk ⟨fun Kv hN hX hR => ?_, ?_⟩ | refine DrawJ.each ?_ | exact SubJ.self _) | with_reducible refine SubJ.of ?_ | (with_reducible first | refine FlS (fun Kf hF => ?_) | refine FlN ?_ | refine NdS (fun Kg hG => ?_) | (refine hF _ _ ?_; clear hF; clear Kf) | (refine hG _ _ _ _ ?_; clear hG; clear Kg)) | ((with_reducible refine SqI ?_ (fun Kv hN hX hR => ?_)); (next => exact rfl)) | ((with_reducible refine JnI ?_ ?_); (next => exact rfl)) | ((with_reducible first | refine hN _ ?_ | refine hX _ _ ?_ | refine hR _ ?_); (try (clear hG; clear Kg)); clear hN hX hR; clear Kv) | ((conv => whnf); first | (with_reducible first | rfl | exact True.intro | intro _ | refine And.intro ?_ ?_) | ((with_reducible first | refine hN _ ?_ | refine hX _ _ ?_ | refine hR _ ?_); (try (clear hG; clear Kg)); clear hN hX hR; clear Kv) | (with_reducible first | refine BdS (fun Kv hN hX hR => ?_) | refine Stop.mk ?_ | refine Join.mk ⟨fun Kv hN hX hR => ?_, ?_⟩ | refine DrawJ.each ?_ | exact SubJ.self _) | with_reducible refine SubJ.of ?_ | (with_reducible first | refine FlS (fun Kf hF => ?_) | refine FlN ?_ | refine NdS (fun Kg hG => ?_) | (refine hF _ _ ?_; clear hF; clear Kf) | (refine hG _ _ _ _ ?_; clear hG; clear Kg))))); all_goals (conv => whnf); all_goals (repeat ((try (clear hG; clear Kg)); clear hN hX hR; clear Kv))
       all_goals (try simp only [Int.toNat_natCast, Int.toNat_zero, List.nil_append] at *)
       all_goals first
         | exact Ob.mk ⟨by omega, of_decide_eq_true (by with_reducible assumption)⟩
         | (refine Ob.mk ?_
            simp only [Rw.len, Rw.bts, Rw.kd, kdBytes, List.length_cons, List.length_nil, List.length_append, namesP_len, List.length_take]
            omega)
         | (have h := of_decide_eq_true (show decide ((0 : Int) < (xs.length : Nat)) = true by with_reducible assumption)
            refine ⟨1, by omega, by show xs.length - 1 < xs.length - 0; omega, ?_⟩
            have e1 := namesP_succ (l := xs) (i := 0) (by omega)
            (repeat' (first | ((with_reducible refine BdI ?_); (first | ((with_reducible refine SqI ?_ (fun Kv hN hX hR => ?_)); (next => exact rfl)) | ((with_reducible refine JnI ?_ ?_); (next => exact rfl)) | (conv => whnf))) | (with_reducible first | refine BdS (fun Kv hN hX hR => ?_) | refine Stop.mk ?_ | refine Join.mk ⟨fun Kv hN hX hR => ?_, ?_⟩ | refine DrawJ.each ?_ | exact SubJ.self _) | with_reducible refine SubJ.of ?_ | (with_reducible first | refine FlS (fun Kf hF => ?_) | refine FlN ?_ | refine NdS (fun Kg hG => ?_) | (refine hF _ _ ?_; clear hF; clear Kf) | (refine hG _ _ _ _ ?_; clear hG; clear Kg)) | ((with_reducible refine SqI ?_ (fun Kv hN hX hR => ?_)); (next => exact rfl)) | ((with_reducible refine JnI ?_ ?_); (next => exact rfl)) | ((with_reducible first | refine hN _ ?_ | refine hX _ _ ?_ | refine hR _ ?_); (try (clear hG; clear Kg)); clear hN hX hR; clear Kv) | ((conv => whnf); first | (with_reducible first | rfl | exact True.intro | intro _ | refine And.intro ?_ ?_) | ((with_reducible first | refine hN _ ?_ | refine hX _ _ ?_ | refine hR _ ?_); (try (clear hG; clear Kg)); clear hN hX hR; clear Kv) | (with_reducible first | refine BdS (fun Kv hN hX hR => ?_) | refine Stop.mk ?_ | refine Join.mk ⟨fun Kv hN hX hR => ?_, ?_⟩ | refine DrawJ.each ?_ | exact SubJ.self _) | with_reducible refine SubJ.of ?_ | (with_reducible first | refine FlS (fun Kf hF => ?_) | refine FlN ?_ | refine NdS (fun Kg hG => ?_) | (refine hF _ _ ?_; clear hF; clear Kf) | (refine hG _ _ _ _ ?_; clear hG; clear Kg))))); all_goals (conv => whnf); all_goals (repeat ((try (clear hG; clear Kg)); clear hN hX hR; clear Kv))
            all_goals first
              | exact wrapI (by omega) (by omega)
              | exact congrArg Rw.ints e1.symm
              | rfl)
         | (have h := of_decide_eq_true (show decide (((i + 1 : Nat) : Int) < (xs.length : Nat)) = true by with_reducible assumption)
            refine ⟨i + 1 + 1, by omega, by show xs.length - (i + 1 + 1) < xs.length - (i + 1); omega, ?_⟩
            have e1 := namesP_succ (l := xs) (i := i + 1) (by omega)
            (repeat' (first | ((with_reducible refine BdI ?_); (first | ((with_reducible refine SqI ?_ (fun Kv hN hX hR => ?_)); (next => exact rfl)) | ((with_reducible refine JnI ?_ ?_); (next => exact rfl)) | (conv => whnf))) | (with_reducible first | refine BdS (fun Kv hN hX hR => ?_) | refine Stop.mk ?_ | refine Join.mk ⟨fun Kv hN hX hR => ?_, ?_⟩ | refine DrawJ.each ?_ | exact SubJ.self _) | with_reducible refine SubJ.of ?_ | (with_reducible first | refine FlS (fun Kf hF => ?_) | refine FlN ?_ | refine NdS (fun Kg hG => ?_) | (refine hF _ _ ?_; clear hF; clear Kf) | (refine hG _ _ _ _ ?_; clear hG; clear Kg)) | ((with_reducible refine SqI ?_ (fun Kv hN hX hR => ?_)); (next => exact rfl)) | ((with_reducible refine JnI ?_ ?_); (next => exact rfl)) | ((with_reducible first | refine hN _ ?_ | refine hX _ _ ?_ | refine hR _ ?_); (try (clear hG; clear Kg)); clear hN hX hR; clear Kv) | ((conv => whnf); first | (with_reducible first | rfl | exact True.intro | intro _ | refine And.intro ?_ ?_) | ((with_reducible first | refine hN _ ?_ | refine hX _ _ ?_ | refine hR _ ?_); (try (clear hG; clear Kg)); clear hN hX hR; clear Kv) | (with_reducible first | refine BdS (fun Kv hN hX hR => ?_) | refine Stop.mk ?_ | refine Join.mk ⟨fun Kv hN hX hR => ?_, ?_⟩ | refine DrawJ.each ?_ | exact SubJ.self _) | with_reducible refine SubJ.of ?_ | (with_reducible first | refine FlS (fun Kf hF => ?_) | refine FlN ?_ | refine NdS (fun Kg hG => ?_) | (refine hF _ _ ?_; clear hF; clear Kf) | (refine hG _ _ _ _ ?_; clear hG; clear Kg))))); all_goals (conv => whnf); all_goals (repeat ((try (clear hG; clear Kg)); clear hN hX hR; clear Kv))
            all_goals first
              | exact wrapI (by omega) (by omega)
              | exact congrArg Rw.ints e1.symm
              | rfl)
         | (have h := of_decide_eq_false (show decide ((0 : Int) < (xs.length : Nat)) = false by with_reducible assumption)
            obtain rfl : xs = [] := List.eq_nil_of_length_eq_zero (by omega)
            rfl)
         | (have h := of_decide_eq_false (show decide (((i + 1 : Nat) : Int) < (xs.length : Nat)) = false by with_reducible assumption)
            rw [List.take_of_length_le (by omega)])
         | trace_state)
    | trace_state
end Go.Proofs.YtmhieddhmebfhaaGreat

/- Contracts: views, nodes: the document's. -/
namespace Go.Proofs.YtmhieddhmebfhaaGreat
open Go.RowKit
set_option maxRecDepth 20000

theorem has_names {b x : Int} {l : List GPeer} (hb : placeB b = true) (hp : ∀ p ∈ l, peerB b p = true) (hx : placeB x = true) : hasP b l x = hasI (namesP l) x := by
  unfold hasP hasI namesP
  rw [List.any_map]
  induction l with
  | nil => rfl
  | cons p l ih =>
    rw [List.any_cons, List.any_cons, ih fun q hq => hp q (List.mem_cons_of_mem _ hq)]
    congr 1
    have h1 := hp p (List.mem_cons_self ..)
    simp only [peerB, Bool.and_eq_true] at h1
    have := far_inj hb h1.1 hx
    simp only [Function.comp]
    exact decide_eq_decide.2 this
def refOdd (v : GView) (x : Int) : Bool := decide (x = v.id) || hasI (namesP v.peers) x
theorem odd_same {v : GView} {x : Int} (h1 : peersB v.id v.peers = true) (hx : placeB x = true) : oddV v x = refOdd v x := by
  have h := peersB_iff.1 h1
  unfold oddV refOdd
  rw [has_names h.1 h.2.2.2 hx]
theorem view_ref {v : GView} (h : ∀ x ∈ v.passive, refOdd v x = false) : viewB v = (peersB v.id v.peers && (passB v.passive && decide (v.peers.length + v.passive.length ≤ 16))) := by
  unfold viewB
  cases h1 : peersB v.id v.peers with
  | false => rfl
  | true =>
    cases h2 : passB v.passive with
    | false => rfl
    | true =>
      have : v.passive.any (oddV v) = false := by
        rw [List.any_eq_false]
        intro x hx
        rw [odd_same h1 ((passB_iff.1 h2).2.2 x hx), h x hx]
        simp
      rw [this]
      simp
theorem view_ref_no {v : GView} {x : Int} (hx : x ∈ v.passive) (h : refOdd v x = true) : viewB v = false := by
  refine viewB_no ?_
  rintro ⟨h1, h2, _, h4⟩
  have := List.any_eq_false.1 h4 x hx
  rw [odd_same h1 ((passB_iff.1 h2).2.2 x hx), h] at this
  simp at this
set_option maxHeartbeats 4000000 in
theorem k_refView : Known Tryz.prog tau 84 (S1 dView fun v => okB (viewB v)) := by
  refine known1 hmix tau_ok (ctx_cons k_refNames (ctx_cons k_has (ctx_cons k_refPeers (ctx_cons k_refPassMay ctx_nil)))) (fn := Tryz.f84) (by kernel_rfl) [(5, [(0, 0), (1, 1), (2, 0), (3, 6), (4, 8), (5, 0), (6, 32), (7, 80), (8, 128), (9, 256), (10, 256), (11, 1280), (12, 256), (13, 6400), (14, 8448), (15, 17152), (16, 33024)])] (by kernel_rfl) _ _ fun v hfit => ⟨rfl,
    [(3, invN [2, 4, 8, 9, 10, 11, 12, 13, 14, 15, 16, 17, 18, 19, 20, 21, 22, 23, 24, 25, 26, 27, 28, 29, 30, 31] (fun i => i ≤ v.passive.length ∧ ∀ x ∈ v.passive.take i, refOdd v x = false) (fun i => withS [(4, .int .i64 i)]) (fun i => v.passive.length - i))], ?_⟩
  have hp1 : v.peers.length * 16 ≤ 140737488355328 := hfit.1.2.1
  have hp2 : v.passive.length * 8 ≤ 140737488355328 := hfit.1.2.2.1
  clear hfit
  (repeat' (first | ((with_reducible refine BdI ?_); (first | ((with_reducible refine SqI ?_ (fun Kv hN hX hR => ?_)); (next => exact rfl)) | ((with_reducible refine JnI ?_ ?_); (next => exact rfl)) | (conv => whnf))) | (with_reducible first | refine BdS (fun Kv hN hX hR => ?_) | refine Stop.mk ?_ | refine Join.mk ⟨fun Kv hN hX hR => ?_, ?_⟩ | refine DrawJ.each ?_ | exact SubJ.self _) | with_reducible refine SubJ.of ?_ | (with_reducible first | refine FlS (fun Kf hF => ?_) | refine FlN ?_ | refine NdS (fun Kg hG => ?_) | (refine hF _ _ ?_; clear hF; clear Kf) | (refine hG _ _ _ _ ?_; clear hG; clear Kg)) | ((with_reducible refine SqI ?_ (fun Kv hN hX hR => ?_)); (next => exact rfl)) | ((with_reducible refine JnI ?_ ?_); (next => exact rfl)) | ((with_reducible first | refine hN _ ?_ | refine hX _ _ ?_ | refine hR _ ?_); (try (clear hG; clear Kg)); clear hN hX hR; clear Kv) | ((conv => whnf); first | (with_reducible first | rfl | exact True.intro | refine (fun (_ : (_ : Prop)) => ?_) | refine And.intro ?_ ?_) | ((with_reducible first | refine hN _ ?_ | refine hX _ _ ?_ | refine hR _ ?_); (try (clear hG; clear Kg)); clear hN hX hR; clear Kv) | (with_reducible first | refine BdS (fun Kv hN hX hR => ?_) | refine Stop.mk ?_ | refine Join.mk ⟨fun Kv hN hX hR => ?_, ?_⟩ | refine DrawJ.each ?_ | exact SubJ.self _) | with_reducible refine SubJ.of ?_ | (with_reducible first | refine FlS (fun Kf hF => ?_) | refine FlN ?_ | refine NdS (fun Kg hG => ?_) | (refine hF _ _ ?_; clear hF; clear Kf) | (refine hG _ _ _ _ ?_; clear hG; clear Kg))))); all_goals (conv => whnf); all_goals (repeat ((try (clear hG; clear Kg)); clear hN hX hR; clear Kv))
  all_goals first
    | (refine ⟨0, ⟨by omega, by simp⟩, ?_⟩
       (repeat' (first | ((with_reducible refine BdI ?_); (first | ((with_reducible refine SqI ?_ (fun Kv hN hX hR => ?_)); (next => exact rfl)) | ((with_reducible refine JnI ?_ ?_); (next => exact rfl)) | (conv => whnf))) | (with_reducible first | refine BdS (fun Kv hN hX hR => ?_) | refine Stop.mk ?_ | refine Join.mk ⟨fun Kv hN hX hR => ?_, ?_⟩ | refine DrawJ.each ?_ | exact SubJ.self _) | with_reducible refine SubJ.of ?_ | (with_reducible first | refine FlS (fun Kf hF => ?_) | refine FlN ?_ | refine NdS (fun Kg hG => ?_) | (refine hF _ _ ?_; clear hF; clear Kf) | (refine hG _ _ _ _ ?_; clear hG; clear Kg)) | ((with_reducible refine SqI ?_ (fun Kv hN hX hR => ?_)); (next => exact rfl)) | ((with_reducible refine JnI ?_ ?_); (next => exact rfl)) | ((with_reducible first | refine hN _ ?_ | refine hX _ _ ?_ | refine hR _ ?_); (try (clear hG; clear Kg)); clear hN hX hR; clear Kv) | ((conv => whnf); first | (with_reducible first | rfl | exact True.intro | intro _ | refine And.intro ?_ ?_) | ((with_reducible first | refine hN _ ?_ | refine hX _ _ ?_ | refine hR _ ?_); (try (clear hG; clear Kg)); clear hN hX hR; clear Kv) | (with_reducible first | refine BdS (fun Kv hN hX hR => ?_) | refine Stop.mk ?_ | refine Join.mk ⟨fun Kv hN hX hR => ?_, ?_⟩ | refine DrawJ.each ?_ | exact SubJ.self _) | with_reducible refine SubJ.of ?_ | (with_reducible first | refine FlS (fun Kf hF => ?_) | refine FlN ?_ | refine NdS (fun Kg hG => ?_) | (refine hF _ _ ?_; clear hF; clear Kf) | (refine hG _ _ _ _ ?_; clear hG; clear Kg))))); all_goals (conv => whnf); all_goals (repeat ((try (clear hG; clear Kg)); clear hN hX hR; clear Kv))
       all_goals rfl)
    | (with_reducible intro i hi
       (repeat' (first | ((with_reducible refine BdI ?_); (first | ((with_reducible refine SqI ?_ (fun Kv hN hX hR => ?_)); (next => exact rfl)) | ((with_reducible refine JnI ?_ ?_); (next => exact rfl)) | (conv => whnf))) | (with_reducible first | refine BdS (fun Kv hN hX hR => ?_) | refine Stop.mk ?_ | refine Join.mk ⟨fun Kv hN hX hR => ?_, ?_⟩ | refine DrawJ.each ?_ | exact SubJ.self _) | with_reducible refine SubJ.of ?_ | (with_reducible first | refine FlS (fun Kf hF => ?_) | refine FlN ?_ | refine NdS (fun Kg hG => ?_) | (refine hF _ _ ?_; clear hF; clear Kf) | (refine hG _ _ _ _ ?_; clear hG; clear Kg)) | ((with_reducible refine SqI ?_ (fun Kv hN hX hR => ?_)); (next => exact rfl)) | ((with_reducible refine JnI ?_ ?_); (next => exact rfl)) | ((with_reducible first | refine hN _ ?_ | refine hX _ _ ?_ | refine hR _ ?_); (try (clear hG; clear Kg)); clear hN hX hR; clear Kv) | ((conv => whnf); first | (with_reducible first | rfl | exact True.intro | intro _ | refine And.intro ?_ ?_) | ((with_reducible first | refine hN _ ?_ | refine hX _ _ ?_ | refine hR _ ?_); (try (clear hG; clear Kg)); clear hN hX hR; clear Kv) | (with_reducible first | refine BdS (fun Kv hN hX hR => ?_) | refine Stop.mk ?_ | refine Join.mk ⟨fun Kv hN hX hR => ?_, ?_⟩ | refine DrawJ.each ?_ | exact SubJ.self _) | with_reducible refine SubJ.of ?_ | (with_reducible first | refine FlS (fun Kf hF => ?_) | refine FlN ?_ | refine NdS (fun Kg hG => ?_) | (refine hF _ _ ?_; clear hF; clear Kf) | (refine hG _ _ _ _ ?_; clear hG; clear Kg))))); all_goals (conv => whnf); all_goals (repeat ((try (clear hG; clear Kg)); clear hN hX hR; clear Kv))
       all_goals (try simp only [Int.toNat_natCast] at *)
       all_goals first
         | exact Ob.mk ⟨by omega, of_decide_eq_true (by with_reducible assumption)⟩
         | (have h := of_decide_eq_true (show decide ((i : Int) < (v.passive.length : Nat)) = true by with_reducible assumption)
            have hm : decide (v.passive.getD i 0 = v.id) = true := by with_reducible assumption
            exact (view_ref_no (x := v.passive.getD i 0) (getD_mem (by omega)) (by unfold refOdd; rw [hm, Bool.true_or])).symm)
         | (have h := of_decide_eq_true (show decide ((i : Int) < (v.passive.length : Nat)) = true by with_reducible assumption)
            have hm : hasI (namesP v.peers) (v.passive.getD i 0) = true := by with_reducible assumption
            exact (view_ref_no (x := v.passive.getD i 0) (getD_mem (by omega)) (by unfold refOdd; rw [hm, Bool.or_true])).symm)
         | (have h := of_decide_eq_true (show decide ((i : Int) < (v.passive.length : Nat)) = true by with_reducible assumption)
            have hm : decide (v.passive.getD i 0 = v.id) = false := by with_reducible assumption
            have hm2 : hasI (namesP v.peers) (v.passive.getD i 0) = false := by with_reducible assumption
            refine ⟨i + 1, ⟨by omega, all_take_succ (d := 0) (by omega) hi.2 (by unfold refOdd; rw [hm, hm2]; rfl)⟩, by show v.passive.length - (i + 1) < v.passive.length - i; omega, ?_⟩
            (repeat' (first | ((with_reducible refine BdI ?_); (first | ((with_reducible refine SqI ?_ (fun Kv hN hX hR => ?_)); (next => exact rfl)) | ((with_reducible refine JnI ?_ ?_); (next => exact rfl)) | (conv => whnf))) | (with_reducible first | refine BdS (fun Kv hN hX hR => ?_) | refine Stop.mk ?_ | refine Join.mk ⟨fun Kv hN hX hR => ?_, ?_⟩ | refine DrawJ.each ?_ | exact SubJ.self _) | with_reducible refine SubJ.of ?_ | (with_reducible first | refine FlS (fun Kf hF => ?_) | refine FlN ?_ | refine NdS (fun Kg hG => ?_) | (refine hF _ _ ?_; clear hF; clear Kf) | (refine hG _ _ _ _ ?_; clear hG; clear Kg)) | ((with_reducible refine SqI ?_ (fun Kv hN hX hR => ?_)); (next => exact rfl)) | ((with_reducible refine JnI ?_ ?_); (next => exact rfl)) | ((with_reducible first | refine hN _ ?_ | refine hX _ _ ?_ | refine hR _ ?_); (try (clear hG; clear Kg)); clear hN hX hR; clear Kv) | ((conv => whnf); first | (with_reducible first | rfl | exact True.intro | intro _ | refine And.intro ?_ ?_) | ((with_reducible first | refine hN _ ?_ | refine hX _ _ ?_ | refine hR _ ?_); (try (clear hG; clear Kg)); clear hN hX hR; clear Kv) | (with_reducible first | refine BdS (fun Kv hN hX hR => ?_) | refine Stop.mk ?_ | refine Join.mk ⟨fun Kv hN hX hR => ?_, ?_⟩ | refine DrawJ.each ?_ | exact SubJ.self _) | with_reducible refine SubJ.of ?_ | (with_reducible first | refine FlS (fun Kf hF => ?_) | refine FlN ?_ | refine NdS (fun Kg hG => ?_) | (refine hF _ _ ?_; clear hF; clear Kf) | (refine hG _ _ _ _ ?_; clear hG; clear Kg))))); all_goals (conv => whnf); all_goals (repeat ((try (clear hG; clear Kg)); clear hN hX hR; clear Kv))
            all_goals first
              | exact wrapI (by omega) (by omega)
              | rfl)
         | (have h := of_decide_eq_false (show decide ((i : Int) < (v.passive.length : Nat)) = false by with_reducible assumption)
            have h2 := hi.2
            rw [List.take_of_length_le (by omega)] at h2
            have e1 : IntKind.i64.wrap ((v.peers.length : Int) + (v.passive.length : Int)) = v.peers.length + v.passive.length := wrapI (by omega) (by omega)
            (try rw [e1])
            rw [view_ref h2]
            first
              | (rw [show peersB v.id v.peers = false by with_reducible assumption]; rfl)
              | (rw [show peersB v.id v.peers = true by with_reducible assumption, show passB v.passive = false by with_reducible assumption]; rfl)
              | (rw [show peersB v.id v.peers = true by with_reducible assumption, show passB v.passive = true by with_reducible assumption, Bool.true_and, Bool.true_and]
                 exact decide_eq_decide.2 (by omega)))
         | trace_state)
    | trace_state
theorem nodeB_down {x : GNode} (h : x.up = false) : nodeB x = (decide (x.view.peers.length + x.view.passive.length + x.items.length + x.log.length = 0) && placeB x.view.id) := by
  obtain ⟨up, ⟨id, ps, qs⟩, is, lg⟩ := x
  obtain rfl : up = false := h
  unfold nodeB
  by_cases h0 : ps.length + qs.length + is.length + lg.length = 0
  · obtain rfl : ps = [] := List.eq_nil_of_length_eq_zero (by omega)
    obtain rfl : qs = [] := List.eq_nil_of_length_eq_zero (by omega)
    obtain rfl : is = [] := List.eq_nil_of_length_eq_zero (by omega)
    obtain rfl : lg = [] := List.eq_nil_of_length_eq_zero (by omega)
    simp [viewB, peersB, passB, storeB]
  · simp only [decide_eq_false h0, Bool.false_or, Bool.and_false, Bool.false_and]
theorem nodeB_up {x : GNode} (h : x.up = true) : nodeB x = (viewB x.view && (storeB x.items && (decide (x.log.length ≤ 64) && x.log.all toldB))) := by
  unfold nodeB
  rw [h, Bool.true_or, Bool.and_true]
theorem k_refByte16 : Known Tryz.prog tau 109 (S1 dInt fun x => okB (placeB x)) := by
  refine known1 hmix tau_ok ctx_nil (fn := Tryz.f109) (by kernel_rfl) [] (by kernel_rfl) _ _ fun x hfit => ⟨rfl, [], ?_⟩
  (repeat' (first | ((with_reducible refine BdI ?_); (first | ((with_reducible refine SqI ?_ (fun Kv hN hX hR => ?_)); (next => exact rfl)) | ((with_reducible refine JnI ?_ ?_); (next => exact rfl)) | (conv => whnf))) | (with_reducible first | refine BdS (fun Kv hN hX hR => ?_) | refine Stop.mk ?_ | refine Join.mk ⟨fun Kv hN hX hR => ?_, ?_⟩ | refine DrawJ.each ?_ | exact SubJ.self _) | with_reducible refine SubJ.of ?_ | (with_reducible first | refine FlS (fun Kf hF => ?_) | refine FlN ?_ | refine NdS (fun Kg hG => ?_) | (refine hF _ _ ?_; clear hF; clear Kf) | (refine hG _ _ _ _ ?_; clear hG; clear Kg)) | ((with_reducible refine SqI ?_ (fun Kv hN hX hR => ?_)); (next => exact rfl)) | ((with_reducible refine JnI ?_ ?_); (next => exact rfl)) | ((with_reducible first | refine hN _ ?_ | refine hX _ _ ?_ | refine hR _ ?_); (try (clear hG; clear Kg)); clear hN hX hR; clear Kv) | ((conv => whnf); first | (with_reducible first | rfl | exact True.intro | intro _ | refine And.intro ?_ ?_) | ((with_reducible first | refine hN _ ?_ | refine hX _ _ ?_ | refine hR _ ?_); (try (clear hG; clear Kg)); clear hN hX hR; clear Kv) | (with_reducible first | refine BdS (fun Kv hN hX hR => ?_) | refine Stop.mk ?_ | refine Join.mk ⟨fun Kv hN hX hR => ?_, ?_⟩ | refine DrawJ.each ?_ | exact SubJ.self _) | with_reducible refine SubJ.of ?_ | (with_reducible first | refine FlS (fun Kf hF => ?_) | refine FlN ?_ | refine NdS (fun Kg hG => ?_) | (refine hF _ _ ?_; clear hF; clear Kf) | (refine hG _ _ _ _ ?_; clear hG; clear Kg))))); all_goals (conv => whnf); all_goals (repeat ((try (clear hG; clear Kg)); clear hN hX hR; clear Kv))
  all_goals simp_all [placeB]
  all_goals omega
set_option maxHeartbeats 4000000 in
theorem k_refNode : Known Tryz.prog tau 69 (S1 dNode fun x => okB (nodeB x)) := by
  refine known1 hmix tau_ok (ctx_cons k_refPlace (ctx_cons k_refView (ctx_cons k_refByte16 (ctx_cons k_refStore ctx_nil)))) (fn := Tryz.f69) (by kernel_rfl) [] (by kernel_rfl) _ _ fun x hfit => ⟨rfl,
    [(4, invN (2 :: 3 :: 4 :: 32 :: 33 :: 34 :: 35 :: 36 :: 37 :: 38 :: 39 :: 40 :: 41 :: 42 :: 43 :: 44 :: 45 :: 46 :: 47 :: 48 :: 49 :: 50 :: 51 :: 52 :: 53 :: 54 :: 55 :: 56 :: 57 :: 58 :: 59 :: 60 :: 61 :: 62 :: 63 :: []) (fun i => i ≤ x.log.length ∧ ∀ t ∈ x.log.take i, toldB t = true) (fun i => withS [(3, .int .i64 i)]) (fun i => x.log.length - i))], ?_⟩
  have hp1 : x.view.peers.length * 16 ≤ 140737488355328 := hfit.1.2.2.1
  have hp2 : x.view.passive.length * 8 ≤ 140737488355328 := hfit.1.2.2.2.1
  have hp3 : x.items.length * 40 ≤ 140737488355328 := hfit.1.2.2.2.2.1
  have hp4 : x.log.length * 24 ≤ 140737488355328 := hfit.1.2.2.2.2.2.1
  clear hfit
  have e1 : IntKind.i64.wrap (IntKind.i64.wrap (IntKind.i64.wrap ((x.view.peers.length : Int) + (x.view.passive.length : Int)) + (x.items.length : Int)) + (x.log.length : Int)) = ((x.view.peers.length + x.view.passive.length + x.items.length + x.log.length : Nat) : Int) := by
    rw [wrapI (n := (x.view.peers.length : Int) + (x.view.passive.length : Int)) (by omega) (by omega), wrapI (n := (x.view.peers.length : Int) + (x.view.passive.length : Int) + (x.items.length : Int)) (by omega) (by omega), wrapI (by omega) (by omega)]
    omega
  (repeat' (first | ((with_reducible refine BdI ?_); (first | ((with_reducible refine SqI ?_ (fun Kv hN hX hR => ?_)); (next => exact rfl)) | ((with_reducible refine JnI ?_ ?_); (next => exact rfl)) | (conv => whnf))) | (with_reducible first | refine BdS (fun Kv hN hX hR => ?_) | refine Stop.mk ?_ | refine Join.mk ⟨fun Kv hN hX hR => ?_, ?_⟩ | refine DrawJ.each ?_ | exact SubJ.self _) | with_reducible refine SubJ.of ?_ | (with_reducible first | refine FlS (fun Kf hF => ?_) | refine FlN ?_ | refine NdS (fun Kg hG => ?_) | (refine hF _ _ ?_; clear hF; clear Kf) | (refine hG _ _ _ _ ?_; clear hG; clear Kg)) | ((with_reducible refine SqI ?_ (fun Kv hN hX hR => ?_)); (next => exact rfl)) | ((with_reducible refine JnI ?_ ?_); (next => exact rfl)) | ((with_reducible first | refine hN _ ?_ | refine hX _ _ ?_ | refine hR _ ?_); (try (clear hG; clear Kg)); clear hN hX hR; clear Kv) | ((conv => whnf); first | (with_reducible first | rfl | exact True.intro | refine (fun (_ : (_ : Prop)) => ?_) | refine And.intro ?_ ?_) | ((with_reducible first | refine hN _ ?_ | refine hX _ _ ?_ | refine hR _ ?_); (try (clear hG; clear Kg)); clear hN hX hR; clear Kv) | (with_reducible first | refine BdS (fun Kv hN hX hR => ?_) | refine Stop.mk ?_ | refine Join.mk ⟨fun Kv hN hX hR => ?_, ?_⟩ | refine DrawJ.each ?_ | exact SubJ.self _) | with_reducible refine SubJ.of ?_ | (with_reducible first | refine FlS (fun Kf hF => ?_) | refine FlN ?_ | refine NdS (fun Kg hG => ?_) | (refine hF _ _ ?_; clear hF; clear Kf) | (refine hG _ _ _ _ ?_; clear hG; clear Kg))))); all_goals (conv => whnf); all_goals (repeat ((try (clear hG; clear Kg)); clear hN hX hR; clear Kv))
  all_goals (try simp only [e1] at *)
  all_goals first
    | (have h1 := nf (show (!x.up) = true by with_reducible assumption)
       rw [nodeB_down h1]
       first
         | (have h2 := of_decide_eq_true (show decide (((x.view.peers.length + x.view.passive.length + x.items.length + x.log.length : Nat) : Int) = 0) = true by with_reducible assumption)
            rw [decide_eq_true (show x.view.peers.length + x.view.passive.length + x.items.length + x.log.length = 0 by omega), Bool.true_and])
         | (have h2 := of_decide_eq_false (show decide (((x.view.peers.length + x.view.passive.length + x.items.length + x.log.length : Nat) : Int) = 0) = false by with_reducible assumption)
            rw [decide_eq_false (show ¬ x.view.peers.length + x.view.passive.length + x.items.length + x.log.length = 0 by omega), Bool.false_and])
         | trace_state)
    | (refine ⟨0, ⟨by omega, by simp⟩, ?_⟩
       (repeat' (first | ((with_reducible refine BdI ?_); (first | ((with_reducible refine SqI ?_ (fun Kv hN hX hR => ?_)); (next => exact rfl)) | ((with_reducible refine JnI ?_ ?_); (next => exact rfl)) | (conv => whnf))) | (with_reducible first | refine BdS (fun Kv hN hX hR => ?_) | refine Stop.mk ?_ | refine Join.mk ⟨fun Kv hN hX hR => ?_, ?_⟩ | refine DrawJ.each ?_ | exact SubJ.self _) | with_reducible refine SubJ.of ?_ | (with_reducible first | refine FlS (fun Kf hF => ?_) | refine FlN ?_ | refine NdS (fun Kg hG => ?_) | (refine hF _ _ ?_; clear hF; clear Kf) | (refine hG _ _ _ _ ?_; clear hG; clear Kg)) | ((with_reducible refine SqI ?_ (fun Kv hN hX hR => ?_)); (next => exact rfl)) | ((with_reducible refine JnI ?_ ?_); (next => exact rfl)) | ((with_reducible first | refine hN _ ?_ | refine hX _ _ ?_ | refine hR _ ?_); (try (clear hG; clear Kg)); clear hN hX hR; clear Kv) | ((conv => whnf); first | (with_reducible first | rfl | exact True.intro | intro _ | refine And.intro ?_ ?_) | ((with_reducible first | refine hN _ ?_ | refine hX _ _ ?_ | refine hR _ ?_); (try (clear hG; clear Kg)); clear hN hX hR; clear Kv) | (with_reducible first | refine BdS (fun Kv hN hX hR => ?_) | refine Stop.mk ?_ | refine Join.mk ⟨fun Kv hN hX hR => ?_, ?_⟩ | refine DrawJ.each ?_ | exact SubJ.self _) | with_reducible refine SubJ.of ?_ | (with_reducible first | refine FlS (fun Kf hF => ?_) | refine FlN ?_ | refine NdS (fun Kg hG => ?_) | (refine hF _ _ ?_; clear hF; clear Kf) | (refine hG _ _ _ _ ?_; clear hG; clear Kg))))); all_goals (conv => whnf); all_goals (repeat ((try (clear hG; clear Kg)); clear hN hX hR; clear Kv))
       all_goals rfl)
    | (with_reducible intro i hi
       have hup := nt (show (!x.up) = false by with_reducible assumption)
       (repeat' (first | ((with_reducible refine BdI ?_); (first | ((with_reducible refine SqI ?_ (fun Kv hN hX hR => ?_)); (next => exact rfl)) | ((with_reducible refine JnI ?_ ?_); (next => exact rfl)) | (conv => whnf))) | (with_reducible first | refine BdS (fun Kv hN hX hR => ?_) | refine Stop.mk ?_ | refine Join.mk ⟨fun Kv hN hX hR => ?_, ?_⟩ | refine DrawJ.each ?_ | exact SubJ.self _) | with_reducible refine SubJ.of ?_ | (with_reducible first | refine FlS (fun Kf hF => ?_) | refine FlN ?_ | refine NdS (fun Kg hG => ?_) | (refine hF _ _ ?_; clear hF; clear Kf) | (refine hG _ _ _ _ ?_; clear hG; clear Kg)) | ((with_reducible refine SqI ?_ (fun Kv hN hX hR => ?_)); (next => exact rfl)) | ((with_reducible refine JnI ?_ ?_); (next => exact rfl)) | ((with_reducible first | refine hN _ ?_ | refine hX _ _ ?_ | refine hR _ ?_); (try (clear hG; clear Kg)); clear hN hX hR; clear Kv) | ((conv => whnf); first | (with_reducible first | rfl | exact True.intro | intro _ | refine And.intro ?_ ?_) | ((with_reducible first | refine hN _ ?_ | refine hX _ _ ?_ | refine hR _ ?_); (try (clear hG; clear Kg)); clear hN hX hR; clear Kv) | (with_reducible first | refine BdS (fun Kv hN hX hR => ?_) | refine Stop.mk ?_ | refine Join.mk ⟨fun Kv hN hX hR => ?_, ?_⟩ | refine DrawJ.each ?_ | exact SubJ.self _) | with_reducible refine SubJ.of ?_ | (with_reducible first | refine FlS (fun Kf hF => ?_) | refine FlN ?_ | refine NdS (fun Kg hG => ?_) | (refine hF _ _ ?_; clear hF; clear Kf) | (refine hG _ _ _ _ ?_; clear hG; clear Kg))))); all_goals (conv => whnf); all_goals (repeat ((try (clear hG; clear Kg)); clear hN hX hR; clear Kv))
       all_goals (try simp only [Int.toNat_natCast, etaView] at *)
       all_goals first
         | exact Ob.mk ⟨by omega, of_decide_eq_true (by with_reducible assumption)⟩
         | (have h := of_decide_eq_true (show decide ((i : Int) < (x.log.length : Nat)) = true by with_reducible assumption)
            have hm : toldB (x.log.getD i default) = true := by
              simp_all [toldB]
              done
            refine ⟨i + 1, ⟨by omega, all_take_succ (d := default) (by omega) hi.2 hm⟩, by show x.log.length - (i + 1) < x.log.length - i; omega, ?_⟩
            (repeat' (first | ((with_reducible refine BdI ?_); (first | ((with_reducible refine SqI ?_ (fun Kv hN hX hR => ?_)); (next => exact rfl)) | ((with_reducible refine JnI ?_ ?_); (next => exact rfl)) | (conv => whnf))) | (with_reducible first | refine BdS (fun Kv hN hX hR => ?_) | refine Stop.mk ?_ | refine Join.mk ⟨fun Kv hN hX hR => ?_, ?_⟩ | refine DrawJ.each ?_ | exact SubJ.self _) | with_reducible refine SubJ.of ?_ | (with_reducible first | refine FlS (fun Kf hF => ?_) | refine FlN ?_ | refine NdS (fun Kg hG => ?_) | (refine hF _ _ ?_; clear hF; clear Kf) | (refine hG _ _ _ _ ?_; clear hG; clear Kg)) | ((with_reducible refine SqI ?_ (fun Kv hN hX hR => ?_)); (next => exact rfl)) | ((with_reducible refine JnI ?_ ?_); (next => exact rfl)) | ((with_reducible first | refine hN _ ?_ | refine hX _ _ ?_ | refine hR _ ?_); (try (clear hG; clear Kg)); clear hN hX hR; clear Kv) | ((conv => whnf); first | (with_reducible first | rfl | exact True.intro | intro _ | refine And.intro ?_ ?_) | ((with_reducible first | refine hN _ ?_ | refine hX _ _ ?_ | refine hR _ ?_); (try (clear hG; clear Kg)); clear hN hX hR; clear Kv) | (with_reducible first | refine BdS (fun Kv hN hX hR => ?_) | refine Stop.mk ?_ | refine Join.mk ⟨fun Kv hN hX hR => ?_, ?_⟩ | refine DrawJ.each ?_ | exact SubJ.self _) | with_reducible refine SubJ.of ?_ | (with_reducible first | refine FlS (fun Kf hF => ?_) | refine FlN ?_ | refine NdS (fun Kg hG => ?_) | (refine hF _ _ ?_; clear hF; clear Kf) | (refine hG _ _ _ _ ?_; clear hG; clear Kg))))); all_goals (conv => whnf); all_goals (repeat ((try (clear hG; clear Kg)); clear hN hX hR; clear Kv))
            all_goals first
              | exact wrapI (by omega) (by omega)
              | rfl)
         | (have h := of_decide_eq_true (show decide ((i : Int) < (x.log.length : Nat)) = true by with_reducible assumption)
            have hm : toldB (x.log.getD i default) = false := by
              simp_all [toldB]
              done
            rw [nodeB_up hup, List.all_eq_false.2 ⟨x.log.getD i default, getD_mem (d := default) (by omega), by rw [hm]; simp⟩]
            simp
            done)
         | (have h := of_decide_eq_false (show decide ((i : Int) < (x.log.length : Nat)) = false by with_reducible assumption)
            have h2 := hi.2
            rw [List.take_of_length_le (by omega)] at h2
            rw [nodeB_up hup, List.all_eq_true.2 h2, Bool.and_true]
            first
              | (rw [show viewB x.view = false by with_reducible assumption]; rfl)
              | (rw [show viewB x.view = true by with_reducible assumption, show storeB x.items = false by with_reducible assumption]; rfl)
              | (rw [show viewB x.view = true by with_reducible assumption, show storeB x.items = true by with_reducible assumption, Bool.true_and, Bool.true_and]
                 exact decide_eq_decide.2 (by omega)))
         | trace_state)
    | trace_state
end Go.Proofs.YtmhieddhmebfhaaGreat

/- Contracts: a new node: the document's; comparisons. -/
namespace Go.Proofs.YtmhieddhmebfhaaGreat
open Go.RowKit
set_option maxRecDepth 20000

set_option maxHeartbeats 2000000 in
theorem k_refNew : Known Tryz.prog tau 55 (S2 dInt dInts fun id ids => .ok (.tup [.agg (nNew (newN id ids).1), .int .i64 (newN id ids).2]) [.ints (newN id ids).1.view.passive]) := by
  refine known2 hmix tau_ok (ctx_cons k_refPlace (ctx_cons k_refWith ctx_nil)) (fn := Tryz.f55) (by kernel_rfl) [] (by kernel_rfl) _ _ _ fun id xs hfit => ⟨rfl,
    [(5, invX (Nat × Bool × List Int) (5 :: 6 :: 7 :: 8 :: 9 :: 14 :: 15 :: 16 :: 17 :: 18 :: 19 :: 20 :: 21 :: 22 :: 23 :: 24 :: 25 :: 26 :: 27 :: 28 :: 29 :: 30 :: 31 :: 32 :: 33 :: 34 :: 35 :: 36 :: 37 :: 38 :: []) [32, 50032] (fun g => g.1 ≤ xs.length ∧ newP id [] xs = newP id g.2.2 (xs.drop g.1)) (fun g st => match g.2.2, g.2.1 with
      | [], _ => withS [(7, .int .i64 g.1), (6, .nilS (.ints []))] st
      | y :: ys, false => withS [(7, .int .i64 g.1), (6, .own 32)] (withR [(32, .own (.ints (y :: ys)))] st)
      | y :: ys, true => withS [(7, .int .i64 g.1), (6, .own 50032)] (withR [(50032, .own (.ints (y :: ys)))] st)) (fun g => xs.length - g.1))], ?_⟩
  have hlen : xs.length * 8 ≤ 140737488355328 := hfit.2.1
  clear hfit
  (repeat' (first | ((with_reducible refine BdI ?_); (first | ((with_reducible refine SqI ?_ (fun Kv hN hX hR => ?_)); (next => exact rfl)) | ((with_reducible refine JnI ?_ ?_); (next => exact rfl)) | (conv => whnf))) | (with_reducible first | refine BdS (fun Kv hN hX hR => ?_) | refine Stop.mk ?_ | refine Join.mk ⟨fun Kv hN hX hR => ?_, ?_⟩ | refine DrawJ.each ?_ | exact SubJ.self _) | with_reducible refine SubJ.of ?_ | (with_reducible first | refine FlS (fun Kf hF => ?_) | refine FlN ?_ | refine NdS (fun Kg hG => ?_) | (refine hF _ _ ?_; clear hF; clear Kf) | (refine hG _ _ _ _ ?_; clear hG; clear Kg)) | ((with_reducible refine SqI ?_ (fun Kv hN hX hR => ?_)); (next => exact rfl)) | ((with_reducible refine JnI ?_ ?_); (next => exact rfl)) | ((with_reducible first | refine hN _ ?_ | refine hX _ _ ?_ | refine hR _ ?_); (try (clear hG; clear Kg)); clear hN hX hR; clear Kv) | ((conv => whnf); first | (with_reducible first | rfl | exact True.intro | refine (fun (_ : (_ : Prop)) => ?_) | refine And.intro ?_ ?_) | ((with_reducible first | refine hN _ ?_ | refine hX _ _ ?_ | refine hR _ ?_); (try (clear hG; clear Kg)); clear hN hX hR; clear Kv) | (with_reducible first | refine BdS (fun Kv hN hX hR => ?_) | refine Stop.mk ?_ | refine Join.mk ⟨fun Kv hN hX hR => ?_, ?_⟩ | refine DrawJ.each ?_ | exact SubJ.self _) | with_reducible refine SubJ.of ?_ | (with_reducible first | refine FlS (fun Kf hF => ?_) | refine FlN ?_ | refine NdS (fun Kg hG => ?_) | (refine hF _ _ ?_; clear hF; clear Kf) | (refine hG _ _ _ _ ?_; clear hG; clear Kg))))); all_goals (conv => whnf); all_goals (repeat ((try (clear hG; clear Kg)); clear hN hX hR; clear Kv))
  all_goals first
    | (rw [newN_no (.inl (nf (show (!placeB id) = true by with_reducible assumption)))] <;> rfl)
    | (refine ⟨(0, false, []), ⟨Nat.zero_le _, rfl⟩, ?_⟩
       (repeat' (first | ((with_reducible refine BdI ?_); (first | ((with_reducible refine SqI ?_ (fun Kv hN hX hR => ?_)); (next => exact rfl)) | ((with_reducible refine JnI ?_ ?_); (next => exact rfl)) | (conv => whnf))) | (with_reducible first | refine BdS (fun Kv hN hX hR => ?_) | refine Stop.mk ?_ | refine Join.mk ⟨fun Kv hN hX hR => ?_, ?_⟩ | refine DrawJ.each ?_ | exact SubJ.self _) | with_reducible refine SubJ.of ?_ | (with_reducible first | refine FlS (fun Kf hF => ?_) | refine FlN ?_ | refine NdS (fun Kg hG => ?_) | (refine hF _ _ ?_; clear hF; clear Kf) | (refine hG _ _ _ _ ?_; clear hG; clear Kg)) | ((with_reducible refine SqI ?_ (fun Kv hN hX hR => ?_)); (next => exact rfl)) | ((with_reducible refine JnI ?_ ?_); (next => exact rfl)) | ((with_reducible first | refine hN _ ?_ | refine hX _ _ ?_ | refine hR _ ?_); (try (clear hG; clear Kg)); clear hN hX hR; clear Kv) | ((conv => whnf); first | (with_reducible first | rfl | exact True.intro | intro _ | refine And.intro ?_ ?_) | ((with_reducible first | refine hN _ ?_ | refine hX _ _ ?_ | refine hR _ ?_); (try (clear hG; clear Kg)); clear hN hX hR; clear Kv) | (with_reducible first | refine BdS (fun Kv hN hX hR => ?_) | refine Stop.mk ?_ | refine Join.mk ⟨fun Kv hN hX hR => ?_, ?_⟩ | refine DrawJ.each ?_ | exact SubJ.self _) | with_reducible refine SubJ.of ?_ | (with_reducible first | refine FlS (fun Kf hF => ?_) | refine FlN ?_ | refine NdS (fun Kg hG => ?_) | (refine hF _ _ ?_; clear hF; clear Kf) | (refine hG _ _ _ _ ?_; clear hG; clear Kg))))); all_goals (conv => whnf); all_goals (repeat ((try (clear hG; clear Kg)); clear hN hX hR; clear Kv))
       all_goals rfl)
    | (rintro ⟨i, kb, l⟩ ⟨hi, hl⟩
       dsimp only at hi hl
       have hid := nt (show (!placeB id) = false by with_reducible assumption)
       rcases l with _ | ⟨y, l⟩
       rotate_left
       rcases kb with _ | _
       all_goals
         (repeat' (first | ((with_reducible refine BdI ?_); (first | ((with_reducible refine SqI ?_ (fun Kv hN hX hR => ?_)); (next => exact rfl)) | ((with_reducible refine JnI ?_ ?_); (next => exact rfl)) | (conv => whnf))) | (with_reducible first | refine BdS (fun Kv hN hX hR => ?_) | refine Stop.mk ?_ | refine Join.mk ⟨fun Kv hN hX hR => ?_, ?_⟩ | refine DrawJ.each ?_ | exact SubJ.self _) | with_reducible refine SubJ.of ?_ | (with_reducible first | refine FlS (fun Kf hF => ?_) | refine FlN ?_ | refine NdS (fun Kg hG => ?_) | (refine hF _ _ ?_; clear hF; clear Kf) | (refine hG _ _ _ _ ?_; clear hG; clear Kg)) | ((with_reducible refine SqI ?_ (fun Kv hN hX hR => ?_)); (next => exact rfl)) | ((with_reducible refine JnI ?_ ?_); (next => exact rfl)) | ((with_reducible first | refine hN _ ?_ | refine hX _ _ ?_ | refine hR _ ?_); (try (clear hG; clear Kg)); clear hN hX hR; clear Kv) | ((conv => whnf); first | (with_reducible first | rfl | exact True.intro | intro _ | refine And.intro ?_ ?_) | ((with_reducible first | refine hN _ ?_ | refine hX _ _ ?_ | refine hR _ ?_); (try (clear hG; clear Kg)); clear hN hX hR; clear Kv) | (with_reducible first | refine BdS (fun Kv hN hX hR => ?_) | refine Stop.mk ?_ | refine Join.mk ⟨fun Kv hN hX hR => ?_, ?_⟩ | refine DrawJ.each ?_ | exact SubJ.self _) | with_reducible refine SubJ.of ?_ | (with_reducible first | refine FlS (fun Kf hF => ?_) | refine FlN ?_ | refine NdS (fun Kg hG => ?_) | (refine hF _ _ ?_; clear hF; clear Kf) | (refine hG _ _ _ _ ?_; clear hG; clear Kg))))); all_goals (conv => whnf); all_goals (repeat ((try (clear hG; clear Kg)); clear hN hX hR; clear Kv))
       all_goals (try dsimp only at *)
       all_goals (try simp only [Int.toNat_natCast] at *)
       all_goals first
         | (have h := of_decide_eq_true (show decide ((i : Int) < (xs.length : Nat)) = true by with_reducible assumption)
            first
              | exact Ob.mk ⟨by omega, h⟩
              | (have h2 := of_decide_eq_true (show decide (xs.getD i 0 = id) = true by with_reducible assumption)
                 refine ⟨(i + 1, false, _), ⟨by show i + 1 ≤ xs.length; omega, hl.trans (newP_same (by omega) h2)⟩, by show xs.length - (i + 1) < xs.length - i; omega, ?_⟩
                 (repeat' (first | ((with_reducible refine BdI ?_); (first | ((with_reducible refine SqI ?_ (fun Kv hN hX hR => ?_)); (next => exact rfl)) | ((with_reducible refine JnI ?_ ?_); (next => exact rfl)) | (conv => whnf))) | (with_reducible first | refine BdS (fun Kv hN hX hR => ?_) | refine Stop.mk ?_ | refine Join.mk ⟨fun Kv hN hX hR => ?_, ?_⟩ | refine DrawJ.each ?_ | exact SubJ.self _) | with_reducible refine SubJ.of ?_ | (with_reducible first | refine FlS (fun Kf hF => ?_) | refine FlN ?_ | refine NdS (fun Kg hG => ?_) | (refine hF _ _ ?_; clear hF; clear Kf) | (refine hG _ _ _ _ ?_; clear hG; clear Kg)) | ((with_reducible refine SqI ?_ (fun Kv hN hX hR => ?_)); (next => exact rfl)) | ((with_reducible refine JnI ?_ ?_); (next => exact rfl)) | ((with_reducible first | refine hN _ ?_ | refine hX _ _ ?_ | refine hR _ ?_); (try (clear hG; clear Kg)); clear hN hX hR; clear Kv) | ((conv => whnf); first | (with_reducible first | rfl | exact True.intro | intro _ | refine And.intro ?_ ?_) | ((with_reducible first | refine hN _ ?_ | refine hX _ _ ?_ | refine hR _ ?_); (try (clear hG; clear Kg)); clear hN hX hR; clear Kv) | (with_reducible first | refine BdS (fun Kv hN hX hR => ?_) | refine Stop.mk ?_ | refine Join.mk ⟨fun Kv hN hX hR => ?_, ?_⟩ | refine DrawJ.each ?_ | exact SubJ.self _) | with_reducible refine SubJ.of ?_ | (with_reducible first | refine FlS (fun Kf hF => ?_) | refine FlN ?_ | refine NdS (fun Kg hG => ?_) | (refine hF _ _ ?_; clear hF; clear Kf) | (refine hG _ _ _ _ ?_; clear hG; clear Kg))))); all_goals (conv => whnf); all_goals (repeat ((try (clear hG; clear Kg)); clear hN hX hR; clear Kv))
                 all_goals first
                   | exact wrapI (by omega) (by omega)
                   | rfl)
              | (have h2 := of_decide_eq_true (show decide (xs.getD i 0 = id) = true by with_reducible assumption)
                 refine ⟨(i + 1, true, _), ⟨by show i + 1 ≤ xs.length; omega, hl.trans (newP_same (by omega) h2)⟩, by show xs.length - (i + 1) < xs.length - i; omega, ?_⟩
                 (repeat' (first | ((with_reducible refine BdI ?_); (first | ((with_reducible refine SqI ?_ (fun Kv hN hX hR => ?_)); (next => exact rfl)) | ((with_reducible refine JnI ?_ ?_); (next => exact rfl)) | (conv => whnf))) | (with_reducible first | refine BdS (fun Kv hN hX hR => ?_) | refine Stop.mk ?_ | refine Join.mk ⟨fun Kv hN hX hR => ?_, ?_⟩ | refine DrawJ.each ?_ | exact SubJ.self _) | with_reducible refine SubJ.of ?_ | (with_reducible first | refine FlS (fun Kf hF => ?_) | refine FlN ?_ | refine NdS (fun Kg hG => ?_) | (refine hF _ _ ?_; clear hF; clear Kf) | (refine hG _ _ _ _ ?_; clear hG; clear Kg)) | ((with_reducible refine SqI ?_ (fun Kv hN hX hR => ?_)); (next => exact rfl)) | ((with_reducible refine JnI ?_ ?_); (next => exact rfl)) | ((with_reducible first | refine hN _ ?_ | refine hX _ _ ?_ | refine hR _ ?_); (try (clear hG; clear Kg)); clear hN hX hR; clear Kv) | ((conv => whnf); first | (with_reducible first | rfl | exact True.intro | intro _ | refine And.intro ?_ ?_) | ((with_reducible first | refine hN _ ?_ | refine hX _ _ ?_ | refine hR _ ?_); (try (clear hG; clear Kg)); clear hN hX hR; clear Kv) | (with_reducible first | refine BdS (fun Kv hN hX hR => ?_) | refine Stop.mk ?_ | refine Join.mk ⟨fun Kv hN hX hR => ?_, ?_⟩ | refine DrawJ.each ?_ | exact SubJ.self _) | with_reducible refine SubJ.of ?_ | (with_reducible first | refine FlS (fun Kf hF => ?_) | refine FlN ?_ | refine NdS (fun Kg hG => ?_) | (refine hF _ _ ?_; clear hF; clear Kf) | (refine hG _ _ _ _ ?_; clear hG; clear Kg))))); all_goals (conv => whnf); all_goals (repeat ((try (clear hG; clear Kg)); clear hN hX hR; clear Kv))
                 all_goals first
                   | exact wrapI (by omega) (by omega)
                   | rfl)
              | (have h2 := of_decide_eq_false (show decide (xs.getD i 0 = id) = false by with_reducible assumption)
                 have h3 := of_decide_eq_false (nf (b := decide ((withP _ (xs.getD i 0)).2 = 0)) (by with_reducible assumption))
                 rw [newN_no (.inr (hl.trans (newP_bad2 (by omega) h2 h3)))] <;> rfl)
              | (have h2 := of_decide_eq_false (show decide (xs.getD i 0 = id) = false by with_reducible assumption)
                 have h3 := of_decide_eq_true (nt (b := decide ((withP _ (xs.getD i 0)).2 = 0)) (by with_reducible assumption))
                 obtain ⟨y', W, hW, h4⟩ := newP_go (by omega) h2 h3 hl
                 refine ⟨(i + 1, false, y' :: W), ⟨by show i + 1 ≤ xs.length; omega, h4⟩, by show xs.length - (i + 1) < xs.length - i; omega, ?_⟩
                 · (try dsimp only)
                   (repeat' (first | ((with_reducible refine BdI ?_); (first | ((with_reducible refine SqI ?_ (fun Kv hN hX hR => ?_)); (next => exact rfl)) | ((with_reducible refine JnI ?_ ?_); (next => exact rfl)) | (conv => whnf))) | (with_reducible first | refine BdS (fun Kv hN hX hR => ?_) | refine Stop.mk ?_ | refine Join.mk ⟨fun Kv hN hX hR => ?_, ?_⟩ | refine DrawJ.each ?_ | exact SubJ.self _) | with_reducible refine SubJ.of ?_ | (with_reducible first | refine FlS (fun Kf hF => ?_) | refine FlN ?_ | refine NdS (fun Kg hG => ?_) | (refine hF _ _ ?_; clear hF; clear Kf) | (refine hG _ _ _ _ ?_; clear hG; clear Kg)) | ((with_reducible refine SqI ?_ (fun Kv hN hX hR => ?_)); (next => exact rfl)) | ((with_reducible refine JnI ?_ ?_); (next => exact rfl)) | ((with_reducible first | refine hN _ ?_ | refine hX _ _ ?_ | refine hR _ ?_); (try (clear hG; clear Kg)); clear hN hX hR; clear Kv) | ((conv => whnf); first | (with_reducible first | rfl | exact True.intro | intro _ | refine And.intro ?_ ?_) | ((with_reducible first | refine hN _ ?_ | refine hX _ _ ?_ | refine hR _ ?_); (try (clear hG; clear Kg)); clear hN hX hR; clear Kv) | (with_reducible first | refine BdS (fun Kv hN hX hR => ?_) | refine Stop.mk ?_ | refine Join.mk ⟨fun Kv hN hX hR => ?_, ?_⟩ | refine DrawJ.each ?_ | exact SubJ.self _) | with_reducible refine SubJ.of ?_ | (with_reducible first | refine FlS (fun Kf hF => ?_) | refine FlN ?_ | refine NdS (fun Kg hG => ?_) | (refine hF _ _ ?_; clear hF; clear Kf) | (refine hG _ _ _ _ ?_; clear hG; clear Kg))))); all_goals (conv => whnf); all_goals (repeat ((try (clear hG; clear Kg)); clear hN hX hR; clear Kv))
                   all_goals first
                     | exact wrapI (by omega) (by omega)
                     | exact congrArg Rw.ints hW
                     | exact congrArg Rw.ints hW.symm
                     | rfl)
              | (have h2 := of_decide_eq_false (show decide (xs.getD i 0 = id) = false by with_reducible assumption)
                 have h3 := of_decide_eq_true (nt (b := decide ((withP _ (xs.getD i 0)).2 = 0)) (by with_reducible assumption))
                 obtain ⟨y', W, hW, h4⟩ := newP_go (by omega) h2 h3 hl
                 refine ⟨(i + 1, true, y' :: W), ⟨by show i + 1 ≤ xs.length; omega, h4⟩, by show xs.length - (i + 1) < xs.length - i; omega, ?_⟩
                 · (try dsimp only)
                   (repeat' (first | ((with_reducible refine BdI ?_); (first | ((with_reducible refine SqI ?_ (fun Kv hN hX hR => ?_)); (next => exact rfl)) | ((with_reducible refine JnI ?_ ?_); (next => exact rfl)) | (conv => whnf))) | (with_reducible first | refine BdS (fun Kv hN hX hR => ?_) | refine Stop.mk ?_ | refine Join.mk ⟨fun Kv hN hX hR => ?_, ?_⟩ | refine DrawJ.each ?_ | exact SubJ.self _) | with_reducible refine SubJ.of ?_ | (with_reducible first | refine FlS (fun Kf hF => ?_) | refine FlN ?_ | refine NdS (fun Kg hG => ?_) | (refine hF _ _ ?_; clear hF; clear Kf) | (refine hG _ _ _ _ ?_; clear hG; clear Kg)) | ((with_reducible refine SqI ?_ (fun Kv hN hX hR => ?_)); (next => exact rfl)) | ((with_reducible refine JnI ?_ ?_); (next => exact rfl)) | ((with_reducible first | refine hN _ ?_ | refine hX _ _ ?_ | refine hR _ ?_); (try (clear hG; clear Kg)); clear hN hX hR; clear Kv) | ((conv => whnf); first | (with_reducible first | rfl | exact True.intro | intro _ | refine And.intro ?_ ?_) | ((with_reducible first | refine hN _ ?_ | refine hX _ _ ?_ | refine hR _ ?_); (try (clear hG; clear Kg)); clear hN hX hR; clear Kv) | (with_reducible first | refine BdS (fun Kv hN hX hR => ?_) | refine Stop.mk ?_ | refine Join.mk ⟨fun Kv hN hX hR => ?_, ?_⟩ | refine DrawJ.each ?_ | exact SubJ.self _) | with_reducible refine SubJ.of ?_ | (with_reducible first | refine FlS (fun Kf hF => ?_) | refine FlN ?_ | refine NdS (fun Kg hG => ?_) | (refine hF _ _ ?_; clear hF; clear Kf) | (refine hG _ _ _ _ ?_; clear hG; clear Kg))))); all_goals (conv => whnf); all_goals (repeat ((try (clear hG; clear Kg)); clear hN hX hR; clear Kv))
                   all_goals first
                     | exact wrapI (by omega) (by omega)
                     | exact congrArg Rw.ints hW
                     | exact congrArg Rw.ints hW.symm
                     | rfl))
         | (have h := of_decide_eq_false (show decide ((i : Int) < (xs.length : Nat)) = false by with_reducible assumption)
            rw [newN_yes hid (hl.trans (newP_end (by omega)))] <;> rfl)
         | trace_state)
    | trace_state
end Go.Proofs.YtmhieddhmebfhaaGreat

/- A symbolic executor for loaded Go code: the library's Grow of nil. -/
namespace Go.Proofs.YtmhieddhmebfhaaGreat
open Go.RowKit

section
variable {P : Program} {τ : Tys}
/-- What is known of slices.Grow of nil at one type: its walk. -/
structure GrowW (P : Program) (f : FuncId) (e : TypeId) (sz bts : Nat) : Prop where
  ent : Enters P f
  run : ∀ (n : Nat) (w : World), n * bts ≤ 140737488355328 → Calls P f #[.slice none 0 0, .int .i64 n] w fun x w' => ∃ v', x = .returned v' ∧ w'.ownsRow w.heap.size e sz v' 0 [] ∧ Below w.heap.size w w'
end
end Go.Proofs.YtmhieddhmebfhaaGreat

/- slices.Clone at one type: its walk. -/
namespace Go.Proofs.YtmhieddhmebfhaaGreat
open Go.RowKit
set_option maxHeartbeats 1000000 in
theorem w_ClonePeers : CloneW Tryz.prog 114 94 2 16 := by
  obtain ⟨hk10, het, ti, hti, hsz, hby, _⟩ := tau_ok.rk 94 3 (by kernel_rfl)
  obtain ⟨x0, z, g1, g2, g3, g4, g5, g6⟩ := (tau_ok.ti _ ti hti).info
  have g2 : x0.size = 2 := g2.trans hsz
  have g3 : x0.bytes = 16 := g3.trans hby
  have g5 : z.cells.size = 2 := g5.trans hsz
  clear hk10 het g6
  have t22 : Tryz.prog.underlying 22 = some (.slice 94) := Tryz.underlying22
  have q22 : ∀ (w : World) (a : Option Addr) (n c n' c' : Nat), (binOp .eql 22 (.slice a n c) (.slice none n' c')).run Tryz.prog w = .ok (.bool a.isNone) w := fun w a n c n' c' => Lib.run_eql_slice_nil w _ _ a n c n' c' t22
  refine ⟨fnOk_enters (fn := Tryz.f114) (D := []) (by kernel_rfl) (by kernel_rfl), fun n c w => ?_, fun ad n c news w hl hn hbig hc h1 => ?_⟩
  · go_enter Tryz.func114, Tryz.ntmps114
    go_wp2
    go_ret
    exact ⟨rfl, rfl⟩
  · have A : Aside (∀ j u, news[j]? = some u → w.cell? (ad.add j) = some u) := hc
    clear hc
    go_enter Tryz.func114, Tryz.ntmps114
    go_wp2_with (at_builtin; refine wpList_append_own _ rfl _ _ 22 rfl w.heap.size 94 x0 z 2 16 t22 g1 g4 g2 g3 g5 (by decide) _ _ _ rfl (World.ownsRow_made w #[] 0 (Nat.le_refl _) (Nat.zero_le _) (by simp)) ad n c news rfl ?qc1 ?qc2 ?qc3 ?qc4 ?qc5 ?qc6 ?_)
    case qc1 => exact hl
    case qc2 =>
      intro j u hj
      exact Lib.cell?_alloc_some _ (A.out j u hj)
    case qc3 => exact h1
    case qc4 => rw [Nat.zero_add]; exact hn
    case qc5 => rw [Nat.zero_add]; exact hbig
    case qc6 => simp
    intro v' w1 hown hgrow hnil
    go_wp2
    go_ret
    refine ⟨v', rfl, by simpa using hown, ?_⟩
    exact ((Below.refl _ w).alloc (Nat.le_refl _) _).grown hgrow (by simp) (by intro k hk; simp [Value.ownBlock] at hk; omega)
theorem k_ClonePeers : Known Tryz.prog tau 114 (S1 dPeers fun l => .ok (.own 0) [.peers l]) := clone_known dPeers .peers (fun _ => rfl) (fun _ => rfl) (kd := 3) (fun _ => rfl) w_ClonePeers
end Go.Proofs.YtmhieddhmebfhaaGreat

/- Contracts: Grow of nil, Concat of rows of ints; Ids; Copy of a view. -/
namespace Go.Proofs.YtmhieddhmebfhaaGreat
open Go.RowKit
set_option maxRecDepth 20000
theorem ids_arg {v : GView} (h : fitsV (dPView.e v)) : v.peers.length * 16 ≤ 140737488355328 := h.2.1
theorem k_Ids : Known Tryz.prog tau 35 (S1 dPView fun v => .ok (.own 0) [.ints (namesP v.peers)]) := by
  refine known1 hmix tau_ok ctx_nil (fn := Tryz.f35) (by kernel_rfl) [] (by kernel_rfl) _ _ fun v hfit => ⟨rfl,
    [(3, invA Nat [(3, 19, 0)] [3, 5, 11, 12, 13, 14, 15, 16, 17, 18, 19, 20] [19] (fun i => i ≤ v.peers.length) (fun i => fun st => withS [(11, .int .i64 i), (3, .own 19)] (withR [(19, .own (.ints (namesP (v.peers.take i))))] st)) (fun i => v.peers.length - i))], ?_⟩
  have hlen := ids_arg hfit.1
  clear hfit
  (repeat' (first | ((with_reducible refine BdI ?_); (first | ((with_reducible refine SqI ?_ (fun Kv hN hX hR => ?_)); (next => exact rfl)) | ((with_reducible refine JnI ?_ ?_); (next => exact rfl)) | (conv => whnf))) | (with_reducible first | refine BdS (fun Kv hN hX hR => ?_) | refine Stop.mk ?_ | refine Join.mk ⟨fun Kv hN hX hR => ?_, ?_⟩ | refine DrawJ.each ?_ | exact SubJ.self _) | with_reducible refine SubJ.of ?_ | (with_reducible first | refine FlS (fun Kf hF => ?_) | refine FlN ?_ | refine NdS (fun Kg hG => ?_) | (refine hF _ _ ?_; clear hF; clear Kf) | (refine hG _ _ _ _ ?_; clear hG; clear Kg)) | ((with_reducible refine SqI ?_ (fun Kv hN hX hR => ?_)); (next => exact rfl)) | ((with_reducible refine JnI ?_ ?_); (next => exact rfl)) | ((with_reducible first | refine hN _ ?_ | refine hX _ _ ?_ | refine hR _ ?_); (try (clear hG; clear Kg)); clear hN hX hR; clear Kv) | ((conv => whnf); first | (with_reducible first | rfl | exact True.intro | refine (fun (_ : (_ : Prop)) => ?_) | refine And.intro ?_ ?_) | ((with_reducible first | refine hN _ ?_ | refine hX _ _ ?_ | refine hR _ ?_); (try (clear hG; clear Kg)); clear hN hX hR; clear Kv) | (with_reducible first | refine BdS (fun Kv hN hX hR => ?_) | refine Stop.mk ?_ | refine Join.mk ⟨fun Kv hN hX hR => ?_, ?_⟩ | refine DrawJ.each ?_ | exact SubJ.self _) | with_reducible refine SubJ.of ?_ | (with_reducible first | refine FlS (fun Kf hF => ?_) | refine FlN ?_ | refine NdS (fun Kg hG => ?_) | (refine hF _ _ ?_; clear hF; clear Kf) | (refine hG _ _ _ _ ?_; clear hG; clear Kg))))); all_goals (conv => whnf); all_goals (repeat ((try (clear hG; clear Kg)); clear hN hX hR; clear Kv))
  all_goals first
    | (refine ⟨0, Nat.zero_le _, ?_⟩
       (repeat' (first | ((with_reducible refine BdI ?_); (first | ((with_reducible refine SqI ?_ (fun Kv hN hX hR => ?_)); (next => exact rfl)) | ((with_reducible refine JnI ?_ ?_); (next => exact rfl)) | (conv => whnf))) | (with_reducible first | refine BdS (fun Kv hN hX hR => ?_) | refine Stop.mk ?_ | refine Join.mk ⟨fun Kv hN hX hR => ?_, ?_⟩ | refine DrawJ.each ?_ | exact SubJ.self _) | with_reducible refine SubJ.of ?_ | (with_reducible first | refine FlS (fun Kf hF => ?_) | refine FlN ?_ | refine NdS (fun Kg hG => ?_) | (refine hF _ _ ?_; clear hF; clear Kf) | (refine hG _ _ _ _ ?_; clear hG; clear Kg)) | ((with_reducible refine SqI ?_ (fun Kv hN hX hR => ?_)); (next => exact rfl)) | ((with_reducible refine JnI ?_ ?_); (next => exact rfl)) | ((with_reducible first | refine hN _ ?_ | refine hX _ _ ?_ | refine hR _ ?_); (try (clear hG; clear Kg)); clear hN hX hR; clear Kv) | ((conv => whnf); first | (with_reducible first | rfl | exact True.intro | intro _ | refine And.intro ?_ ?_) | ((with_reducible first | refine hN _ ?_ | refine hX _ _ ?_ | refine hR _ ?_); (try (clear hG; clear Kg)); clear hN hX hR; clear Kv) | (with_reducible first | refine BdS (fun Kv hN hX hR => ?_) | refine Stop.mk ?_ | refine Join.mk ⟨fun Kv hN hX hR => ?_, ?_⟩ | refine DrawJ.each ?_ | exact SubJ.self _) | with_reducible refine SubJ.of ?_ | (with_reducible first | refine FlS (fun Kf hF => ?_) | refine FlN ?_ | refine NdS (fun Kg hG => ?_) | (refine hF _ _ ?_; clear hF; clear Kf) | (refine hG _ _ _ _ ?_; clear hG; clear Kg))))); all_goals (conv => whnf); all_goals (repeat ((try (clear hG; clear Kg)); clear hN hX hR; clear Kv))
       all_goals rfl)
    | (with_reducible intro i hi
       have hi : i ≤ v.peers.length := hi
       (repeat' (first | ((with_reducible refine BdI ?_); (first | ((with_reducible refine SqI ?_ (fun Kv hN hX hR => ?_)); (next => exact rfl)) | ((with_reducible refine JnI ?_ ?_); (next => exact rfl)) | (conv => whnf))) | (with_reducible first | refine BdS (fun Kv hN hX hR => ?_) | refine Stop.mk ?_ | refine Join.mk ⟨fun Kv hN hX hR => ?_, ?_⟩ | refine DrawJ.each ?_ | exact SubJ.self _) | with_reducible refine SubJ.of ?_ | (with_reducible first | refine FlS (fun Kf hF => ?_) | refine FlN ?_ | refine NdS (fun Kg hG => ?_) | (refine hF _ _ ?_; clear hF; clear Kf) | (refine hG _ _ _ _ ?_; clear hG; clear Kg)) | ((with_reducible refine SqI ?_ (fun Kv hN hX hR => ?_)); (next => exact rfl)) | ((with_reducible refine JnI ?_ ?_); (next => exact rfl)) | ((with_reducible first | refine hN _ ?_ | refine hX _ _ ?_ | refine hR _ ?_); (try (clear hG; clear Kg)); clear hN hX hR; clear Kv) | ((conv => whnf); first | (with_reducible first | rfl | exact True.intro | intro _ | refine And.intro ?_ ?_) | ((with_reducible first | refine hN _ ?_ | refine hX _ _ ?_ | refine hR _ ?_); (try (clear hG; clear Kg)); clear hN hX hR; clear Kv) | (with_reducible first | refine BdS (fun Kv hN hX hR => ?_) | refine Stop.mk ?_ | refine Join.mk ⟨fun Kv hN hX hR => ?_, ?_⟩ | refine DrawJ.each ?_ | exact SubJ.self _) | with_reducible refine SubJ.of ?_ | (with_reducible first | refine FlS (fun Kf hF => ?_) | refine FlN ?_ | refine NdS (fun Kg hG => ?_) | (refine hF _ _ ?_; clear hF; clear Kf) | (refine hG _ _ _ _ ?_; clear hG; clear Kg))))); all_goals (conv => whnf); all_goals (repeat ((try (clear hG; clear Kg)); clear hN hX hR; clear Kv))
       all_goals (try simp only [Int.toNat_natCast] at *)
       all_goals first
         | exact Ob.mk ⟨by omega, of_decide_eq_true (by with_reducible assumption)⟩
         | (refine Ob.mk ?_
            simp only [Rw.len, Rw.bts, Rw.kd, kdBytes, List.length_cons, List.length_nil, List.length_append, namesP_len, List.length_take]
            omega)
         | (have h := of_decide_eq_true (show decide ((i : Int) < (v.peers.length : Nat)) = true by with_reducible assumption)
            refine ⟨i + 1, by omega, by omega, ?_⟩
            have e1 := namesP_succ (l := v.peers) (i := i) (by omega)
            (repeat' (first | ((with_reducible refine BdI ?_); (first | ((with_reducible refine SqI ?_ (fun Kv hN hX hR => ?_)); (next => exact rfl)) | ((with_reducible refine JnI ?_ ?_); (next => exact rfl)) | (conv => whnf))) | (with_reducible first | refine BdS (fun Kv hN hX hR => ?_) | refine Stop.mk ?_ | refine Join.mk ⟨fun Kv hN hX hR => ?_, ?_⟩ | refine DrawJ.each ?_ | exact SubJ.self _) | with_reducible refine SubJ.of ?_ | (with_reducible first | refine FlS (fun Kf hF => ?_) | refine FlN ?_ | refine NdS (fun Kg hG => ?_) | (refine hF _ _ ?_; clear hF; clear Kf) | (refine hG _ _ _ _ ?_; clear hG; clear Kg)) | ((with_reducible refine SqI ?_ (fun Kv hN hX hR => ?_)); (next => exact rfl)) | ((with_reducible refine JnI ?_ ?_); (next => exact rfl)) | ((with_reducible first | refine hN _ ?_ | refine hX _ _ ?_ | refine hR _ ?_); (try (clear hG; clear Kg)); clear hN hX hR; clear Kv) | ((conv => whnf); first | (with_reducible first | rfl | exact True.intro | intro _ | refine And.intro ?_ ?_) | ((with_reducible first | refine hN _ ?_ | refine hX _ _ ?_ | refine hR _ ?_); (try (clear hG; clear Kg)); clear hN hX hR; clear Kv) | (with_reducible first | refine BdS (fun Kv hN hX hR => ?_) | refine Stop.mk ?_ | refine Join.mk ⟨fun Kv hN hX hR => ?_, ?_⟩ | refine DrawJ.each ?_ | exact SubJ.self _) | with_reducible refine SubJ.of ?_ | (with_reducible first | refine FlS (fun Kf hF => ?_) | refine FlN ?_ | refine NdS (fun Kg hG => ?_) | (refine hF _ _ ?_; clear hF; clear Kf) | (refine hG _ _ _ _ ?_; clear hG; clear Kg))))); all_goals (conv => whnf); all_goals (repeat ((try (clear hG; clear Kg)); clear hN hX hR; clear Kv))
            all_goals first
              | exact wrapI (by omega) (by omega)
              | exact congrArg Rw.ints e1.symm
              | rfl)
         | (have h := of_decide_eq_false (show decide ((i : Int) < (v.peers.length : Nat)) = false by with_reducible assumption)
            rw [List.take_of_length_le (by omega)])
         | trace_state)
    | trace_state
end Go.Proofs.YtmhieddhmebfhaaGreat

/- Contracts: peers that age; a view's copy; time that goes by. -/
namespace Go.Proofs.YtmhieddhmebfhaaGreat
open Go.RowKit
set_option maxRecDepth 20000
theorem k_viewCopy : Known Tryz.prog tau 75 (S1 dView fun v => .ok (.agg [.int .i64 v.id, .own 0, .own 1]) [.peers v.peers, .ints v.passive]) := by
  refine known1 hmix tau_ok (ctx_cons k_ClonePeers (ctx_cons k_CloneInts ctx_nil)) (fn := Tryz.f75) (by kernel_rfl) [(1, [(0, 0), (1, 1), (2, 2), (3, 0), (4, 8), (5, 20), (6, 31), (7, 127), (8, 255), (9, 511)])] (by kernel_rfl) _ _ fun v hfit => ⟨rfl, [], ?_⟩
  clear hfit
  (repeat' (first | ((with_reducible refine BdI ?_); (first | ((with_reducible refine SqI ?_ (fun Kv hN hX hR => ?_)); (next => exact rfl)) | ((with_reducible refine JnI ?_ ?_); (next => exact rfl)) | (conv => whnf))) | (with_reducible first | refine BdS (fun Kv hN hX hR => ?_) | refine Stop.mk ?_ | refine Join.mk ⟨fun Kv hN hX hR => ?_, ?_⟩ | apply DrawJ.join | exact SubJ.self _) | ((with_reducible refine SubJ.of ?_); (repeat' (first | with_reducible rfl | ((conv => whnf) <;> (first | with_reducible exact True.intro | with_reducible refine And.intro ?_ ?_ | with_reducible rfl | ((conv => rhs; whnf) <;> with_reducible rfl))))); done) | (with_reducible first | refine FlS (fun Kf hF => ?_) | refine FlN ?_ | refine NdS (fun Kg hG => ?_) | (refine hF _ _ ?_; clear hF; clear Kf) | (refine hG _ _ _ _ ?_; clear hG; clear Kg)) | ((with_reducible refine SqI ?_ (fun Kv hN hX hR => ?_)); (next => exact rfl)) | ((with_reducible refine JnI ?_ ?_); (next => exact rfl)) | ((with_reducible first | refine hN _ ?_ | refine hX _ _ ?_ | refine hR _ ?_); (try (clear hG; clear Kg)); clear hN hX hR; clear Kv) | ((conv => whnf); first | (with_reducible first | rfl | exact True.intro | intro _ | refine And.intro ?_ ?_) | ((with_reducible first | refine hN _ ?_ | refine hX _ _ ?_ | refine hR _ ?_); (try (clear hG; clear Kg)); clear hN hX hR; clear Kv) | (with_reducible first | refine BdS (fun Kv hN hX hR => ?_) | refine Stop.mk ?_ | refine Join.mk ⟨fun Kv hN hX hR => ?_, ?_⟩ | apply DrawJ.join | exact SubJ.self _) | ((with_reducible refine SubJ.of ?_); (repeat' (first | with_reducible rfl | ((conv => whnf) <;> (first | with_reducible exact True.intro | with_reducible refine And.intro ?_ ?_ | with_reducible rfl | ((conv => rhs; whnf) <;> with_reducible rfl))))); done) | (with_reducible first | refine FlS (fun Kf hF => ?_) | refine FlN ?_ | refine NdS (fun Kg hG => ?_) | (refine hF _ _ ?_; clear hF; clear Kf) | (refine hG _ _ _ _ ?_; clear hG; clear Kg))))); all_goals (conv => whnf); all_goals (repeat ((try (clear hG; clear Kg)); clear hN hX hR; clear Kv))
  all_goals first
    | rfl
    | trace_state
end Go.Proofs.YtmhieddhmebfhaaGreat

/- Contracts: time that goes by: the program's. -/
namespace Go.Proofs.YtmhieddhmebfhaaGreat
open Go.RowKit
set_option maxRecDepth 20000
end Go.Proofs.YtmhieddhmebfhaaGreat

/- Time that goes by, without a program: a view that may be stays one. -/
namespace Go.Proofs.YtmhieddhmebfhaaGreat
open Go.RowKit

end Go.Proofs.YtmhieddhmebfhaaGreat

/- Contracts: time that goes by: the document's. -/
namespace Go.Proofs.YtmhieddhmebfhaaGreat
open Go.RowKit
set_option maxRecDepth 20000
end Go.Proofs.YtmhieddhmebfhaaGreat

/- Contracts: the least distance. -/
namespace Go.Proofs.YtmhieddhmebfhaaGreat
open Go.RowKit
set_option maxRecDepth 20000
end Go.Proofs.YtmhieddhmebfhaaGreat

/- slices.Clone at one type: its walk. -/
namespace Go.Proofs.YtmhieddhmebfhaaGreat
open Go.RowKit
set_option maxHeartbeats 1000000 in
theorem w_CloneItems : CloneW Tryz.prog 76 68 5 40 := by
  obtain ⟨hk10, het, ti, hti, hsz, hby, _⟩ := tau_ok.rk 68 4 (by kernel_rfl)
  obtain ⟨x0, z, g1, g2, g3, g4, g5, g6⟩ := (tau_ok.ti _ ti hti).info
  have g2 : x0.size = 5 := g2.trans hsz
  have g3 : x0.bytes = 40 := g3.trans hby
  have g5 : z.cells.size = 5 := g5.trans hsz
  clear hk10 het g6
  have t22 : Tryz.prog.underlying 26 = some (.slice 68) := Tryz.underlying26
  have q22 : ∀ (w : World) (a : Option Addr) (n c n' c' : Nat), (binOp .eql 26 (.slice a n c) (.slice none n' c')).run Tryz.prog w = .ok (.bool a.isNone) w := fun w a n c n' c' => Lib.run_eql_slice_nil w _ _ a n c n' c' t22
  refine ⟨fnOk_enters (fn := Tryz.f76) (D := []) (by kernel_rfl) (by kernel_rfl), fun n c w => ?_, fun ad n c news w hl hn hbig hc h1 => ?_⟩
  · go_enter Tryz.func76, Tryz.ntmps76
    go_wp2
    go_ret
    exact ⟨rfl, rfl⟩
  · have A : Aside (∀ j u, news[j]? = some u → w.cell? (ad.add j) = some u) := hc
    clear hc
    go_enter Tryz.func76, Tryz.ntmps76
    go_wp2_with (at_builtin; refine wpList_append_own _ rfl _ _ 26 rfl w.heap.size 68 x0 z 5 40 t22 g1 g4 g2 g3 g5 (by decide) _ _ _ rfl (World.ownsRow_made w #[] 0 (Nat.le_refl _) (Nat.zero_le _) (by simp)) ad n c news rfl ?qc1 ?qc2 ?qc3 ?qc4 ?qc5 ?qc6 ?_)
    case qc1 => exact hl
    case qc2 =>
      intro j u hj
      exact Lib.cell?_alloc_some _ (A.out j u hj)
    case qc3 => exact h1
    case qc4 => rw [Nat.zero_add]; exact hn
    case qc5 => rw [Nat.zero_add]; exact hbig
    case qc6 => simp
    intro v' w1 hown hgrow hnil
    go_wp2
    go_ret
    refine ⟨v', rfl, by simpa using hown, ?_⟩
    exact ((Below.refl _ w).alloc (Nat.le_refl _) _).grown hgrow (by simp) (by intro k hk; simp [Value.ownBlock] at hk; omega)
theorem k_CloneItems : Known Tryz.prog tau 76 (S1 dItems fun l => .ok (.own 0) [.items l]) := clone_known dItems .items (fun _ => rfl) (fun _ => rfl) (kd := 4) (fun _ => rfl) w_CloneItems
end Go.Proofs.YtmhieddhmebfhaaGreat

/- slices.Clone at one type: its walk. -/
namespace Go.Proofs.YtmhieddhmebfhaaGreat
open Go.RowKit
set_option maxHeartbeats 1000000 in
theorem w_CloneTolds : CloneW Tryz.prog 77 121 3 24 := by
  obtain ⟨hk10, het, ti, hti, hsz, hby, _⟩ := tau_ok.rk 121 5 (by kernel_rfl)
  obtain ⟨x0, z, g1, g2, g3, g4, g5, g6⟩ := (tau_ok.ti _ ti hti).info
  have g2 : x0.size = 3 := g2.trans hsz
  have g3 : x0.bytes = 24 := g3.trans hby
  have g5 : z.cells.size = 3 := g5.trans hsz
  clear hk10 het g6
  have t22 : Tryz.prog.underlying 27 = some (.slice 121) := Tryz.underlying27
  have q22 : ∀ (w : World) (a : Option Addr) (n c n' c' : Nat), (binOp .eql 27 (.slice a n c) (.slice none n' c')).run Tryz.prog w = .ok (.bool a.isNone) w := fun w a n c n' c' => Lib.run_eql_slice_nil w _ _ a n c n' c' t22
  refine ⟨fnOk_enters (fn := Tryz.f77) (D := []) (by kernel_rfl) (by kernel_rfl), fun n c w => ?_, fun ad n c news w hl hn hbig hc h1 => ?_⟩
  · go_enter Tryz.func77, Tryz.ntmps77
    go_wp2
    go_ret
    exact ⟨rfl, rfl⟩
  · have A : Aside (∀ j u, news[j]? = some u → w.cell? (ad.add j) = some u) := hc
    clear hc
    go_enter Tryz.func77, Tryz.ntmps77
    go_wp2_with (at_builtin; refine wpList_append_own _ rfl _ _ 27 rfl w.heap.size 121 x0 z 3 24 t22 g1 g4 g2 g3 g5 (by decide) _ _ _ rfl (World.ownsRow_made w #[] 0 (Nat.le_refl _) (Nat.zero_le _) (by simp)) ad n c news rfl ?qc1 ?qc2 ?qc3 ?qc4 ?qc5 ?qc6 ?_)
    case qc1 => exact hl
    case qc2 =>
      intro j u hj
      exact Lib.cell?_alloc_some _ (A.out j u hj)
    case qc3 => exact h1
    case qc4 => rw [Nat.zero_add]; exact hn
    case qc5 => rw [Nat.zero_add]; exact hbig
    case qc6 => simp
    intro v' w1 hown hgrow hnil
    go_wp2
    go_ret
    refine ⟨v', rfl, by simpa using hown, ?_⟩
    exact ((Below.refl _ w).alloc (Nat.le_refl _) _).grown hgrow (by simp) (by intro k hk; simp [Value.ownBlock] at hk; omega)
theorem k_CloneTolds : Known Tryz.prog tau 77 (S1 dTolds fun l => .ok (.own 0) [.tolds l]) := clone_known dTolds .tolds (fun _ => rfl) (fun _ => rfl) (kd := 5) (fun _ => rfl) w_CloneTolds
end Go.Proofs.YtmhieddhmebfhaaGreat

/- Contracts: whose a key is; the next one; nodes' copies. -/
namespace Go.Proofs.YtmhieddhmebfhaaGreat
open Go.RowKit
set_option maxRecDepth 20000
def nOwn4 (n : GNode) : List SV := [.bool n.up, .int .i64 n.view.id, .own 0, .own 1, .own 2, .own 3]
def nRows (n : GNode) : List Rw := [.peers n.view.peers, .ints n.view.passive, .items n.items, .tolds n.log]
theorem k_nodeCopy : Known Tryz.prog tau 33 (S1 dNode fun x => .ok (.agg (nOwn4 x)) (nRows x)) := by
  refine known1 hmix tau_ok (ctx_cons k_viewCopy (ctx_cons k_CloneItems (ctx_cons k_CloneTolds ctx_nil))) (fn := Tryz.f33) (by kernel_rfl) [(1, [(0, 0), (1, 1), (2, 2), (3, 0), (4, 8), (5, 20), (6, 0), (7, 64), (8, 160), (9, 223), (10, 991), (11, 1791), (12, 3839), (13, 8191), (14, 16383)])] (by kernel_rfl) _ _ fun x hfit => ⟨rfl, [], ?_⟩
  clear hfit
  (repeat' (first | ((with_reducible refine BdI ?_); (first | ((with_reducible refine SqI ?_ (fun Kv hN hX hR => ?_)); (next => exact rfl)) | ((with_reducible refine JnI ?_ ?_); (next => exact rfl)) | (conv => whnf))) | (with_reducible first | refine BdS (fun Kv hN hX hR => ?_) | refine Stop.mk ?_ | refine Join.mk ⟨fun Kv hN hX hR => ?_, ?_⟩ | apply DrawJ.join | exact SubJ.self _) | ((with_reducible refine SubJ.of ?_); (repeat' (first | with_reducible rfl | ((conv => whnf) <;> (first | with_reducible exact True.intro | with_reducible refine And.intro ?_ ?_ | with_reducible rfl | ((conv => rhs; whnf) <;> with_reducible rfl))))); done) | (with_reducible first | refine FlS (fun Kf hF => ?_) | refine FlN ?_ | refine NdS (fun Kg hG => ?_) | (refine hF _ _ ?_; clear hF; clear Kf) | (refine hG _ _ _ _ ?_; clear hG; clear Kg)) | ((with_reducible refine SqI ?_ (fun Kv hN hX hR => ?_)); (next => exact rfl)) | ((with_reducible refine JnI ?_ ?_); (next => exact rfl)) | ((with_reducible first | refine hN _ ?_ | refine hX _ _ ?_ | refine hR _ ?_); (try (clear hG; clear Kg)); clear hN hX hR; clear Kv) | ((conv => whnf); first | (with_reducible first | rfl | exact True.intro | intro _ | refine And.intro ?_ ?_) | ((with_reducible first | refine hN _ ?_ | refine hX _ _ ?_ | refine hR _ ?_); (try (clear hG; clear Kg)); clear hN hX hR; clear Kv) | (with_reducible first | refine BdS (fun Kv hN hX hR => ?_) | refine Stop.mk ?_ | refine Join.mk ⟨fun Kv hN hX hR => ?_, ?_⟩ | apply DrawJ.join | exact SubJ.self _) | ((with_reducible refine SubJ.of ?_); (repeat' (first | with_reducible rfl | ((conv => whnf) <;> (first | with_reducible exact True.intro | with_reducible refine And.intro ?_ ?_ | with_reducible rfl | ((conv => rhs; whnf) <;> with_reducible rfl))))); done) | (with_reducible first | refine FlS (fun Kf hF => ?_) | refine FlN ?_ | refine NdS (fun Kg hG => ?_) | (refine hF _ _ ?_; clear hF; clear Kf) | (refine hG _ _ _ _ ?_; clear hG; clear Kg))))); all_goals (conv => whnf); all_goals (repeat ((try (clear hG; clear Kg)); clear hN hX hR; clear Kv))
  all_goals first
    | rfl
    | trace_state
end Go.Proofs.YtmhieddhmebfhaaGreat

/- Contracts: cuts. -/
namespace Go.Proofs.YtmhieddhmebfhaaGreat
open Go.RowKit
set_option maxRecDepth 20000
def orL : List Int → Int
  | [] => 0
  | x :: l => if x = 0 then orL l else x
theorem orL_take {l : List Int} {i : Nat} (h : ∀ x ∈ l.take i, x = 0) : orL l = orL (l.drop i) := by
  induction i generalizing l with
  | zero => rfl
  | succ i ih =>
    cases l with
    | nil => rfl
    | cons x l =>
      have hx := h x (by simp)
      rw [orL, if_pos hx, List.drop_succ_cons]
      exact ih fun y hy => h y (by simp [hy])
theorem k_Or : Known Tryz.prog tau 129 (S1 dInts fun l => .ok (.int .i64 (orL l)) []) := by
  refine known1 hmix tau_ok ctx_nil (fn := Tryz.f129) (by kernel_rfl) [] (by kernel_rfl) _ _ fun l hfit => ⟨rfl,
    [(3, invX Nat [2, 5, 8, 9, 10, 11, 12, 13, 14, 15, 16] [] (fun i => i ≤ l.length ∧ ∀ x ∈ l.take i, x = 0) (fun i => withS [(8, .int .i64 i)]) (fun i => l.length - i))], ?_⟩
  have hp : l.length * 8 ≤ 140737488355328 := hfit.1
  clear hfit
  (repeat' (first | ((with_reducible refine BdI ?_); (first | ((with_reducible refine SqI ?_ (fun Kv hN hX hR => ?_)); (next => exact rfl)) | ((with_reducible refine JnI ?_ ?_); (next => exact rfl)) | (conv => whnf))) | (with_reducible first | refine BdS (fun Kv hN hX hR => ?_) | refine Stop.mk ?_ | refine Join.mk ⟨fun Kv hN hX hR => ?_, ?_⟩ | refine DrawJ.each ?_ | exact SubJ.self _) | with_reducible refine SubJ.of ?_ | (with_reducible first | refine FlS (fun Kf hF => ?_) | refine FlN ?_ | refine NdS (fun Kg hG => ?_) | (refine hF _ _ ?_; clear hF; clear Kf) | (refine hG _ _ _ _ ?_; clear hG; clear Kg)) | ((with_reducible refine SqI ?_ (fun Kv hN hX hR => ?_)); (next => exact rfl)) | ((with_reducible refine JnI ?_ ?_); (next => exact rfl)) | ((with_reducible first | refine hN _ ?_ | refine hX _ _ ?_ | refine hR _ ?_); (try (clear hG; clear Kg)); clear hN hX hR; clear Kv) | ((conv => whnf); first | (with_reducible first | rfl | exact True.intro | refine (fun (_ : (_ : Prop)) => ?_) | refine And.intro ?_ ?_) | ((with_reducible first | refine hN _ ?_ | refine hX _ _ ?_ | refine hR _ ?_); (try (clear hG; clear Kg)); clear hN hX hR; clear Kv) | (with_reducible first | refine BdS (fun Kv hN hX hR => ?_) | refine Stop.mk ?_ | refine Join.mk ⟨fun Kv hN hX hR => ?_, ?_⟩ | refine DrawJ.each ?_ | exact SubJ.self _) | with_reducible refine SubJ.of ?_ | (with_reducible first | refine FlS (fun Kf hF => ?_) | refine FlN ?_ | refine NdS (fun Kg hG => ?_) | (refine hF _ _ ?_; clear hF; clear Kf) | (refine hG _ _ _ _ ?_; clear hG; clear Kg))))); all_goals (conv => whnf); all_goals (repeat ((try (clear hG; clear Kg)); clear hN hX hR; clear Kv))
  all_goals first
    | (refine ⟨0, ⟨Nat.zero_le _, by simp⟩, ?_⟩
       (repeat' (first | ((with_reducible refine BdI ?_); (first | ((with_reducible refine SqI ?_ (fun Kv hN hX hR => ?_)); (next => exact rfl)) | ((with_reducible refine JnI ?_ ?_); (next => exact rfl)) | (conv => whnf))) | (with_reducible first | refine BdS (fun Kv hN hX hR => ?_) | refine Stop.mk ?_ | refine Join.mk ⟨fun Kv hN hX hR => ?_, ?_⟩ | refine DrawJ.each ?_ | exact SubJ.self _) | with_reducible refine SubJ.of ?_ | (with_reducible first | refine FlS (fun Kf hF => ?_) | refine FlN ?_ | refine NdS (fun Kg hG => ?_) | (refine hF _ _ ?_; clear hF; clear Kf) | (refine hG _ _ _ _ ?_; clear hG; clear Kg)) | ((with_reducible refine SqI ?_ (fun Kv hN hX hR => ?_)); (next => exact rfl)) | ((with_reducible refine JnI ?_ ?_); (next => exact rfl)) | ((with_reducible first | refine hN _ ?_ | refine hX _ _ ?_ | refine hR _ ?_); (try (clear hG; clear Kg)); clear hN hX hR; clear Kv) | ((conv => whnf); first | (with_reducible first | rfl | exact True.intro | intro _ | refine And.intro ?_ ?_) | ((with_reducible first | refine hN _ ?_ | refine hX _ _ ?_ | refine hR _ ?_); (try (clear hG; clear Kg)); clear hN hX hR; clear Kv) | (with_reducible first | refine BdS (fun Kv hN hX hR => ?_) | refine Stop.mk ?_ | refine Join.mk ⟨fun Kv hN hX hR => ?_, ?_⟩ | refine DrawJ.each ?_ | exact SubJ.self _) | with_reducible refine SubJ.of ?_ | (with_reducible first | refine FlS (fun Kf hF => ?_) | refine FlN ?_ | refine NdS (fun Kg hG => ?_) | (refine hF _ _ ?_; clear hF; clear Kf) | (refine hG _ _ _ _ ?_; clear hG; clear Kg))))); all_goals (conv => whnf); all_goals (repeat ((try (clear hG; clear Kg)); clear hN hX hR; clear Kv))
       all_goals rfl)
    | (rintro i ⟨hi, h0⟩
       (repeat' (first | ((with_reducible refine BdI ?_); (first | ((with_reducible refine SqI ?_ (fun Kv hN hX hR => ?_)); (next => exact rfl)) | ((with_reducible refine JnI ?_ ?_); (next => exact rfl)) | (conv => whnf))) | (with_reducible first | refine BdS (fun Kv hN hX hR => ?_) | refine Stop.mk ?_ | refine Join.mk ⟨fun Kv hN hX hR => ?_, ?_⟩ | refine DrawJ.each ?_ | exact SubJ.self _) | with_reducible refine SubJ.of ?_ | (with_reducible first | refine FlS (fun Kf hF => ?_) | refine FlN ?_ | refine NdS (fun Kg hG => ?_) | (refine hF _ _ ?_; clear hF; clear Kf) | (refine hG _ _ _ _ ?_; clear hG; clear Kg)) | ((with_reducible refine SqI ?_ (fun Kv hN hX hR => ?_)); (next => exact rfl)) | ((with_reducible refine JnI ?_ ?_); (next => exact rfl)) | ((with_reducible first | refine hN _ ?_ | refine hX _ _ ?_ | refine hR _ ?_); (try (clear hG; clear Kg)); clear hN hX hR; clear Kv) | ((conv => whnf); first | (with_reducible first | rfl | exact True.intro | intro _ | refine And.intro ?_ ?_) | ((with_reducible first | refine hN _ ?_ | refine hX _ _ ?_ | refine hR _ ?_); (try (clear hG; clear Kg)); clear hN hX hR; clear Kv) | (with_reducible first | refine BdS (fun Kv hN hX hR => ?_) | refine Stop.mk ?_ | refine Join.mk ⟨fun Kv hN hX hR => ?_, ?_⟩ | refine DrawJ.each ?_ | exact SubJ.self _) | with_reducible refine SubJ.of ?_ | (with_reducible first | refine FlS (fun Kf hF => ?_) | refine FlN ?_ | refine NdS (fun Kg hG => ?_) | (refine hF _ _ ?_; clear hF; clear Kf) | (refine hG _ _ _ _ ?_; clear hG; clear Kg))))); all_goals (conv => whnf); all_goals (repeat ((try (clear hG; clear Kg)); clear hN hX hR; clear Kv))
       all_goals (try simp only [Int.toNat_natCast] at *)
       all_goals first
         | exact Ob.mk ⟨by omega, of_decide_eq_true (by with_reducible assumption)⟩
         | (have h := of_decide_eq_false (show decide ((i : Int) < (l.length : Nat)) = false by with_reducible assumption)
            rw [orL_take h0, List.drop_eq_nil_of_le (by omega)]
            rfl)
         | (have h := of_decide_eq_true (show decide ((i : Int) < (l.length : Nat)) = true by with_reducible assumption)
            have hd := drop_one_more (d := (0 : Int)) (l := l) (i := i) (by omega)
            first
              | (have hz := nt (show (!decide (l.getD i 0 = 0)) = false by with_reducible assumption)
                 have hz := of_decide_eq_true hz
                 refine ⟨i + 1, ⟨by omega, all_take_succ (d := 0) (by omega) h0 hz⟩, by omega, ?_⟩
                 (repeat' (first | ((with_reducible refine BdI ?_); (first | ((with_reducible refine SqI ?_ (fun Kv hN hX hR => ?_)); (next => exact rfl)) | ((with_reducible refine JnI ?_ ?_); (next => exact rfl)) | (conv => whnf))) | (with_reducible first | refine BdS (fun Kv hN hX hR => ?_) | refine Stop.mk ?_ | refine Join.mk ⟨fun Kv hN hX hR => ?_, ?_⟩ | refine DrawJ.each ?_ | exact SubJ.self _) | with_reducible refine SubJ.of ?_ | (with_reducible first | refine FlS (fun Kf hF => ?_) | refine FlN ?_ | refine NdS (fun Kg hG => ?_) | (refine hF _ _ ?_; clear hF; clear Kf) | (refine hG _ _ _ _ ?_; clear hG; clear Kg)) | ((with_reducible refine SqI ?_ (fun Kv hN hX hR => ?_)); (next => exact rfl)) | ((with_reducible refine JnI ?_ ?_); (next => exact rfl)) | ((with_reducible first | refine hN _ ?_ | refine hX _ _ ?_ | refine hR _ ?_); (try (clear hG; clear Kg)); clear hN hX hR; clear Kv) | ((conv => whnf); first | (with_reducible first | rfl | exact True.intro | intro _ | refine And.intro ?_ ?_) | ((with_reducible first | refine hN _ ?_ | refine hX _ _ ?_ | refine hR _ ?_); (try (clear hG; clear Kg)); clear hN hX hR; clear Kv) | (with_reducible first | refine BdS (fun Kv hN hX hR => ?_) | refine Stop.mk ?_ | refine Join.mk ⟨fun Kv hN hX hR => ?_, ?_⟩ | refine DrawJ.each ?_ | exact SubJ.self _) | with_reducible refine SubJ.of ?_ | (with_reducible first | refine FlS (fun Kf hF => ?_) | refine FlN ?_ | refine NdS (fun Kg hG => ?_) | (refine hF _ _ ?_; clear hF; clear Kf) | (refine hG _ _ _ _ ?_; clear hG; clear Kg))))); all_goals (conv => whnf); all_goals (repeat ((try (clear hG; clear Kg)); clear hN hX hR; clear Kv))
                 all_goals first
                   | exact wrapI (by omega) (by omega)
                   | rfl)
              | (have hz := of_decide_eq_false (nf (show (!decide (l.getD i 0 = 0)) = true by with_reducible assumption))
                 rw [orL_take h0, hd, orL, if_neg hz]
                 done)
              | trace_state)
         | trace_state)
    | trace_state
def cutCmp (p q : GCut) : Int := orL [cmpI p.a q.a, cmpI p.b q.b]
theorem k_cutOrder : Known Tryz.prog tau 101 (S2 dCut dCut fun p q => .ok (.int .i64 (cutCmp p q)) []) := by
  refine known2 hmix tau_ok (ctx_cons k_cmpCompare (ctx_cons k_Or ctx_nil)) (fn := Tryz.f101) (by kernel_rfl) [(1, [(0, 0), (1, 1), (2, 0), (3, 4), (4, 10), (5, 0), (6, 32), (7, 0), (8, 128), (9, 336), (10, 528), (11, 1536), (12, 4095)])] (by kernel_rfl) _ _ _ fun p q hfit => ⟨rfl, [], ?_⟩
  clear hfit
  (repeat' (first | ((with_reducible refine BdI ?_); (first | ((with_reducible refine SqI ?_ (fun Kv hN hX hR => ?_)); (next => exact rfl)) | ((with_reducible refine JnI ?_ ?_); (next => exact rfl)) | (conv => whnf))) | (with_reducible first | refine BdS (fun Kv hN hX hR => ?_) | refine Stop.mk ?_ | refine Join.mk ⟨fun Kv hN hX hR => ?_, ?_⟩ | apply DrawJ.join | exact SubJ.self _) | ((with_reducible refine SubJ.of ?_); (repeat' (first | with_reducible rfl | ((conv => whnf) <;> (first | with_reducible exact True.intro | with_reducible refine And.intro ?_ ?_ | with_reducible rfl | ((conv => rhs; whnf) <;> with_reducible rfl))))); done) | (with_reducible first | refine FlS (fun Kf hF => ?_) | refine FlN ?_ | refine NdS (fun Kg hG => ?_) | (refine hF _ _ ?_; clear hF; clear Kf) | (refine hG _ _ _ _ ?_; clear hG; clear Kg)) | ((with_reducible refine SqI ?_ (fun Kv hN hX hR => ?_)); (next => exact rfl)) | ((with_reducible refine JnI ?_ ?_); (next => exact rfl)) | ((with_reducible first | refine hN _ ?_ | refine hX _ _ ?_ | refine hR _ ?_); (try (clear hG; clear Kg)); clear hN hX hR; clear Kv) | ((conv => whnf); first | (with_reducible first | rfl | exact True.intro | intro _ | refine And.intro ?_ ?_) | ((with_reducible first | refine hN _ ?_ | refine hX _ _ ?_ | refine hR _ ?_); (try (clear hG; clear Kg)); clear hN hX hR; clear Kv) | (with_reducible first | refine BdS (fun Kv hN hX hR => ?_) | refine Stop.mk ?_ | refine Join.mk ⟨fun Kv hN hX hR => ?_, ?_⟩ | apply DrawJ.join | exact SubJ.self _) | ((with_reducible refine SubJ.of ?_); (repeat' (first | with_reducible rfl | ((conv => whnf) <;> (first | with_reducible exact True.intro | with_reducible refine And.intro ?_ ?_ | with_reducible rfl | ((conv => rhs; whnf) <;> with_reducible rfl))))); done) | (with_reducible first | refine FlS (fun Kf hF => ?_) | refine FlN ?_ | refine NdS (fun Kg hG => ?_) | (refine hF _ _ ?_; clear hF; clear Kf) | (refine hG _ _ _ _ ?_; clear hG; clear Kg))))); all_goals (conv => whnf); all_goals (repeat ((try (clear hG; clear Kg)); clear hN hX hR; clear Kv))
  all_goals first
    | (refine Ob.mk ?_; decide)
    | rfl
    | trace_state
end Go.Proofs.YtmhieddhmebfhaaGreat

/- Contracts: worlds: their nodes, their cuts. -/
namespace Go.Proofs.YtmhieddhmebfhaaGreat
open Go.RowKit
set_option maxRecDepth 20000
/-- A world's place. -/
def dPWorld : Dec GWorld := ⟨fun x => match x with
  | .pt .any [.row .any (.nodes n), .row .any (.cuts c), .row .any (.msgs p)] => some ⟨n, c, p⟩
  | _ => none, fun w => .pt .any [.row .any (.nodes w.nodes), .row .any (.cuts w.cuts), .row .any (.msgs w.packets)], fun x a h => by
    split at h <;> simp at h; subst h; rfl⟩
/-- A function that has a world's place. -/
def dFnWorld (f : FuncId) : Dec GWorld := ⟨fun x => match x with
  | .clo g [] [.pt .any [.row .any (.nodes n), .row .any (.cuts c), .row .any (.msgs p)]] => match Nat.beq g f with
    | true => some ⟨n, c, p⟩
    | false => none
  | _ => none, fun w => .clo f [] [.pt .any [.row .any (.nodes w.nodes), .row .any (.cuts w.cuts), .row .any (.msgs w.packets)]], fun x a h => by
    split at h
    · split at h
      · rename_i hg; simp at h; subst h; rw [Nat.eq_of_beq_eq_true hg]
      · simp at h
    · simp at h⟩
theorem etaNd (x : GNode) : (⟨x.up, ⟨x.view.id, x.view.peers, x.view.passive⟩, x.items, x.log⟩ : GNode) = x := rfl
theorem k_wFind1 : Known Tryz.prog tau 107 (S2 dNode dInt fun n x => .ok (.int .i64 (cmpI n.view.id x)) []) := by
  refine known2 hmix tau_ok (ctx_cons k_cmpCompare ctx_nil) (fn := Tryz.f107) (by kernel_rfl) [] (by kernel_rfl) _ _ _ fun n x hfit => ⟨rfl, [], ?_⟩
  clear hfit
  (repeat' (first | ((with_reducible refine BdI ?_); (first | ((with_reducible refine SqI ?_ (fun Kv hN hX hR => ?_)); (next => exact rfl)) | ((with_reducible refine JnI ?_ ?_); (next => exact rfl)) | (conv => whnf))) | (with_reducible first | refine BdS (fun Kv hN hX hR => ?_) | refine Stop.mk ?_ | refine Join.mk ⟨fun Kv hN hX hR => ?_, ?_⟩ | refine DrawJ.each ?_ | exact SubJ.self _) | with_reducible refine SubJ.of ?_ | (with_reducible first | refine FlS (fun Kf hF => ?_) | refine FlN ?_ | refine NdS (fun Kg hG => ?_) | (refine hF _ _ ?_; clear hF; clear Kf) | (refine hG _ _ _ _ ?_; clear hG; clear Kg)) | ((with_reducible refine SqI ?_ (fun Kv hN hX hR => ?_)); (next => exact rfl)) | ((with_reducible refine JnI ?_ ?_); (next => exact rfl)) | ((with_reducible first | refine hN _ ?_ | refine hX _ _ ?_ | refine hR _ ?_); (try (clear hG; clear Kg)); clear hN hX hR; clear Kv) | ((conv => whnf); first | (with_reducible first | rfl | exact True.intro | intro _ | refine And.intro ?_ ?_) | ((with_reducible first | refine hN _ ?_ | refine hX _ _ ?_ | refine hR _ ?_); (try (clear hG; clear Kg)); clear hN hX hR; clear Kv) | (with_reducible first | refine BdS (fun Kv hN hX hR => ?_) | refine Stop.mk ?_ | refine Join.mk ⟨fun Kv hN hX hR => ?_, ?_⟩ | refine DrawJ.each ?_ | exact SubJ.self _) | with_reducible refine SubJ.of ?_ | (with_reducible first | refine FlS (fun Kf hF => ?_) | refine FlN ?_ | refine NdS (fun Kg hG => ?_) | (refine hF _ _ ?_; clear hF; clear Kf) | (refine hG _ _ _ _ ?_; clear hG; clear Kg))))); all_goals (conv => whnf); all_goals (repeat ((try (clear hG; clear Kg)); clear hN hX hR; clear Kv))
  all_goals first
    | rfl
    | trace_state
def RisingN (l : List GNode) : Prop := ∀ s t, s < t → t < l.length → (l.getD s default).view.id < (l.getD t default).view.id
theorem risingN_le {l : List GNode} (hs : RisingN l) {s t : Nat} (h : s ≤ t) (ht : t < l.length) : (l.getD s default).view.id ≤ (l.getD t default).view.id := by
  rcases Nat.lt_or_eq_of_le h with h | rfl
  · exact Int.le_of_lt (hs s t h ht)
  · exact Int.le_refl _
def cntNd (l : List GNode) (x : Int) : Int := ((l.countP fun n => decide (n.view.id < x) : Nat) : Int)
def isNd (l : List GNode) (x : Int) : Bool := l.any fun n => decide (n.view.id = x)
theorem k_searchN : Known Tryz.prog tau 106 (S3 dNodes dInt (dFn 107) fun l x _ => .ob (RisingN l) (.tup [.int .i64 (cntNd l x), .bool (isNd l x)]) []) := by
  refine known3 hmix tau_ok (ctx_cons k_wFind1 ctx_nil) (fn := Tryz.f106) (by kernel_rfl) [] (by kernel_rfl) _ _ _ _ fun l x _ hfit hs => ⟨rfl,
    [(3, invX (Nat × Nat) [9, 10, 11, 15, 16, 17, 18, 19, 20, 21, 22, 23, 24, 25, 26, 27, 28, 29, 30, 31, 32, 33, 34] [] (fun g => g.1 ≤ g.2 ∧ g.2 ≤ l.length ∧ (∀ t, t < g.1 → (l.getD t default).view.id < x) ∧ ∀ t, g.2 ≤ t → t < l.length → x ≤ (l.getD t default).view.id) (fun g => withS [(9, .int .i64 g.1), (10, .int .i64 g.2)]) (fun g => g.2 - g.1))], ?_⟩
  have hlen : l.length * 112 ≤ 140737488355328 := hfit.1.1
  clear hfit
  (repeat' (first | ((with_reducible refine BdI ?_); (first | ((with_reducible refine SqI ?_ (fun Kv hN hX hR => ?_)); (next => exact rfl)) | ((with_reducible refine JnI ?_ ?_); (next => exact rfl)) | (conv => whnf))) | (with_reducible first | refine BdS (fun Kv hN hX hR => ?_) | refine Stop.mk ?_ | refine Join.mk ⟨fun Kv hN hX hR => ?_, ?_⟩ | refine DrawJ.each ?_ | exact SubJ.self _) | with_reducible refine SubJ.of ?_ | (with_reducible first | refine FlS (fun Kf hF => ?_) | refine FlN ?_ | refine NdS (fun Kg hG => ?_) | (refine hF _ _ ?_; clear hF; clear Kf) | (refine hG _ _ _ _ ?_; clear hG; clear Kg)) | ((with_reducible refine SqI ?_ (fun Kv hN hX hR => ?_)); (next => exact rfl)) | ((with_reducible refine JnI ?_ ?_); (next => exact rfl)) | ((with_reducible first | refine hN _ ?_ | refine hX _ _ ?_ | refine hR _ ?_); (try (clear hG; clear Kg)); clear hN hX hR; clear Kv) | ((conv => whnf); first | (with_reducible first | rfl | exact True.intro | refine (fun (_ : (_ : Prop)) => ?_) | refine And.intro ?_ ?_) | ((with_reducible first | refine hN _ ?_ | refine hX _ _ ?_ | refine hR _ ?_); (try (clear hG; clear Kg)); clear hN hX hR; clear Kv) | (with_reducible first | refine BdS (fun Kv hN hX hR => ?_) | refine Stop.mk ?_ | refine Join.mk ⟨fun Kv hN hX hR => ?_, ?_⟩ | refine DrawJ.each ?_ | exact SubJ.self _) | with_reducible refine SubJ.of ?_ | (with_reducible first | refine FlS (fun Kf hF => ?_) | refine FlN ?_ | refine NdS (fun Kg hG => ?_) | (refine hF _ _ ?_; clear hF; clear Kf) | (refine hG _ _ _ _ ?_; clear hG; clear Kg))))); all_goals (conv => whnf); all_goals (repeat ((try (clear hG; clear Kg)); clear hN hX hR; clear Kv))
  all_goals first
    | (refine ⟨(0, l.length), ⟨Nat.zero_le _, Nat.le_refl _, by intros; omega, by intros; omega⟩, ?_⟩
       (repeat' (first | ((with_reducible refine BdI ?_); (first | ((with_reducible refine SqI ?_ (fun Kv hN hX hR => ?_)); (next => exact rfl)) | ((with_reducible refine JnI ?_ ?_); (next => exact rfl)) | (conv => whnf))) | (with_reducible first | refine BdS (fun Kv hN hX hR => ?_) | refine Stop.mk ?_ | refine Join.mk ⟨fun Kv hN hX hR => ?_, ?_⟩ | refine DrawJ.each ?_ | exact SubJ.self _) | with_reducible refine SubJ.of ?_ | (with_reducible first | refine FlS (fun Kf hF => ?_) | refine FlN ?_ | refine NdS (fun Kg hG => ?_) | (refine hF _ _ ?_; clear hF; clear Kf) | (refine hG _ _ _ _ ?_; clear hG; clear Kg)) | ((with_reducible refine SqI ?_ (fun Kv hN hX hR => ?_)); (next => exact rfl)) | ((with_reducible refine JnI ?_ ?_); (next => exact rfl)) | ((with_reducible first | refine hN _ ?_ | refine hX _ _ ?_ | refine hR _ ?_); (try (clear hG; clear Kg)); clear hN hX hR; clear Kv) | ((conv => whnf); first | (with_reducible first | rfl | exact True.intro | intro _ | refine And.intro ?_ ?_) | ((with_reducible first | refine hN _ ?_ | refine hX _ _ ?_ | refine hR _ ?_); (try (clear hG; clear Kg)); clear hN hX hR; clear Kv) | (with_reducible first | refine BdS (fun Kv hN hX hR => ?_) | refine Stop.mk ?_ | refine Join.mk ⟨fun Kv hN hX hR => ?_, ?_⟩ | refine DrawJ.each ?_ | exact SubJ.self _) | with_reducible refine SubJ.of ?_ | (with_reducible first | refine FlS (fun Kf hF => ?_) | refine FlN ?_ | refine NdS (fun Kg hG => ?_) | (refine hF _ _ ?_; clear hF; clear Kf) | (refine hG _ _ _ _ ?_; clear hG; clear Kg))))); all_goals (conv => whnf); all_goals (repeat ((try (clear hG; clear Kg)); clear hN hX hR; clear Kv))
       all_goals rfl)
    | (rintro ⟨i, j⟩ ⟨hij, hj, h1, h2⟩
       dsimp only at hij hj h1 h2
       (repeat' (first | ((with_reducible refine BdI ?_); (first | ((with_reducible refine SqI ?_ (fun Kv hN hX hR => ?_)); (next => exact rfl)) | ((with_reducible refine JnI ?_ ?_); (next => exact rfl)) | (conv => whnf))) | (with_reducible first | refine BdS (fun Kv hN hX hR => ?_) | refine Stop.mk ?_ | refine Join.mk ⟨fun Kv hN hX hR => ?_, ?_⟩ | refine DrawJ.each ?_ | exact SubJ.self _) | with_reducible refine SubJ.of ?_ | (with_reducible first | refine FlS (fun Kf hF => ?_) | refine FlN ?_ | refine NdS (fun Kg hG => ?_) | (refine hF _ _ ?_; clear hF; clear Kf) | (refine hG _ _ _ _ ?_; clear hG; clear Kg)) | ((with_reducible refine SqI ?_ (fun Kv hN hX hR => ?_)); (next => exact rfl)) | ((with_reducible refine JnI ?_ ?_); (next => exact rfl)) | ((with_reducible first | refine hN _ ?_ | refine hX _ _ ?_ | refine hR _ ?_); (try (clear hG; clear Kg)); clear hN hX hR; clear Kv) | ((conv => whnf); first | (with_reducible first | rfl | exact True.intro | intro _ | refine And.intro ?_ ?_) | ((with_reducible first | refine hN _ ?_ | refine hX _ _ ?_ | refine hR _ ?_); (try (clear hG; clear Kg)); clear hN hX hR; clear Kv) | (with_reducible first | refine BdS (fun Kv hN hX hR => ?_) | refine Stop.mk ?_ | refine Join.mk ⟨fun Kv hN hX hR => ?_, ?_⟩ | refine DrawJ.each ?_ | exact SubJ.self _) | with_reducible refine SubJ.of ?_ | (with_reducible first | refine FlS (fun Kf hF => ?_) | refine FlN ?_ | refine NdS (fun Kg hG => ?_) | (refine hF _ _ ?_; clear hF; clear Kf) | (refine hG _ _ _ _ ?_; clear hG; clear Kg))))); all_goals (conv => whnf); all_goals (repeat ((try (clear hG; clear Kg)); clear hN hX hR; clear Kv))
       all_goals (try dsimp only at *)
       all_goals (try simp only [cmpI_lt, cmpI_eq, etaNd] at *)
       all_goals first
         | (refine Ob.mk ?_; decide)
         | (have hlt := of_decide_eq_true (show decide ((i : Int) < (j : Int)) = true by with_reducible assumption)
            obtain ⟨h, eh, h3, h4⟩ := mid_ok (i := i) (j := j) (n := l.length) (by omega) hj (by omega)
            simp only [eh, Int.toNat_natCast] at *
            first
              | exact Ob.mk ⟨by omega, by omega⟩
              | (have hc := of_decide_eq_true (show decide ((l.getD h default).view.id < x) = true by with_reducible assumption)
                 refine ⟨(h + 1, j), ⟨by omega, hj, fun t ht => ?_, h2⟩, by show j - (h + 1) < j - i; omega, ?_⟩
                 · have := risingN_le hs (s := t) (t := h) (by omega) (by omega)
                   omega
                 · have e1 := wrap_up (h := h) (n := l.length) (by omega) (by omega)
                   (repeat' (first | ((with_reducible refine BdI ?_); (first | ((with_reducible refine SqI ?_ (fun Kv hN hX hR => ?_)); (next => exact rfl)) | ((with_reducible refine JnI ?_ ?_); (next => exact rfl)) | (conv => whnf))) | (with_reducible first | refine BdS (fun Kv hN hX hR => ?_) | refine Stop.mk ?_ | refine Join.mk ⟨fun Kv hN hX hR => ?_, ?_⟩ | refine DrawJ.each ?_ | exact SubJ.self _) | with_reducible refine SubJ.of ?_ | (with_reducible first | refine FlS (fun Kf hF => ?_) | refine FlN ?_ | refine NdS (fun Kg hG => ?_) | (refine hF _ _ ?_; clear hF; clear Kf) | (refine hG _ _ _ _ ?_; clear hG; clear Kg)) | ((with_reducible refine SqI ?_ (fun Kv hN hX hR => ?_)); (next => exact rfl)) | ((with_reducible refine JnI ?_ ?_); (next => exact rfl)) | ((with_reducible first | refine hN _ ?_ | refine hX _ _ ?_ | refine hR _ ?_); (try (clear hG; clear Kg)); clear hN hX hR; clear Kv) | ((conv => whnf); first | (with_reducible first | rfl | exact True.intro | intro _ | refine And.intro ?_ ?_) | ((with_reducible first | refine hN _ ?_ | refine hX _ _ ?_ | refine hR _ ?_); (try (clear hG; clear Kg)); clear hN hX hR; clear Kv) | (with_reducible first | refine BdS (fun Kv hN hX hR => ?_) | refine Stop.mk ?_ | refine Join.mk ⟨fun Kv hN hX hR => ?_, ?_⟩ | refine DrawJ.each ?_ | exact SubJ.self _) | with_reducible refine SubJ.of ?_ | (with_reducible first | refine FlS (fun Kf hF => ?_) | refine FlN ?_ | refine NdS (fun Kg hG => ?_) | (refine hF _ _ ?_; clear hF; clear Kf) | (refine hG _ _ _ _ ?_; clear hG; clear Kg))))); all_goals (conv => whnf); all_goals (repeat ((try (clear hG; clear Kg)); clear hN hX hR; clear Kv))
                   all_goals first
                     | exact e1
                     | rfl)
              | (have hc := of_decide_eq_false (show decide ((l.getD h default).view.id < x) = false by with_reducible assumption)
                 refine ⟨(i, h), ⟨by omega, by omega, h1, fun t ht ht2 => ?_⟩, by show h - i < j - i; omega, ?_⟩
                 · have := risingN_le hs (s := h) (t := t) ht ht2
                   omega
                 · (repeat' (first | ((with_reducible refine BdI ?_); (first | ((with_reducible refine SqI ?_ (fun Kv hN hX hR => ?_)); (next => exact rfl)) | ((with_reducible refine JnI ?_ ?_); (next => exact rfl)) | (conv => whnf))) | (with_reducible first | refine BdS (fun Kv hN hX hR => ?_) | refine Stop.mk ?_ | refine Join.mk ⟨fun Kv hN hX hR => ?_, ?_⟩ | refine DrawJ.each ?_ | exact SubJ.self _) | with_reducible refine SubJ.of ?_ | (with_reducible first | refine FlS (fun Kf hF => ?_) | refine FlN ?_ | refine NdS (fun Kg hG => ?_) | (refine hF _ _ ?_; clear hF; clear Kf) | (refine hG _ _ _ _ ?_; clear hG; clear Kg)) | ((with_reducible refine SqI ?_ (fun Kv hN hX hR => ?_)); (next => exact rfl)) | ((with_reducible refine JnI ?_ ?_); (next => exact rfl)) | ((with_reducible first | refine hN _ ?_ | refine hX _ _ ?_ | refine hR _ ?_); (try (clear hG; clear Kg)); clear hN hX hR; clear Kv) | ((conv => whnf); first | (with_reducible first | rfl | exact True.intro | intro _ | refine And.intro ?_ ?_) | ((with_reducible first | refine hN _ ?_ | refine hX _ _ ?_ | refine hR _ ?_); (try (clear hG; clear Kg)); clear hN hX hR; clear Kv) | (with_reducible first | refine BdS (fun Kv hN hX hR => ?_) | refine Stop.mk ?_ | refine Join.mk ⟨fun Kv hN hX hR => ?_, ?_⟩ | refine DrawJ.each ?_ | exact SubJ.self _) | with_reducible refine SubJ.of ?_ | (with_reducible first | refine FlS (fun Kf hF => ?_) | refine FlN ?_ | refine NdS (fun Kg hG => ?_) | (refine hF _ _ ?_; clear hF; clear Kf) | (refine hG _ _ _ _ ?_; clear hG; clear Kg))))); all_goals (conv => whnf); all_goals (repeat ((try (clear hG; clear Kg)); clear hN hX hR; clear Kv))
                   all_goals rfl))
         | (have hge := of_decide_eq_false (show decide ((i : Int) < (j : Int)) = false by with_reducible assumption)
            obtain rfl : i = j := by omega
            have e1 : cntNd l x = (i : Int) := congrArg Int.ofNat (search_end (d := default) (κ := fun p : GNode => p.view.id) (K := x) hj h1 h2)
            have e2 : isNd l x = (decide (i < l.length) && decide ((l.getD i default).view.id = x)) := search_there (d := default) (κ := fun p : GNode => p.view.id) hs h1 h2
            (try simp only [Int.toNat_natCast] at *)
            first
              | exact Ob.mk ⟨by omega, of_decide_eq_true (by with_reducible assumption)⟩
              | exact e1.symm
              | (have a1 := of_decide_eq_true (show decide ((i : Int) < (l.length : Nat)) = true by with_reducible assumption)
                 rw [e2, decide_eq_true (show i < l.length by omega), Bool.true_and]
                 done)
              | (have a2 := of_decide_eq_true (show decide ((l.getD i default).view.id = x) = true by with_reducible assumption)
                 have a1 := of_decide_eq_true (show decide ((i : Int) < (l.length : Nat)) = true by with_reducible assumption)
                 rw [e2, decide_eq_true a2, decide_eq_true (show i < l.length by omega)]
                 rfl)
              | (have a2 := of_decide_eq_false (show decide ((l.getD i default).view.id = x) = false by with_reducible assumption)
                 rw [e2, decide_eq_false a2, Bool.and_false])
              | (have a1 := of_decide_eq_false (show decide ((i : Int) < (l.length : Nat)) = false by with_reducible assumption)
                 rw [e2, decide_eq_false (show ¬ i < l.length by omega), Bool.false_and]))
         | trace_state)
    | trace_state
theorem k_wFind : Known Tryz.prog tau 68 (S2 dPWorld dInt fun w x => .ob (RisingN w.nodes) (.tup [.int .i64 (cntNd w.nodes x), .bool (isNd w.nodes x)]) []) := by
  refine known2 hmix tau_ok (ctx_cons k_searchN ctx_nil) (fn := Tryz.f68) (by kernel_rfl) [] (by kernel_rfl) _ _ _ fun w x hfit hs => ⟨rfl, [], ?_⟩
  clear hfit
  (repeat' (first | ((with_reducible refine BdI ?_); (first | ((with_reducible refine SqI ?_ (fun Kv hN hX hR => ?_)); (next => exact rfl)) | ((with_reducible refine JnI ?_ ?_); (next => exact rfl)) | (conv => whnf))) | (with_reducible first | refine BdS (fun Kv hN hX hR => ?_) | refine Stop.mk ?_ | refine Join.mk ⟨fun Kv hN hX hR => ?_, ?_⟩ | refine DrawJ.each ?_ | exact SubJ.self _) | with_reducible refine SubJ.of ?_ | (with_reducible first | refine FlS (fun Kf hF => ?_) | refine FlN ?_ | refine NdS (fun Kg hG => ?_) | (refine hF _ _ ?_; clear hF; clear Kf) | (refine hG _ _ _ _ ?_; clear hG; clear Kg)) | ((with_reducible refine SqI ?_ (fun Kv hN hX hR => ?_)); (next => exact rfl)) | ((with_reducible refine JnI ?_ ?_); (next => exact rfl)) | ((with_reducible first | refine hN _ ?_ | refine hX _ _ ?_ | refine hR _ ?_); (try (clear hG; clear Kg)); clear hN hX hR; clear Kv) | ((conv => whnf); first | (with_reducible first | rfl | exact True.intro | intro _ | refine And.intro ?_ ?_) | ((with_reducible first | refine hN _ ?_ | refine hX _ _ ?_ | refine hR _ ?_); (try (clear hG; clear Kg)); clear hN hX hR; clear Kv) | (with_reducible first | refine BdS (fun Kv hN hX hR => ?_) | refine Stop.mk ?_ | refine Join.mk ⟨fun Kv hN hX hR => ?_, ?_⟩ | refine DrawJ.each ?_ | exact SubJ.self _) | with_reducible refine SubJ.of ?_ | (with_reducible first | refine FlS (fun Kf hF => ?_) | refine FlN ?_ | refine NdS (fun Kg hG => ?_) | (refine hF _ _ ?_; clear hF; clear Kf) | (refine hG _ _ _ _ ?_; clear hG; clear Kg))))); all_goals (conv => whnf); all_goals (repeat ((try (clear hG; clear Kg)); clear hN hX hR; clear Kv))
  all_goals first
    | exact Ob.mk hs
    | rfl
    | trace_state
/-- May nodes be? -/
def nodesB (l : List GNode) : Bool := decide (1 ≤ l.length) && (decide (l.length ≤ 8) && (decide (l.Pairwise fun p q => p.view.id < q.view.id) && l.all nodeB))
theorem etaNg {l : List GNode} {i : Nat} (h : i < l.length) : l.getD i default = l[i] := by simp [List.getD_eq_getElem?_getD, h]
theorem risingN_iff {l : List GNode} : RisingN l ↔ l.Pairwise fun p q => p.view.id < q.view.id := by
  rw [List.pairwise_iff_getElem]
  constructor
  · intro h i j hi hj hij
    have := h i j hij hj
    rwa [etaNg hi, etaNg hj] at this
  · intro h i j hij hj
    rw [etaNg (show i < l.length by omega), etaNg hj]
    exact h i j (by omega) hj hij
theorem nodesB_iff {l : List GNode} : nodesB l = true ↔ 1 ≤ l.length ∧ l.length ≤ 8 ∧ RisingN l ∧ ∀ p ∈ l, nodeB p = true := by
  simp only [nodesB, Bool.and_eq_true, decide_eq_true_eq, risingN_iff, List.all_eq_true]
theorem nodesB_no {l : List GNode} (h : ¬ (1 ≤ l.length ∧ l.length ≤ 8 ∧ RisingN l ∧ ∀ p ∈ l, nodeB p = true)) : nodesB l = false := by
  rw [← nodesB_iff] at h
  simpa using h
theorem risingN_adj {l : List GNode} (h : ∀ t, t + 1 < l.length → (l.getD t default).view.id < (l.getD (t + 1) default).view.id) : RisingN l := by
  intro s t
  induction t with
  | zero => intro h1; omega
  | succ t ih =>
    intro h1 h2
    have := h t h2
    rcases Nat.lt_or_eq_of_le (Nat.le_of_lt_succ h1) with h3 | rfl
    · have := ih h3 (by omega)
      omega
    · exact this
set_option maxHeartbeats 4000000 in
theorem k_nodes : Known Tryz.prog tau 62 (S1 dNodes fun l => okB (nodesB l)) := by
  refine known1 hmix tau_ok (ctx_cons k_nodeMay ctx_nil) (fn := Tryz.f62) (by kernel_rfl) [(4, [(0, 0), (1, 1), (2, 2), (3, 6), (4, 8), (5, 24), (6, 40), (7, 64), (8, 64), (9, 320), (10, 704), (11, 1088), (12, 2112), (13, 4160), (14, 64), (15, 16448), (16, 32832), (17, 73792), (18, 131144), (19, 262152)])] (by kernel_rfl) _ _ fun xs hfit => ⟨rfl,
    [(2, invN (2 :: 3 :: 4 :: 7 :: 8 :: 9 :: 10 :: 11 :: 12 :: 13 :: 14 :: 15 :: 16 :: 17 :: 18 :: 19 :: 20 :: 21 :: 22 :: 23 :: 24 :: 25 :: 26 :: 27 :: 28 :: 29 :: 30 :: 31 :: 32 :: []) (fun i => i ≤ xs.length ∧ (∀ x ∈ xs.take i, nodeB x = true) ∧ ∀ t, t + 1 < i → (xs.getD t default).view.id < (xs.getD (t + 1) default).view.id) (fun i => withS [(7, .int .i64 i)]) (fun i => xs.length - i))], ?_⟩
  have hlen : xs.length * 112 ≤ 140737488355328 := hfit.1.1
  clear hfit
  (repeat' (first | ((with_reducible refine BdI ?_); (first | ((with_reducible refine SqI ?_ (fun Kv hN hX hR => ?_)); (next => exact rfl)) | ((with_reducible refine JnI ?_ ?_); (next => exact rfl)) | (conv => whnf))) | (with_reducible first | refine BdS (fun Kv hN hX hR => ?_) | refine Stop.mk ?_ | refine Join.mk ⟨fun Kv hN hX hR => ?_, ?_⟩ | refine DrawJ.each ?_ | exact SubJ.self _) | with_reducible refine SubJ.of ?_ | (with_reducible first | refine FlS (fun Kf hF => ?_) | refine FlN ?_ | refine NdS (fun Kg hG => ?_) | (refine hF _ _ ?_; clear hF; clear Kf) | (refine hG _ _ _ _ ?_; clear hG; clear Kg)) | ((with_reducible refine SqI ?_ (fun Kv hN hX hR => ?_)); (next => exact rfl)) | ((with_reducible refine JnI ?_ ?_); (next => exact rfl)) | ((with_reducible first | refine hN _ ?_ | refine hX _ _ ?_ | refine hR _ ?_); (try (clear hG; clear Kg)); clear hN hX hR; clear Kv) | ((conv => whnf); first | (with_reducible first | rfl | exact True.intro | refine (fun (_ : (_ : Prop)) => ?_) | refine And.intro ?_ ?_) | ((with_reducible first | refine hN _ ?_ | refine hX _ _ ?_ | refine hR _ ?_); (try (clear hG; clear Kg)); clear hN hX hR; clear Kv) | (with_reducible first | refine BdS (fun Kv hN hX hR => ?_) | refine Stop.mk ?_ | refine Join.mk ⟨fun Kv hN hX hR => ?_, ?_⟩ | refine DrawJ.each ?_ | exact SubJ.self _) | with_reducible refine SubJ.of ?_ | (with_reducible first | refine FlS (fun Kf hF => ?_) | refine FlN ?_ | refine NdS (fun Kg hG => ?_) | (refine hF _ _ ?_; clear hF; clear Kf) | (refine hG _ _ _ _ ?_; clear hG; clear Kg))))); all_goals (conv => whnf); all_goals (repeat ((try (clear hG; clear Kg)); clear hN hX hR; clear Kv))
  all_goals first
    | (refine ⟨0, ⟨by omega, by simp, by intros; omega⟩, ?_⟩
       (repeat' (first | ((with_reducible refine BdI ?_); (first | ((with_reducible refine SqI ?_ (fun Kv hN hX hR => ?_)); (next => exact rfl)) | ((with_reducible refine JnI ?_ ?_); (next => exact rfl)) | (conv => whnf))) | (with_reducible first | refine BdS (fun Kv hN hX hR => ?_) | refine Stop.mk ?_ | refine Join.mk ⟨fun Kv hN hX hR => ?_, ?_⟩ | refine DrawJ.each ?_ | exact SubJ.self _) | with_reducible refine SubJ.of ?_ | (with_reducible first | refine FlS (fun Kf hF => ?_) | refine FlN ?_ | refine NdS (fun Kg hG => ?_) | (refine hF _ _ ?_; clear hF; clear Kf) | (refine hG _ _ _ _ ?_; clear hG; clear Kg)) | ((with_reducible refine SqI ?_ (fun Kv hN hX hR => ?_)); (next => exact rfl)) | ((with_reducible refine JnI ?_ ?_); (next => exact rfl)) | ((with_reducible first | refine hN _ ?_ | refine hX _ _ ?_ | refine hR _ ?_); (try (clear hG; clear Kg)); clear hN hX hR; clear Kv) | ((conv => whnf); first | (with_reducible first | rfl | exact True.intro | intro _ | refine And.intro ?_ ?_) | ((with_reducible first | refine hN _ ?_ | refine hX _ _ ?_ | refine hR _ ?_); (try (clear hG; clear Kg)); clear hN hX hR; clear Kv) | (with_reducible first | refine BdS (fun Kv hN hX hR => ?_) | refine Stop.mk ?_ | refine Join.mk ⟨fun Kv hN hX hR => ?_, ?_⟩ | refine DrawJ.each ?_ | exact SubJ.self _) | with_reducible refine SubJ.of ?_ | (with_reducible first | refine FlS (fun Kf hF => ?_) | refine FlN ?_ | refine NdS (fun Kg hG => ?_) | (refine hF _ _ ?_; clear hF; clear Kf) | (refine hG _ _ _ _ ?_; clear hG; clear Kg))))); all_goals (conv => whnf); all_goals (repeat ((try (clear hG; clear Kg)); clear hN hX hR; clear Kv))
       all_goals rfl)
    | (with_reducible intro i hi
       (repeat' (first | ((with_reducible refine BdI ?_); (first | ((with_reducible refine SqI ?_ (fun Kv hN hX hR => ?_)); (next => exact rfl)) | ((with_reducible refine JnI ?_ ?_); (next => exact rfl)) | (conv => whnf))) | (with_reducible first | refine BdS (fun Kv hN hX hR => ?_) | refine Stop.mk ?_ | refine Join.mk ⟨fun Kv hN hX hR => ?_, ?_⟩ | refine DrawJ.each ?_ | exact SubJ.self _) | with_reducible refine SubJ.of ?_ | (with_reducible first | refine FlS (fun Kf hF => ?_) | refine FlN ?_ | refine NdS (fun Kg hG => ?_) | (refine hF _ _ ?_; clear hF; clear Kf) | (refine hG _ _ _ _ ?_; clear hG; clear Kg)) | ((with_reducible refine SqI ?_ (fun Kv hN hX hR => ?_)); (next => exact rfl)) | ((with_reducible refine JnI ?_ ?_); (next => exact rfl)) | ((with_reducible first | refine hN _ ?_ | refine hX _ _ ?_ | refine hR _ ?_); (try (clear hG; clear Kg)); clear hN hX hR; clear Kv) | ((conv => whnf); first | (with_reducible first | rfl | exact True.intro | intro _ | refine And.intro ?_ ?_) | ((with_reducible first | refine hN _ ?_ | refine hX _ _ ?_ | refine hR _ ?_); (try (clear hG; clear Kg)); clear hN hX hR; clear Kv) | (with_reducible first | refine BdS (fun Kv hN hX hR => ?_) | refine Stop.mk ?_ | refine Join.mk ⟨fun Kv hN hX hR => ?_, ?_⟩ | refine DrawJ.each ?_ | exact SubJ.self _) | with_reducible refine SubJ.of ?_ | (with_reducible first | refine FlS (fun Kf hF => ?_) | refine FlN ?_ | refine NdS (fun Kg hG => ?_) | (refine hF _ _ ?_; clear hF; clear Kf) | (refine hG _ _ _ _ ?_; clear hG; clear Kg))))); all_goals (conv => whnf); all_goals (repeat ((try (clear hG; clear Kg)); clear hN hX hR; clear Kv))
       all_goals (try simp only [Int.toNat_natCast, etaNd] at *)
       all_goals first
         | exact Ob.mk ⟨by omega, of_decide_eq_true (by with_reducible assumption)⟩
         | (have h := of_decide_eq_true (show decide ((i : Int) < (xs.length : Nat)) = true by with_reducible assumption)
            first
              | (have h0 := of_decide_eq_true (show decide (0 < (i : Int)) = true by with_reducible assumption)
                 have hb := back1 (i := i) (by omega) (by omega)
                 exact Ob.mk (by rw [hb.2]; omega))
              | (have hm := nf (show (!nodeB (xs.getD i default)) = true by with_reducible assumption)
                 refine (nodesB_no ?_).symm
                 rintro ⟨_, _, _, h3⟩
                 have := h3 _ (getD_mem (l := xs) (i := i) (d := default) (by omega))
                 rw [this] at hm
                 simp at hm)
              | (have h0 := of_decide_eq_true (show decide (0 < (i : Int)) = true by with_reducible assumption)
                 have hb := back1 (i := i) (by omega) (by omega)
                 have hm := of_decide_eq_true (show decide ((xs.getD i default).view.id ≤ (xs.getD (IntKind.i64.wrap ((i : Int) - 1)).toNat default).view.id) = true by with_reducible assumption)
                 rw [hb.1] at hm
                 refine (nodesB_no ?_).symm
                 rintro ⟨_, _, h2, _⟩
                 have := h2 (i - 1) i (by omega) (by omega)
                 omega)
              | (have hp := nt (show (!nodeB (xs.getD i default)) = false by with_reducible assumption)
                 refine ⟨i + 1, ⟨by omega, all_take_succ (d := default) (by omega) hi.2.1 hp, fun t ht => ?_⟩, by show xs.length - (i + 1) < xs.length - i; omega, ?_⟩
                 · rcases Nat.lt_or_eq_of_le (Nat.le_of_lt_succ ht) with h3 | h3
                   · exact hi.2.2 t h3
                   · first
                       | (have h0 := of_decide_eq_false (show decide (0 < (i : Int)) = false by with_reducible assumption)
                          omega)
                       | (have hb := back1 (i := i) (by omega) (by omega)
                          have hm := of_decide_eq_false (show decide ((xs.getD i default).view.id ≤ (xs.getD (IntKind.i64.wrap ((i : Int) - 1)).toNat default).view.id) = false by with_reducible assumption)
                          rw [hb.1] at hm
                          rw [show t = i - 1 by omega, show i - 1 + 1 = i by omega]
                          omega)
                 · (repeat' (first | ((with_reducible refine BdI ?_); (first | ((with_reducible refine SqI ?_ (fun Kv hN hX hR => ?_)); (next => exact rfl)) | ((with_reducible refine JnI ?_ ?_); (next => exact rfl)) | (conv => whnf))) | (with_reducible first | refine BdS (fun Kv hN hX hR => ?_) | refine Stop.mk ?_ | refine Join.mk ⟨fun Kv hN hX hR => ?_, ?_⟩ | refine DrawJ.each ?_ | exact SubJ.self _) | with_reducible refine SubJ.of ?_ | (with_reducible first | refine FlS (fun Kf hF => ?_) | refine FlN ?_ | refine NdS (fun Kg hG => ?_) | (refine hF _ _ ?_; clear hF; clear Kf) | (refine hG _ _ _ _ ?_; clear hG; clear Kg)) | ((with_reducible refine SqI ?_ (fun Kv hN hX hR => ?_)); (next => exact rfl)) | ((with_reducible refine JnI ?_ ?_); (next => exact rfl)) | ((with_reducible first | refine hN _ ?_ | refine hX _ _ ?_ | refine hR _ ?_); (try (clear hG; clear Kg)); clear hN hX hR; clear Kv) | ((conv => whnf); first | (with_reducible first | rfl | exact True.intro | intro _ | refine And.intro ?_ ?_) | ((with_reducible first | refine hN _ ?_ | refine hX _ _ ?_ | refine hR _ ?_); (try (clear hG; clear Kg)); clear hN hX hR; clear Kv) | (with_reducible first | refine BdS (fun Kv hN hX hR => ?_) | refine Stop.mk ?_ | refine Join.mk ⟨fun Kv hN hX hR => ?_, ?_⟩ | refine DrawJ.each ?_ | exact SubJ.self _) | with_reducible refine SubJ.of ?_ | (with_reducible first | refine FlS (fun Kf hF => ?_) | refine FlN ?_ | refine NdS (fun Kg hG => ?_) | (refine hF _ _ ?_; clear hF; clear Kf) | (refine hG _ _ _ _ ?_; clear hG; clear Kg))))); all_goals (conv => whnf); all_goals (repeat ((try (clear hG; clear Kg)); clear hN hX hR; clear Kv))
                   all_goals first
                     | exact wrapI (by omega) (by omega)
                     | rfl))
         | (have h := of_decide_eq_false (show decide ((i : Int) < (xs.length : Nat)) = false by with_reducible assumption)
            obtain rfl : i = xs.length := by omega
            have h2 := hi.2.1
            rw [List.take_of_length_le (Nat.le_refl _)] at h2
            have h3 := risingN_adj hi.2.2
            first
              | (have h1 := of_decide_eq_false (show decide ((1 : Int) ≤ (xs.length : Nat)) = false by with_reducible assumption)
                 exact (nodesB_no fun h => by have := h.1; omega).symm)
              | (have h1 := of_decide_eq_true (show decide ((1 : Int) ≤ (xs.length : Nat)) = true by with_reducible assumption)
                 by_cases h4 : xs.length ≤ 8
                 · rw [nodesB_iff.2 ⟨by omega, h4, h3, h2⟩]
                   exact decide_eq_true (by omega)
                 · rw [nodesB_no (fun h => h4 h.2.1)]
                   exact decide_eq_false (by omega)))
         | trace_state)
    | trace_state
def cutLt (p q : GCut) : Prop := p.a < q.a ∨ (p.a = q.a ∧ p.b < q.b)
instance (p q : GCut) : Decidable (cutLt p q) := by unfold cutLt; exact inferInstance
def cutB (c : GCut) : Bool := placeB c.a && (placeB c.b && decide (c.a < c.b))
def cutsB (l : List GCut) : Bool := decide (l.length ≤ 32) && (decide (l.Pairwise cutLt) && l.all cutB)
theorem cmpI_one (a b : Int) : (a < b ∧ cmpI a b = -1) ∨ (a = b ∧ cmpI a b = 0) ∨ (b < a ∧ cmpI a b = 1) := by
  unfold cmpI
  split
  · exact .inl ⟨by assumption, rfl⟩
  · split
    · exact .inr (.inr ⟨by omega, rfl⟩)
    · exact .inr (.inl ⟨by omega, rfl⟩)
theorem cutCmp_lt {p q : GCut} : cutCmp p q < 0 ↔ cutLt p q := by
  unfold cutCmp cutLt orL orL orL
  rcases cmpI_one p.a q.a with ⟨h, e⟩ | ⟨h, e⟩ | ⟨h, e⟩ <;> rcases cmpI_one p.b q.b with ⟨h', e'⟩ | ⟨h', e'⟩ | ⟨h', e'⟩ <;> rw [e, e'] <;> simp <;> omega
def RisingCt (l : List GCut) : Prop := ∀ s t, s < t → t < l.length → cutLt (l.getD s default) (l.getD t default)
theorem etaCg {l : List GCut} {i : Nat} (h : i < l.length) : l.getD i default = l[i] := by simp [List.getD_eq_getElem?_getD, h]
theorem etaCut (c : GCut) : (⟨c.a, c.b⟩ : GCut) = c := rfl
theorem risingCt_iff {l : List GCut} : RisingCt l ↔ l.Pairwise cutLt := by
  rw [List.pairwise_iff_getElem]
  constructor
  · intro h i j hi hj hij
    have := h i j hij hj
    rwa [etaCg hi, etaCg hj] at this
  · intro h i j hij hj
    rw [etaCg (show i < l.length by omega), etaCg hj]
    exact h i j (by omega) hj hij
theorem cutsB_iff {l : List GCut} : cutsB l = true ↔ l.length ≤ 32 ∧ RisingCt l ∧ ∀ p ∈ l, cutB p = true := by
  simp only [cutsB, Bool.and_eq_true, decide_eq_true_eq, risingCt_iff, List.all_eq_true]
theorem cutsB_no {l : List GCut} (h : ¬ (l.length ≤ 32 ∧ RisingCt l ∧ ∀ p ∈ l, cutB p = true)) : cutsB l = false := by
  rw [← cutsB_iff] at h
  simpa using h
theorem cutLt_trans {p q r : GCut} (h : cutLt p q) (h2 : cutLt q r) : cutLt p r := by
  unfold cutLt at *
  omega
theorem risingCt_adj {l : List GCut} (h : ∀ t, t + 1 < l.length → cutLt (l.getD t default) (l.getD (t + 1) default)) : RisingCt l := by
  intro s t
  induction t with
  | zero => intro h1; omega
  | succ t ih =>
    intro h1 h2
    have := h t h2
    rcases Nat.lt_or_eq_of_le (Nat.le_of_lt_succ h1) with h3 | rfl
    · exact cutLt_trans (ih h3 (by omega)) this
    · exact this
set_option maxHeartbeats 8000000 in
theorem k_cutsMay : Known Tryz.prog tau 63 (S1 dCuts fun l => okB (cutsB l)) := by
  refine known1 hmix tau_ok (ctx_cons k_Place (ctx_cons k_cutOrder ctx_nil)) (fn := Tryz.f63) (by kernel_rfl) [(4, ((0, 0) :: (1, 1) :: (2, 2) :: (3, 4) :: (4, 12) :: (5, 16) :: (6, 48) :: (7, 80) :: (8, 144) :: (9, 272) :: (10, 640) :: (11, 1024) :: (12, 3072) :: (13, 1024) :: (14, 9216) :: (15, 21504) :: (16, 33792) :: (17, 66560) :: (18, 131072) :: (19, 393216) :: (20, 655360) :: (21, 1048576) :: (22, 1048576) :: (23, 5242880) :: (24, 11534336) :: (25, 17825792) :: (26, 1048576) :: (27, 101711872) :: (28, 135266304) :: (29, 269615104) :: (30, 537001984) :: []))] (by kernel_rfl) _ _ fun xs hfit => ⟨rfl,
    [(2, invN (2 :: 3 :: 4 :: 7 :: 8 :: 9 :: 10 :: 11 :: 12 :: 13 :: 14 :: 15 :: 16 :: 17 :: 18 :: 19 :: 20 :: 21 :: 22 :: 23 :: 24 :: 25 :: 26 :: 27 :: 28 :: 29 :: 30 :: 31 :: 32 :: 33 :: 34 :: 35 :: 36 :: 37 :: 38 :: 39 :: 40 :: 41 :: 42 :: 43 :: []) (fun i => i ≤ xs.length ∧ (∀ x ∈ xs.take i, cutB x = true) ∧ ∀ t, t + 1 < i → cutLt (xs.getD t default) (xs.getD (t + 1) default)) (fun i => withS [(7, .int .i64 i)]) (fun i => xs.length - i))], ?_⟩
  have hlen : xs.length * 16 ≤ 140737488355328 := hfit.1
  clear hfit
  (repeat' (first | ((with_reducible refine BdI ?_); (first | ((with_reducible refine SqI ?_ (fun Kv hN hX hR => ?_)); (next => exact rfl)) | ((with_reducible refine JnI ?_ ?_); (next => exact rfl)) | (conv => whnf))) | (with_reducible first | refine BdS (fun Kv hN hX hR => ?_) | refine Stop.mk ?_ | refine Join.mk ⟨fun Kv hN hX hR => ?_, ?_⟩ | refine DrawJ.each ?_ | exact SubJ.self _) | with_reducible refine SubJ.of ?_ | (with_reducible first | refine FlS (fun Kf hF => ?_) | refine FlN ?_ | refine NdS (fun Kg hG => ?_) | (refine hF _ _ ?_; clear hF; clear Kf) | (refine hG _ _ _ _ ?_; clear hG; clear Kg)) | ((with_reducible refine SqI ?_ (fun Kv hN hX hR => ?_)); (next => exact rfl)) | ((with_reducible refine JnI ?_ ?_); (next => exact rfl)) | ((with_reducible first | refine hN _ ?_ | refine hX _ _ ?_ | refine hR _ ?_); (try (clear hG; clear Kg)); clear hN hX hR; clear Kv) | ((conv => whnf); first | (with_reducible first | rfl | exact True.intro | refine (fun (_ : (_ : Prop)) => ?_) | refine And.intro ?_ ?_) | ((with_reducible first | refine hN _ ?_ | refine hX _ _ ?_ | refine hR _ ?_); (try (clear hG; clear Kg)); clear hN hX hR; clear Kv) | (with_reducible first | refine BdS (fun Kv hN hX hR => ?_) | refine Stop.mk ?_ | refine Join.mk ⟨fun Kv hN hX hR => ?_, ?_⟩ | refine DrawJ.each ?_ | exact SubJ.self _) | with_reducible refine SubJ.of ?_ | (with_reducible first | refine FlS (fun Kf hF => ?_) | refine FlN ?_ | refine NdS (fun Kg hG => ?_) | (refine hF _ _ ?_; clear hF; clear Kf) | (refine hG _ _ _ _ ?_; clear hG; clear Kg))))); all_goals (conv => whnf); all_goals (repeat ((try (clear hG; clear Kg)); clear hN hX hR; clear Kv))
  all_goals first
    | (refine ⟨0, ⟨by omega, by simp, by intros; omega⟩, ?_⟩
       (repeat' (first | ((with_reducible refine BdI ?_); (first | ((with_reducible refine SqI ?_ (fun Kv hN hX hR => ?_)); (next => exact rfl)) | ((with_reducible refine JnI ?_ ?_); (next => exact rfl)) | (conv => whnf))) | (with_reducible first | refine BdS (fun Kv hN hX hR => ?_) | refine Stop.mk ?_ | refine Join.mk ⟨fun Kv hN hX hR => ?_, ?_⟩ | refine DrawJ.each ?_ | exact SubJ.self _) | with_reducible refine SubJ.of ?_ | (with_reducible first | refine FlS (fun Kf hF => ?_) | refine FlN ?_ | refine NdS (fun Kg hG => ?_) | (refine hF _ _ ?_; clear hF; clear Kf) | (refine hG _ _ _ _ ?_; clear hG; clear Kg)) | ((with_reducible refine SqI ?_ (fun Kv hN hX hR => ?_)); (next => exact rfl)) | ((with_reducible refine JnI ?_ ?_); (next => exact rfl)) | ((with_reducible first | refine hN _ ?_ | refine hX _ _ ?_ | refine hR _ ?_); (try (clear hG; clear Kg)); clear hN hX hR; clear Kv) | ((conv => whnf); first | (with_reducible first | rfl | exact True.intro | intro _ | refine And.intro ?_ ?_) | ((with_reducible first | refine hN _ ?_ | refine hX _ _ ?_ | refine hR _ ?_); (try (clear hG; clear Kg)); clear hN hX hR; clear Kv) | (with_reducible first | refine BdS (fun Kv hN hX hR => ?_) | refine Stop.mk ?_ | refine Join.mk ⟨fun Kv hN hX hR => ?_, ?_⟩ | refine DrawJ.each ?_ | exact SubJ.self _) | with_reducible refine SubJ.of ?_ | (with_reducible first | refine FlS (fun Kf hF => ?_) | refine FlN ?_ | refine NdS (fun Kg hG => ?_) | (refine hF _ _ ?_; clear hF; clear Kf) | (refine hG _ _ _ _ ?_; clear hG; clear Kg))))); all_goals (conv => whnf); all_goals (repeat ((try (clear hG; clear Kg)); clear hN hX hR; clear Kv))
       all_goals rfl)
    | (with_reducible intro i hi
       (repeat' (first | ((with_reducible refine BdI ?_); (first | ((with_reducible refine SqI ?_ (fun Kv hN hX hR => ?_)); (next => exact rfl)) | ((with_reducible refine JnI ?_ ?_); (next => exact rfl)) | (conv => whnf))) | (with_reducible first | refine BdS (fun Kv hN hX hR => ?_) | refine Stop.mk ?_ | refine Join.mk ⟨fun Kv hN hX hR => ?_, ?_⟩ | refine DrawJ.each ?_ | exact SubJ.self _) | with_reducible refine SubJ.of ?_ | (with_reducible first | refine FlS (fun Kf hF => ?_) | refine FlN ?_ | refine NdS (fun Kg hG => ?_) | (refine hF _ _ ?_; clear hF; clear Kf) | (refine hG _ _ _ _ ?_; clear hG; clear Kg)) | ((with_reducible refine SqI ?_ (fun Kv hN hX hR => ?_)); (next => exact rfl)) | ((with_reducible refine JnI ?_ ?_); (next => exact rfl)) | ((with_reducible first | refine hN _ ?_ | refine hX _ _ ?_ | refine hR _ ?_); (try (clear hG; clear Kg)); clear hN hX hR; clear Kv) | ((conv => whnf); first | (with_reducible first | rfl | exact True.intro | intro _ | refine And.intro ?_ ?_) | ((with_reducible first | refine hN _ ?_ | refine hX _ _ ?_ | refine hR _ ?_); (try (clear hG; clear Kg)); clear hN hX hR; clear Kv) | (with_reducible first | refine BdS (fun Kv hN hX hR => ?_) | refine Stop.mk ?_ | refine Join.mk ⟨fun Kv hN hX hR => ?_, ?_⟩ | refine DrawJ.each ?_ | exact SubJ.self _) | with_reducible refine SubJ.of ?_ | (with_reducible first | refine FlS (fun Kf hF => ?_) | refine FlN ?_ | refine NdS (fun Kg hG => ?_) | (refine hF _ _ ?_; clear hF; clear Kf) | (refine hG _ _ _ _ ?_; clear hG; clear Kg))))); all_goals (conv => whnf); all_goals (repeat ((try (clear hG; clear Kg)); clear hN hX hR; clear Kv))
       all_goals (try simp only [Int.toNat_natCast, etaCut] at *)
       all_goals first
         | exact Ob.mk ⟨by omega, of_decide_eq_true (by with_reducible assumption)⟩
         | (have h := of_decide_eq_true (show decide ((i : Int) < (xs.length : Nat)) = true by with_reducible assumption)
            have hmem := getD_mem (l := xs) (i := i) (d := default) (by omega)
            first
              | (have h0 := of_decide_eq_true (show decide (0 < (i : Int)) = true by with_reducible assumption)
                 have hb := back1 (i := i) (by omega) (by omega)
                 exact Ob.mk (by rw [hb.2]; omega))
              | (have hm := nf (show (!placeB (xs.getD i default).a) = true by with_reducible assumption)
                 refine (cutsB_no ?_).symm
                 rintro ⟨_, _, h3⟩
                 have := h3 _ hmem
                 unfold cutB at this
                 rw [hm] at this
                 simp at this)
              | (have hm := nf (show (!placeB (xs.getD i default).b) = true by with_reducible assumption)
                 refine (cutsB_no ?_).symm
                 rintro ⟨_, _, h3⟩
                 have := h3 _ hmem
                 unfold cutB at this
                 rw [hm] at this
                 simp at this)
              | (have hm := of_decide_eq_true (show decide ((xs.getD i default).b ≤ (xs.getD i default).a) = true by with_reducible assumption)
                 refine (cutsB_no ?_).symm
                 rintro ⟨_, _, h3⟩
                 have := h3 _ hmem
                 unfold cutB at this
                 rw [decide_eq_false (show ¬ (xs.getD i default).a < (xs.getD i default).b by omega)] at this
                 simp at this)
              | (have h0 := of_decide_eq_true (show decide (0 < (i : Int)) = true by with_reducible assumption)
                 have hb := back1 (i := i) (by omega) (by omega)
                 have hm := of_decide_eq_true (show decide (0 ≤ cutCmp (xs.getD (IntKind.i64.wrap ((i : Int) - 1)).toNat default) (xs.getD i default)) = true by with_reducible assumption)
                 rw [hb.1] at hm
                 refine (cutsB_no ?_).symm
                 rintro ⟨_, h2, _⟩
                 have := cutCmp_lt.2 (h2 (i - 1) i (by omega) (by omega))
                 omega)
              | (have hp : cutB (xs.getD i default) = true := by
                   unfold cutB
                   rw [nt (show (!placeB (xs.getD i default).a) = false by with_reducible assumption), nt (show (!placeB (xs.getD i default).b) = false by with_reducible assumption)]
                   have hm := of_decide_eq_false (show decide ((xs.getD i default).b ≤ (xs.getD i default).a) = false by with_reducible assumption)
                   rw [decide_eq_true (show (xs.getD i default).a < (xs.getD i default).b by omega)]
                   rfl
                 refine ⟨i + 1, ⟨by omega, all_take_succ (d := default) (by omega) hi.2.1 hp, fun t ht => ?_⟩, by show xs.length - (i + 1) < xs.length - i; omega, ?_⟩
                 · rcases Nat.lt_or_eq_of_le (Nat.le_of_lt_succ ht) with h3 | h3
                   · exact hi.2.2 t h3
                   · first
                       | (have h0 := of_decide_eq_false (show decide (0 < (i : Int)) = false by with_reducible assumption)
                          omega)
                       | (have hb := back1 (i := i) (by omega) (by omega)
                          have hm := of_decide_eq_false (show decide (0 ≤ cutCmp (xs.getD (IntKind.i64.wrap ((i : Int) - 1)).toNat default) (xs.getD i default)) = false by with_reducible assumption)
                          rw [hb.1] at hm
                          rw [show t = i - 1 by omega, show i - 1 + 1 = i by omega]
                          exact cutCmp_lt.1 (by omega))
                 · (repeat' (first | ((with_reducible refine BdI ?_); (first | ((with_reducible refine SqI ?_ (fun Kv hN hX hR => ?_)); (next => exact rfl)) | ((with_reducible refine JnI ?_ ?_); (next => exact rfl)) | (conv => whnf))) | (with_reducible first | refine BdS (fun Kv hN hX hR => ?_) | refine Stop.mk ?_ | refine Join.mk ⟨fun Kv hN hX hR => ?_, ?_⟩ | refine DrawJ.each ?_ | exact SubJ.self _) | with_reducible refine SubJ.of ?_ | (with_reducible first | refine FlS (fun Kf hF => ?_) | refine FlN ?_ | refine NdS (fun Kg hG => ?_) | (refine hF _ _ ?_; clear hF; clear Kf) | (refine hG _ _ _ _ ?_; clear hG; clear Kg)) | ((with_reducible refine SqI ?_ (fun Kv hN hX hR => ?_)); (next => exact rfl)) | ((with_reducible refine JnI ?_ ?_); (next => exact rfl)) | ((with_reducible first | refine hN _ ?_ | refine hX _ _ ?_ | refine hR _ ?_); (try (clear hG; clear Kg)); clear hN hX hR; clear Kv) | ((conv => whnf); first | (with_reducible first | rfl | exact True.intro | intro _ | refine And.intro ?_ ?_) | ((with_reducible first | refine hN _ ?_ | refine hX _ _ ?_ | refine hR _ ?_); (try (clear hG; clear Kg)); clear hN hX hR; clear Kv) | (with_reducible first | refine BdS (fun Kv hN hX hR => ?_) | refine Stop.mk ?_ | refine Join.mk ⟨fun Kv hN hX hR => ?_, ?_⟩ | refine DrawJ.each ?_ | exact SubJ.self _) | with_reducible refine SubJ.of ?_ | (with_reducible first | refine FlS (fun Kf hF => ?_) | refine FlN ?_ | refine NdS (fun Kg hG => ?_) | (refine hF _ _ ?_; clear hF; clear Kf) | (refine hG _ _ _ _ ?_; clear hG; clear Kg))))); all_goals (conv => whnf); all_goals (repeat ((try (clear hG; clear Kg)); clear hN hX hR; clear Kv))
                   all_goals first
                     | exact wrapI (by omega) (by omega)
                     | rfl))
         | (have h := of_decide_eq_false (show decide ((i : Int) < (xs.length : Nat)) = false by with_reducible assumption)
            obtain rfl : i = xs.length := by omega
            have h2 := hi.2.1
            rw [List.take_of_length_le (Nat.le_refl _)] at h2
            have h3 := risingCt_adj hi.2.2
            by_cases h4 : xs.length ≤ 32
            · rw [cutsB_iff.2 ⟨h4, h3, h2⟩]
              exact decide_eq_true (by omega)
            · rw [cutsB_no (fun h => h4 h.1)]
              exact decide_eq_false (by omega))
         | trace_state)
    | trace_state
end Go.Proofs.YtmhieddhmebfhaaGreat

/- Contracts: msg. -/
namespace Go.Proofs.YtmhieddhmebfhaaGreat
open Go.RowKit
set_option maxRecDepth 20000

theorem etaMsg (m : GMsg) : (⟨m.kind, m.src, m.dst, m.ids, m.key, ⟨m.item.key, ⟨m.item.ver.count, m.item.ver.writer⟩, m.item.value, m.item.gone⟩, m.has⟩ : GMsg) = m := rfl
def item0B (i : GItem) : Bool := decide (i.key = 0) && (decide (i.ver.count = 0) && (decide (i.ver.writer = 0) && (decide (i.value = 0) && !i.gone)))
def noneB (m : GMsg) : Bool := decide (m.ids.length = 0) && (decide (m.key = 0) && (item0B m.item && !m.has))
theorem k_none : Known Tryz.prog tau 130 (S1 dMsg fun x => okB (noneB x)) := by
  refine known1 hmix tau_ok ctx_nil (fn := Tryz.f130) (by kernel_rfl) [] (by kernel_rfl) _ _ fun x hfit => ⟨rfl, [], ?_⟩
  (repeat' (first | ((with_reducible refine BdI ?_); (first | ((with_reducible refine SqI ?_ (fun Kv hN hX hR => ?_)); (next => exact rfl)) | ((with_reducible refine JnI ?_ ?_); (next => exact rfl)) | (conv => whnf))) | (with_reducible first | refine BdS (fun Kv hN hX hR => ?_) | refine Stop.mk ?_ | refine Join.mk ⟨fun Kv hN hX hR => ?_, ?_⟩ | refine DrawJ.each ?_ | exact SubJ.self _) | with_reducible refine SubJ.of ?_ | (with_reducible first | refine FlS (fun Kf hF => ?_) | refine FlN ?_ | refine NdS (fun Kg hG => ?_) | (refine hF _ _ ?_; clear hF; clear Kf) | (refine hG _ _ _ _ ?_; clear hG; clear Kg)) | ((with_reducible refine SqI ?_ (fun Kv hN hX hR => ?_)); (next => exact rfl)) | ((with_reducible refine JnI ?_ ?_); (next => exact rfl)) | ((with_reducible first | refine hN _ ?_ | refine hX _ _ ?_ | refine hR _ ?_); (try (clear hG; clear Kg)); clear hN hX hR; clear Kv) | ((conv => whnf); first | (with_reducible first | rfl | exact True.intro | intro _ | refine And.intro ?_ ?_) | ((with_reducible first | refine hN _ ?_ | refine hX _ _ ?_ | refine hR _ ?_); (try (clear hG; clear Kg)); clear hN hX hR; clear Kv) | (with_reducible first | refine BdS (fun Kv hN hX hR => ?_) | refine Stop.mk ?_ | refine Join.mk ⟨fun Kv hN hX hR => ?_, ?_⟩ | refine DrawJ.each ?_ | exact SubJ.self _) | with_reducible refine SubJ.of ?_ | (with_reducible first | refine FlS (fun Kf hF => ?_) | refine FlN ?_ | refine NdS (fun Kg hG => ?_) | (refine hF _ _ ?_; clear hF; clear Kf) | (refine hG _ _ _ _ ?_; clear hG; clear Kg))))); all_goals (conv => whnf); all_goals (repeat ((try (clear hG; clear Kg)); clear hN hX hR; clear Kv))
  all_goals simp_all [noneB, item0B, Rw.len]
def bodyB (m : GMsg) : Bool :=
  if m.kind = 0 then noneB { m with ids := [] } && (decide ((m.ids.length : Int) ≤ 16) && m.ids.all placeB)
  else if m.kind = 1 then noneB { m with item := ⟨0, ⟨0, 0⟩, 0, false⟩ } && itemB m.item
  else if m.kind = 2 then noneB { m with key := 0 } && placeB m.key
  else if m.kind = 3 then decide (m.ids.length = 0) && (placeB m.key && ((!m.has && item0B m.item) || (m.has && (itemB m.item && decide (m.item.key = m.key)))))
  else false
def mayB (m : GMsg) : Bool := placeB m.src && (placeB m.dst && (!decide (m.src = m.dst) && bodyB m))
theorem k_MsgMay : Known Tryz.prog tau 103 (S1 dMsg fun x => okB (mayB x)) := by
  refine known1 hmix tau_ok (ctx_cons k_Place (ctx_cons k_Places (ctx_cons k_none (ctx_cons k_ItemMay ctx_nil)))) (fn := Tryz.f103) (by kernel_rfl) [] (by kernel_rfl) _ _ fun x hfit => ⟨rfl, [], ?_⟩
  clear hfit
  obtain ⟨kind, src, dst, ids, key, ⟨ik, ⟨ic, iw⟩, iv, ig⟩, has⟩ := x
  (repeat' (first | ((with_reducible refine BdI ?_); (first | ((with_reducible refine SqI ?_ (fun Kv hN hX hR => ?_)); (next => exact rfl)) | ((with_reducible refine JnI ?_ ?_); (next => exact rfl)) | (conv => whnf))) | (with_reducible first | refine BdS (fun Kv hN hX hR => ?_) | refine Stop.mk ?_ | refine Join.mk ⟨fun Kv hN hX hR => ?_, ?_⟩ | refine DrawJ.each ?_ | exact SubJ.self _) | with_reducible refine SubJ.of ?_ | (with_reducible first | refine FlS (fun Kf hF => ?_) | refine FlN ?_ | refine NdS (fun Kg hG => ?_) | (refine hF _ _ ?_; clear hF; clear Kf) | (refine hG _ _ _ _ ?_; clear hG; clear Kg)) | ((with_reducible refine SqI ?_ (fun Kv hN hX hR => ?_)); (next => exact rfl)) | ((with_reducible refine JnI ?_ ?_); (next => exact rfl)) | ((with_reducible first | refine hN _ ?_ | refine hX _ _ ?_ | refine hR _ ?_); (try (clear hG; clear Kg)); clear hN hX hR; clear Kv) | ((conv => whnf); first | (with_reducible first | rfl | exact True.intro | intro _ | refine And.intro ?_ ?_) | ((with_reducible first | refine hN _ ?_ | refine hX _ _ ?_ | refine hR _ ?_); (try (clear hG; clear Kg)); clear hN hX hR; clear Kv) | (with_reducible first | refine BdS (fun Kv hN hX hR => ?_) | refine Stop.mk ?_ | refine Join.mk ⟨fun Kv hN hX hR => ?_, ?_⟩ | refine DrawJ.each ?_ | exact SubJ.self _) | with_reducible refine SubJ.of ?_ | (with_reducible first | refine FlS (fun Kf hF => ?_) | refine FlN ?_ | refine NdS (fun Kg hG => ?_) | (refine hF _ _ ?_; clear hF; clear Kf) | (refine hG _ _ _ _ ?_; clear hG; clear Kg))))); all_goals (conv => whnf); all_goals (repeat ((try (clear hG; clear Kg)); clear hN hX hR; clear Kv))
  all_goals (try simp_all [mayB, bodyB, noneB, item0B, Rw.len])
  all_goals (intros; omega)
theorem k_refMsg : Known Tryz.prog tau 128 (S1 dMsg fun x => okB (mayB x)) := by
  refine known1 hmix tau_ok (ctx_cons k_refPlace (ctx_cons k_refPlaces (ctx_cons k_refItem ctx_nil))) (fn := Tryz.f128) (by kernel_rfl) [] (by kernel_rfl) _ _ fun x hfit => ⟨rfl, [], ?_⟩
  clear hfit
  obtain ⟨kind, src, dst, ids, key, ⟨ik, ⟨ic, iw⟩, iv, ig⟩, has⟩ := x
  (repeat' (first | ((with_reducible refine BdI ?_); (first | ((with_reducible refine SqI ?_ (fun Kv hN hX hR => ?_)); (next => exact rfl)) | ((with_reducible refine JnI ?_ ?_); (next => exact rfl)) | (conv => whnf))) | (with_reducible first | refine BdS (fun Kv hN hX hR => ?_) | refine Stop.mk ?_ | refine Join.mk ⟨fun Kv hN hX hR => ?_, ?_⟩ | refine DrawJ.each ?_ | exact SubJ.self _) | with_reducible refine SubJ.of ?_ | (with_reducible first | refine FlS (fun Kf hF => ?_) | refine FlN ?_ | refine NdS (fun Kg hG => ?_) | (refine hF _ _ ?_; clear hF; clear Kf) | (refine hG _ _ _ _ ?_; clear hG; clear Kg)) | ((with_reducible refine SqI ?_ (fun Kv hN hX hR => ?_)); (next => exact rfl)) | ((with_reducible refine JnI ?_ ?_); (next => exact rfl)) | ((with_reducible first | refine hN _ ?_ | refine hX _ _ ?_ | refine hR _ ?_); (try (clear hG; clear Kg)); clear hN hX hR; clear Kv) | ((conv => whnf); first | (with_reducible first | rfl | exact True.intro | intro _ | refine And.intro ?_ ?_) | ((with_reducible first | refine hN _ ?_ | refine hX _ _ ?_ | refine hR _ ?_); (try (clear hG; clear Kg)); clear hN hX hR; clear Kv) | (with_reducible first | refine BdS (fun Kv hN hX hR => ?_) | refine Stop.mk ?_ | refine Join.mk ⟨fun Kv hN hX hR => ?_, ?_⟩ | refine DrawJ.each ?_ | exact SubJ.self _) | with_reducible refine SubJ.of ?_ | (with_reducible first | refine FlS (fun Kf hF => ?_) | refine FlN ?_ | refine NdS (fun Kg hG => ?_) | (refine hF _ _ ?_; clear hF; clear Kf) | (refine hG _ _ _ _ ?_; clear hG; clear Kg))))); all_goals (conv => whnf); all_goals (repeat ((try (clear hG; clear Kg)); clear hN hX hR; clear Kv))
  all_goals (try simp_all [mayB, bodyB, noneB, item0B, Rw.len])
end Go.Proofs.YtmhieddhmebfhaaGreat
