/- A part of the proof of Nodes: SpInts, SpPeers, G11c, SpItems, SpTolds, G16f. -/
import Derived.Test.YtaapoiikbolgnaaMLNodes3
import Derived.Sort.Row
import Derived.Deep.LoopGhost
import Derived.Lib.Walk
import Derived.CellFam
/- Rows of whole numbers, written over: the walk. -/
namespace Go.Proofs.Ytaapoiikbolgnaa
open Go.RowKit Go.Sort
def vIntS : Value → Int
  | .int _ q => q
  | _ => 0
theorem Hav.int {g0 : Nat} {w wr : World} (h : Hav g0 w wr) {a : Addr} {z : Int} (hz : w.cell? a = some (.int .i64 z)) : ∃ z', wr.cell? a = some (.int .i64 z') := by
  rcases h.cell a with e | ⟨_, z', _, e⟩
  · exact ⟨z, by rw [e]; exact hz⟩
  · exact ⟨z', e⟩
set_option maxHeartbeats 1000000 in
theorem w_SpoilInts : SpoilW Try.prog 30 1 0 := by
  refine ⟨fnOk_enters (fn := Try.f30) (D := []) (by kernel_rfl) (by kernel_rfl), fun A n c w hn hA => ?_⟩
  go_enter Try.func30, Try.ntmps30
  go_wp2
  go_loopw [2] (fun vi wr => ∃ i : Nat, vi = .int .i64 i ∧ i ≤ n ∧ ((n = 0 ∧ wr = w) ∨ (0 < n ∧ ∃ ad, A = some ad ∧ Hav ad.block w wr))) (fun vi _ => n - (vIntS vi).toNat)
  case atStart =>
    refine ⟨0, rfl, by omega, ?_⟩
    rcases Nat.eq_zero_or_pos n with h | h
    · exact .inl ⟨h, rfl⟩
    · obtain ⟨ad, h1, _⟩ := hA h
      exact .inr ⟨h, ad, h1, Hav.refl _ _⟩
  case round =>
    obtain ⟨i, rfl, hin, hwr⟩ := hrel
    by_cases hlt : i < n
    · obtain ⟨ad, rfl, hs, hu, hcell⟩ := hA (by omega)
      have hH : Hav ad.block w wr := by
        rcases hwr with ⟨h, _⟩ | ⟨_, ad', e, h⟩
        · omega
        · injection e with e; subst e; exact h
      obtain ⟨z0, hz0⟩ := hcell i hlt
      obtain ⟨z, hz⟩ := hH.int hz0
      have hb : (ad.add (i * 1 + 0)).block = ad.block := by unfold Addr.add; split <;> rfl
      have hsp : (ad.add (i * 1 + 0)).spot = none := by unfold Addr.add; split <;> simp [hs]
      have hf : wr.frozen? (ad.add (i * 1 + 0)) = false := unfz_frozen (by rw [hb]; exact hH.unfz hu) hz
      rw [show i * 1 + 0 = i by omega] at hz hf hb hsp
      have HS : Hid (∀ z', Hav ad.block w (wr.setCell (ad.add i) (.int .i64 z'))) := fun z' => hH.store hb hsp hz
      clear hcell hH hA hwr hu hz0
      go_wp2
      go_roundw
      case rel => exact ⟨i + 1, rfl, hlt, .inr ⟨by omega, ad, rfl, HS.out _⟩⟩
      case measure => simp [vIntS]; omega
    · have HW : Hid ((n = 0 ∧ wr = w) ∨ (0 < n ∧ ∃ ad, A = some ad ∧ Hav ad.block w wr)) := hwr
      clear hA hwr
      go_wp2
      go_end0
      exact ⟨rfl, HW.out⟩
theorem t_SpoilInts : TrKnown Try.prog tau 30 (spoilT 0) := spoil_tr w_SpoilInts rfl fun r i hr => by cases r <;> simp [Rw.kd] at hr; exact ⟨_, rfl⟩
end Go.Proofs.Ytaapoiikbolgnaa

/- Rows of structs, written over: the walk. -/
namespace Go.Proofs.Ytaapoiikbolgnaa
open Go.RowKit Go.Sort
set_option maxHeartbeats 1000000 in
theorem w_SpoilPeers : SpoilW Try.prog 57 2 1 := by
  refine ⟨fnOk_enters (fn := Try.f57) (D := []) (by kernel_rfl) (by kernel_rfl), fun A n c w hn hA => ?_⟩
  go_enter Try.func57, Try.ntmps57
  go_wp2
  go_loopw [2] (fun vi wr => ∃ i : Nat, vi = .int .i64 i ∧ i ≤ n ∧ ((n = 0 ∧ wr = w) ∨ (0 < n ∧ ∃ ad, A = some ad ∧ Hav ad.block w wr))) (fun vi _ => n - (vIntS vi).toNat)
  case atStart =>
    refine ⟨0, rfl, by omega, ?_⟩
    rcases Nat.eq_zero_or_pos n with h | h
    · exact .inl ⟨h, rfl⟩
    · obtain ⟨ad, h1, _⟩ := hA h
      exact .inr ⟨h, ad, h1, Hav.refl _ _⟩
  case round =>
    obtain ⟨i, rfl, hin, hwr⟩ := hrel
    by_cases hlt : i < n
    · obtain ⟨ad, rfl, hs, hu, hcell⟩ := hA (by omega)
      have hH : Hav ad.block w wr := by
        rcases hwr with ⟨h, _⟩ | ⟨_, ad', e, h⟩
        · omega
        · injection e with e; subst e; exact h
      obtain ⟨z0, hz0⟩ := hcell i hlt
      obtain ⟨z, hz⟩ := hH.int hz0
      obtain ⟨blk, o, sp⟩ := ad
      obtain rfl : sp = none := hs
      have ea : (⟨blk, o, none⟩ : Addr).add (i * 2 + 1) = ⟨blk, o + i * 2 + 1, none⟩ := by unfold Addr.add; split <;> simp_all [Nat.add_assoc]
      rw [ea] at hz
      have hf : wr.frozen? ⟨blk, o + i * 2 + 1, none⟩ = false := unfz_frozen (hH.unfz hu) hz
      have HS : Hid (∀ z', Hav blk w (wr.setCell ⟨blk, o + i * 2 + 1, none⟩ (.int .i64 z'))) := fun z' => hH.store (a := ⟨blk, o + i * 2 + 1, none⟩) rfl rfl hz
      clear hcell hH hA hwr hu hz0 ea
      go_wp2
      go_roundw
      case rel => exact ⟨i + 1, rfl, hlt, .inr ⟨by omega, _, rfl, HS.out _⟩⟩
      case measure => simp [vIntS]; omega
    · have HW : Hid ((n = 0 ∧ wr = w) ∨ (0 < n ∧ ∃ ad, A = some ad ∧ Hav ad.block w wr)) := hwr
      clear hA hwr
      go_wp2
      go_end0
      exact ⟨rfl, HW.out⟩
theorem t_SpoilPeers : TrKnown Try.prog tau 57 (spoilT 3) := spoil_tr w_SpoilPeers rfl fun r i hr => by cases r <;> simp [Rw.kd] at hr; exact ⟨_, rfl⟩
end Go.Proofs.Ytaapoiikbolgnaa

/- Chapter 11: any view. -/
namespace Go.Proofs.Ytaapoiikbolgnaa
open Go.RowKit
set_option maxRecDepth 20000
theorem k_CopyView : Known Try.prog tau 24 (S1 dView fun v => .ok (.agg [.int .i64 v.id, .own 0, .own 1]) [.peers v.peers, .ints v.passive]) := by
  refine known1 hmix tau_ok ctx_nil (fn := Try.f24) (by kernel_rfl) [] (by kernel_rfl) _ _ fun v hfit => ⟨rfl, [], ?_⟩
  have hp : v.peers.length * 16 ≤ 140737488355328 := hfit.1.2.1
  have hp2 : v.passive.length * 8 ≤ 140737488355328 := hfit.1.2.2.1
  clear hfit
  (repeat' (first | ((with_reducible refine BdI ?_); (first | ((with_reducible refine SqI ?_ (fun Kv hN hX hR => ?_)); (next => exact rfl)) | ((with_reducible refine JnI ?_ ?_); (next => exact rfl)) | (conv => whnf))) | (with_reducible first | refine BdS (fun Kv hN hX hR => ?_) | refine Stop.mk ?_ | refine Join.mk ⟨fun Kv hN hX hR => ?_, ?_⟩ | refine DrawJ.each ?_ | exact SubJ.self _) | with_reducible refine SubJ.of ?_ | (with_reducible first | refine FlS (fun Kf hF => ?_) | refine FlN ?_ | refine NdS (fun Kg hG => ?_) | (refine hF _ _ ?_; clear hF; clear Kf) | (refine hG _ _ _ _ ?_; clear hG; clear Kg)) | ((with_reducible refine SqI ?_ (fun Kv hN hX hR => ?_)); (next => exact rfl)) | ((with_reducible refine JnI ?_ ?_); (next => exact rfl)) | ((with_reducible first | refine hN _ ?_ | refine hX _ _ ?_ | refine hR _ ?_); (try (clear hG; clear Kg)); clear hN hX hR; clear Kv) | ((conv => whnf); first | (with_reducible first | rfl | exact True.intro | intro _ | refine And.intro ?_ ?_) | ((with_reducible first | refine hN _ ?_ | refine hX _ _ ?_ | refine hR _ ?_); (try (clear hG; clear Kg)); clear hN hX hR; clear Kv) | (with_reducible first | refine BdS (fun Kv hN hX hR => ?_) | refine Stop.mk ?_ | refine Join.mk ⟨fun Kv hN hX hR => ?_, ?_⟩ | refine DrawJ.each ?_ | exact SubJ.self _) | with_reducible refine SubJ.of ?_ | (with_reducible first | refine FlS (fun Kf hF => ?_) | refine FlN ?_ | refine NdS (fun Kg hG => ?_) | (refine hF _ _ ?_; clear hF; clear Kf) | (refine hG _ _ _ _ ?_; clear hG; clear Kg))))); all_goals (conv => whnf); all_goals (repeat ((try (clear hG; clear Kg)); clear hN hX hR; clear Kv))
  all_goals first
    | (refine Ob.mk ?_
       simp only [Rw.len, Rw.bts, Rw.kd, kdBytes, List.length_nil]
       omega)
    | rfl
    | trace_state
theorem t_SpoilView : TrKnown Try.prog tau 29 (inlT tau (addTr 57 (spoilT 3) (addTr 30 (spoilT 0) (mkCtx []))) [] [] Try.f29) :=
  inl_ok hmix tau_ok (ctx_tr t_SpoilPeers (ctx_tr t_SpoilInts ctx_nil)) (by kernel_rfl) [] (by kernel_rfl) []
end Go.Proofs.Ytaapoiikbolgnaa

/- Rows of structs, written over: the walk. -/
namespace Go.Proofs.Ytaapoiikbolgnaa
open Go.RowKit Go.Sort
set_option maxHeartbeats 1000000 in
theorem w_SpoilItems : SpoilW Try.prog 48 5 3 := by
  refine ⟨fnOk_enters (fn := Try.f48) (D := []) (by kernel_rfl) (by kernel_rfl), fun A n c w hn hA => ?_⟩
  go_enter Try.func48, Try.ntmps48
  go_wp2
  go_loopw [2] (fun vi wr => ∃ i : Nat, vi = .int .i64 i ∧ i ≤ n ∧ ((n = 0 ∧ wr = w) ∨ (0 < n ∧ ∃ ad, A = some ad ∧ Hav ad.block w wr))) (fun vi _ => n - (vIntS vi).toNat)
  case atStart =>
    refine ⟨0, rfl, by omega, ?_⟩
    rcases Nat.eq_zero_or_pos n with h | h
    · exact .inl ⟨h, rfl⟩
    · obtain ⟨ad, h1, _⟩ := hA h
      exact .inr ⟨h, ad, h1, Hav.refl _ _⟩
  case round =>
    obtain ⟨i, rfl, hin, hwr⟩ := hrel
    by_cases hlt : i < n
    · obtain ⟨ad, rfl, hs, hu, hcell⟩ := hA (by omega)
      have hH : Hav ad.block w wr := by
        rcases hwr with ⟨h, _⟩ | ⟨_, ad', e, h⟩
        · omega
        · injection e with e; subst e; exact h
      obtain ⟨z0, hz0⟩ := hcell i hlt
      obtain ⟨z, hz⟩ := hH.int hz0
      obtain ⟨blk, o, sp⟩ := ad
      obtain rfl : sp = none := hs
      have ea : (⟨blk, o, none⟩ : Addr).add (i * 5 + 3) = ⟨blk, o + i * 5 + 3, none⟩ := by unfold Addr.add; split <;> simp_all [Nat.add_assoc]
      rw [ea] at hz
      have hf : wr.frozen? ⟨blk, o + i * 5 + 3, none⟩ = false := unfz_frozen (hH.unfz hu) hz
      have HS : Hid (∀ z', Hav blk w (wr.setCell ⟨blk, o + i * 5 + 3, none⟩ (.int .i64 z'))) := fun z' => hH.store (a := ⟨blk, o + i * 5 + 3, none⟩) rfl rfl hz
      clear hcell hH hA hwr hu hz0 ea
      go_wp2
      go_roundw
      case rel => exact ⟨i + 1, rfl, hlt, .inr ⟨by omega, _, rfl, HS.out _⟩⟩
      case measure => simp [vIntS]; omega
    · have HW : Hid ((n = 0 ∧ wr = w) ∨ (0 < n ∧ ∃ ad, A = some ad ∧ Hav ad.block w wr)) := hwr
      clear hA hwr
      go_wp2
      go_end0
      exact ⟨rfl, HW.out⟩
theorem t_SpoilItems : TrKnown Try.prog tau 48 (spoilT 4) := spoil_tr w_SpoilItems rfl fun r i hr => by cases r <;> simp [Rw.kd] at hr; exact ⟨_, rfl⟩
end Go.Proofs.Ytaapoiikbolgnaa

/- Rows of structs, written over: the walk. -/
namespace Go.Proofs.Ytaapoiikbolgnaa
open Go.RowKit Go.Sort
set_option maxHeartbeats 1000000 in
theorem w_SpoilTolds : SpoilW Try.prog 49 3 2 := by
  refine ⟨fnOk_enters (fn := Try.f49) (D := []) (by kernel_rfl) (by kernel_rfl), fun A n c w hn hA => ?_⟩
  go_enter Try.func49, Try.ntmps49
  go_wp2
  go_loopw [2] (fun vi wr => ∃ i : Nat, vi = .int .i64 i ∧ i ≤ n ∧ ((n = 0 ∧ wr = w) ∨ (0 < n ∧ ∃ ad, A = some ad ∧ Hav ad.block w wr))) (fun vi _ => n - (vIntS vi).toNat)
  case atStart =>
    refine ⟨0, rfl, by omega, ?_⟩
    rcases Nat.eq_zero_or_pos n with h | h
    · exact .inl ⟨h, rfl⟩
    · obtain ⟨ad, h1, _⟩ := hA h
      exact .inr ⟨h, ad, h1, Hav.refl _ _⟩
  case round =>
    obtain ⟨i, rfl, hin, hwr⟩ := hrel
    by_cases hlt : i < n
    · obtain ⟨ad, rfl, hs, hu, hcell⟩ := hA (by omega)
      have hH : Hav ad.block w wr := by
        rcases hwr with ⟨h, _⟩ | ⟨_, ad', e, h⟩
        · omega
        · injection e with e; subst e; exact h
      obtain ⟨z0, hz0⟩ := hcell i hlt
      obtain ⟨z, hz⟩ := hH.int hz0
      obtain ⟨blk, o, sp⟩ := ad
      obtain rfl : sp = none := hs
      have ea : (⟨blk, o, none⟩ : Addr).add (i * 3 + 2) = ⟨blk, o + i * 3 + 2, none⟩ := by unfold Addr.add; split <;> simp_all [Nat.add_assoc]
      rw [ea] at hz
      have hf : wr.frozen? ⟨blk, o + i * 3 + 2, none⟩ = false := unfz_frozen (hH.unfz hu) hz
      have HS : Hid (∀ z', Hav blk w (wr.setCell ⟨blk, o + i * 3 + 2, none⟩ (.int .i64 z'))) := fun z' => hH.store (a := ⟨blk, o + i * 3 + 2, none⟩) rfl rfl hz
      clear hcell hH hA hwr hu hz0 ea
      go_wp2
      go_roundw
      case rel => exact ⟨i + 1, rfl, hlt, .inr ⟨by omega, _, rfl, HS.out _⟩⟩
      case measure => simp [vIntS]; omega
    · have HW : Hid ((n = 0 ∧ wr = w) ∨ (0 < n ∧ ∃ ad, A = some ad ∧ Hav ad.block w wr)) := hwr
      clear hA hwr
      go_wp2
      go_end0
      exact ⟨rfl, HW.out⟩
theorem t_SpoilTolds : TrKnown Try.prog tau 49 (spoilT 5) := spoil_tr w_SpoilTolds rfl fun r i hr => by cases r <;> simp [Rw.kd] at hr; exact ⟨_, rfl⟩
end Go.Proofs.Ytaapoiikbolgnaa

/- Chapter 16: any node. -/
namespace Go.Proofs.Ytaapoiikbolgnaa
open Go.RowKit
set_option maxRecDepth 20000
theorem k_CopyNode16 : Known Try.prog tau 12 (S1 dNode fun x => .ok (.agg [.bool x.up, .int .i64 x.view.id, .own 0, .own 1, .own 2, .own 3]) [.peers x.view.peers, .ints x.view.passive, .items x.items, .tolds x.log]) := by
  refine known1 hmix tau_ok (ctx_cons k_CopyView ctx_nil) (fn := Try.f12) (by kernel_rfl) [] (by kernel_rfl) _ _ fun x hfit => ⟨rfl, [], ?_⟩
  have hp3 : x.items.length * 40 ≤ 140737488355328 := hfit.1.2.2.2.2.1
  have hp4 : x.log.length * 24 ≤ 140737488355328 := hfit.1.2.2.2.2.2.1
  clear hfit
  (repeat' (first | ((with_reducible refine BdI ?_); (first | ((with_reducible refine SqI ?_ (fun Kv hN hX hR => ?_)); (next => exact rfl)) | ((with_reducible refine JnI ?_ ?_); (next => exact rfl)) | (conv => whnf))) | (with_reducible first | refine BdS (fun Kv hN hX hR => ?_) | refine Stop.mk ?_ | refine Join.mk ⟨fun Kv hN hX hR => ?_, ?_⟩ | refine DrawJ.each ?_ | exact SubJ.self _) | with_reducible refine SubJ.of ?_ | (with_reducible first | refine FlS (fun Kf hF => ?_) | refine FlN ?_ | refine NdS (fun Kg hG => ?_) | (refine hF _ _ ?_; clear hF; clear Kf) | (refine hG _ _ _ _ ?_; clear hG; clear Kg)) | ((with_reducible refine SqI ?_ (fun Kv hN hX hR => ?_)); (next => exact rfl)) | ((with_reducible refine JnI ?_ ?_); (next => exact rfl)) | ((with_reducible first | refine hN _ ?_ | refine hX _ _ ?_ | refine hR _ ?_); (try (clear hG; clear Kg)); clear hN hX hR; clear Kv) | ((conv => whnf); first | (with_reducible first | rfl | exact True.intro | intro _ | refine And.intro ?_ ?_) | ((with_reducible first | refine hN _ ?_ | refine hX _ _ ?_ | refine hR _ ?_); (try (clear hG; clear Kg)); clear hN hX hR; clear Kv) | (with_reducible first | refine BdS (fun Kv hN hX hR => ?_) | refine Stop.mk ?_ | refine Join.mk ⟨fun Kv hN hX hR => ?_, ?_⟩ | refine DrawJ.each ?_ | exact SubJ.self _) | with_reducible refine SubJ.of ?_ | (with_reducible first | refine FlS (fun Kf hF => ?_) | refine FlN ?_ | refine NdS (fun Kg hG => ?_) | (refine hF _ _ ?_; clear hF; clear Kf) | (refine hG _ _ _ _ ?_; clear hG; clear Kg))))); all_goals (conv => whnf); all_goals (repeat ((try (clear hG; clear Kg)); clear hN hX hR; clear Kv))
  all_goals first
    | (refine Ob.mk ?_
       simp only [Rw.len, Rw.bts, Rw.kd, kdBytes, List.length_nil]
       omega)
    | rfl
    | trace_state
theorem t_SpoilNode16 : TrKnown Try.prog tau 19 (inlT tau (addTr 29 (inlT tau (addTr 57 (spoilT 3) (addTr 30 (spoilT 0) (mkCtx []))) [] [] Try.f29) (addTr 48 (spoilT 4) (addTr 49 (spoilT 5) (mkCtx [])))) [] [] Try.f19) :=
  inl_ok hmix tau_ok (ctx_tr t_SpoilView (ctx_tr t_SpoilItems (ctx_tr t_SpoilTolds ctx_nil))) (by kernel_rfl) [] (by kernel_rfl) []
theorem t_CopyInts : TrKnown Try.prog tau 35 (inlT tau (mkCtx []) [] [] Try.f35) := inl_ok hmix tau_ok ctx_nil (by kernel_rfl) [] (by kernel_rfl) []
theorem t_LendInts : TrKnown Try.prog tau 11 (inlT tau (addTr 35 (inlT tau (mkCtx []) [] [] Try.f35) (mkCtx [])) [] [] Try.f11) := inl_ok hmix tau_ok (ctx_tr t_CopyInts ctx_nil) (by kernel_rfl) [] (by kernel_rfl) []
theorem t_KeptInts : TrKnown Try.prog tau 20 (inlT tau (mkCtx [(28, S2 dInts dInts fun a b => okB (decide (a = b)))]) [] [] Try.f20) := inl_ok hmix tau_ok (ctx_cons k_SameInts ctx_nil) (by kernel_rfl) [] (by kernel_rfl) []
theorem lend_take (ids : List Int) : List.drop 0 (List.take ids.length (ids ++ [-7777, -8888])) = ids := by simp
theorem lend_all (ids : List Int) : List.drop (Int.toNat 0) (List.take ((ids.length : Int) + 2).toNat (ids ++ [-7777, -8888])) = ids ++ [-7777, -8888] := by
  show List.take ((ids.length : Int) + 2).toNat (ids ++ [-7777, -8888]) = _
  rw [List.take_of_length_le (by simp; omega)]
theorem lend_a (ids : List Int) : (ids ++ [-7777, -8888]).getD ((ids.length : Int)).toNat 0 = -7777 := by simp [List.getD]
theorem lend_b (ids : List Int) : (ids ++ [-7777, -8888]).getD ((ids.length : Int) + 1).toNat 0 = -8888 := by
  rw [show ((ids.length : Int) + 1).toNat = ids.length + 1 from by omega]
  simp [List.getD]
set_option maxHeartbeats 4000000 in
theorem k_Nodes : Known Try.prog tau 3 (S3 dInt dInts dNode fun id ids x => .ob (ids.length ≤ 1048576) (.bool true) []) := by
  refine knownX3 hmix tau_ok (fn := Try.f3) (by kernel_rfl) [(1, [(0, 0), (1, 1), (2, 0), (3, 6), (4, 0), (5, 27), (6, 63)]), (4, [(0, 0), (1, 0), (2, 3), (3, 4), (4, 12), (5, 16), (6, 48), (7, 16), (8, 208), (9, 272), (10, 576), (11, 1024), (12, 3072), (13, 1024), (14, 13312), (15, 21504), (16, 33792)])] (by kernel_rfl) _ _ _ _ fun id ids x hfit hs => ⟨rfl, _, ctx_tr t_LendInts (ctx_tr t_KeptInts (ctx_tr t_SpoilNode16 (ctx_cons k_CopyNode16 (ctx_cons k_New (ctx_cons k_refNew (ctx_cons k_SameNode (ctx_cons k_nodeMay (ctx_cons k_refNode (ctx_cons k_Num (ctx_cons k_awake16 ctx_nil)))))))))),
    [(1000002, invF Unit [999999999] [] [] (fun _ => True) (fun _ st => withS [(8, .box 8 0), (7, .pre .old (.ints (ids ++ [-7777, -8888])) ids.length)] (withB [(8, (29, [.bool x.up, .int .i64 x.view.id, .row .old (.peers x.view.peers), .row .old (.ints x.view.passive), .row .old (.items x.items), .row .old (.tolds x.log)]))] st)) (fun _ => 0))], ?_⟩
  clear hfit
  have e1 := lend_take ids
  have w1 : IntKind.i64.wrap ((ids.length : Int) + 2) = (ids.length : Int) + 2 := wrapI (by omega) (by omega)
  have w2 : IntKind.i64.wrap ((ids.length : Int) + 1) = (ids.length : Int) + 1 := wrapI (by omega) (by omega)
  have e2 := lend_all ids
  have e3 := lend_a ids
  have e4 := lend_b ids
  (repeat' (first | ((with_reducible refine BdI ?_); (first | ((with_reducible refine SqI ?_ (fun Kv hN hX hR => ?_)); (next => exact rfl)) | ((with_reducible refine JnI ?_ ?_); (next => exact rfl)) | (conv => whnf))) | (with_reducible first | refine BdS (fun Kv hN hX hR => ?_) | refine Stop.mk ?_ | refine Join.mk ⟨fun Kv hN hX hR => ?_, ?_⟩ | refine DrawJ.each ?_ | exact SubJ.self _) | with_reducible refine SubJ.of ?_ | (with_reducible first | refine FlS (fun Kf hF => ?_) | refine FlN ?_ | refine NdS (fun Kg hG => ?_) | (refine hF _ _ ?_; clear hF; clear Kf) | (refine hG _ _ _ _ ?_; clear hG; clear Kg)) | ((with_reducible refine SqI ?_ (fun Kv hN hX hR => ?_)); (next => exact rfl)) | ((with_reducible refine JnI ?_ ?_); (next => exact rfl)) | ((with_reducible first | refine hN _ ?_ | refine hX _ _ ?_ | refine hR _ ?_); (try (clear hG; clear Kg)); clear hN hX hR; clear Kv) | ((conv => whnf); first | (with_reducible first | rfl | exact True.intro | refine (fun (_ : (_ : Prop)) => ?_) | refine And.intro ?_ ?_) | ((with_reducible first | refine hN _ ?_ | refine hX _ _ ?_ | refine hR _ ?_); (try (clear hG; clear Kg)); clear hN hX hR; clear Kv) | (with_reducible first | refine BdS (fun Kv hN hX hR => ?_) | refine Stop.mk ?_ | refine Join.mk ⟨fun Kv hN hX hR => ?_, ?_⟩ | refine DrawJ.each ?_ | exact SubJ.self _) | with_reducible refine SubJ.of ?_ | (with_reducible first | refine FlS (fun Kf hF => ?_) | refine FlN ?_ | refine NdS (fun Kg hG => ?_) | (refine hF _ _ ?_; clear hF; clear Kf) | (refine hG _ _ _ _ ?_; clear hG; clear Kg))))); all_goals (conv => whnf); all_goals (repeat ((try (clear hG; clear Kg)); clear hN hX hR; clear Kv))
  all_goals first
    | rfl
    | (refine Ob.mk ?_
       simp only [Rw.len, Rw.bts, Rw.kd, kdBytes, List.length_nil, List.length_append, List.length_cons]
       omega)
    | (refine ⟨(), trivial, ?_⟩
       (repeat' (first | ((with_reducible refine BdI ?_); (first | ((with_reducible refine SqI ?_ (fun Kv hN hX hR => ?_)); (next => exact rfl)) | ((with_reducible refine JnI ?_ ?_); (next => exact rfl)) | (conv => whnf))) | (with_reducible first | refine BdS (fun Kv hN hX hR => ?_) | refine Stop.mk ?_ | refine Join.mk ⟨fun Kv hN hX hR => ?_, ?_⟩ | refine DrawJ.each ?_ | exact SubJ.self _) | with_reducible refine SubJ.of ?_ | (with_reducible first | refine FlS (fun Kf hF => ?_) | refine FlN ?_ | refine NdS (fun Kg hG => ?_) | (refine hF _ _ ?_; clear hF; clear Kf) | (refine hG _ _ _ _ ?_; clear hG; clear Kg)) | ((with_reducible refine SqI ?_ (fun Kv hN hX hR => ?_)); (next => exact rfl)) | ((with_reducible refine JnI ?_ ?_); (next => exact rfl)) | ((with_reducible first | refine hN _ ?_ | refine hX _ _ ?_ | refine hR _ ?_); (try (clear hG; clear Kg)); clear hN hX hR; clear Kv) | ((conv => whnf); first | (with_reducible first | rfl | exact True.intro | intro _ | refine And.intro ?_ ?_) | ((with_reducible first | refine hN _ ?_ | refine hX _ _ ?_ | refine hR _ ?_); (try (clear hG; clear Kg)); clear hN hX hR; clear Kv) | (with_reducible first | refine BdS (fun Kv hN hX hR => ?_) | refine Stop.mk ?_ | refine Join.mk ⟨fun Kv hN hX hR => ?_, ?_⟩ | refine DrawJ.each ?_ | exact SubJ.self _) | with_reducible refine SubJ.of ?_ | (with_reducible first | refine FlS (fun Kf hF => ?_) | refine FlN ?_ | refine NdS (fun Kg hG => ?_) | (refine hF _ _ ?_; clear hF; clear Kf) | (refine hG _ _ _ _ ?_; clear hG; clear Kg))))); all_goals (conv => whnf); all_goals (repeat ((try (clear hG; clear Kg)); clear hN hX hR; clear Kv))
       all_goals rfl)
    | (with_reducible intro _ _
       (repeat' (first | ((with_reducible refine BdI ?_); (first | ((with_reducible refine SqI ?_ (fun Kv hN hX hR => ?_)); (next => exact rfl)) | ((with_reducible refine JnI ?_ ?_); (next => exact rfl)) | (conv => whnf))) | (with_reducible first | refine BdS (fun Kv hN hX hR => ?_) | refine Stop.mk ?_ | refine Join.mk ⟨fun Kv hN hX hR => ?_, ?_⟩ | refine DrawJ.each ?_ | exact SubJ.self _) | with_reducible refine SubJ.of ?_ | (with_reducible first | refine FlS (fun Kf hF => ?_) | refine FlN ?_ | refine NdS (fun Kg hG => ?_) | (refine hF _ _ ?_; clear hF; clear Kf) | (refine hG _ _ _ _ ?_; clear hG; clear Kg)) | ((with_reducible refine SqI ?_ (fun Kv hN hX hR => ?_)); (next => exact rfl)) | ((with_reducible refine JnI ?_ ?_); (next => exact rfl)) | ((with_reducible first | refine hN _ ?_ | refine hX _ _ ?_ | refine hR _ ?_); (try (clear hG; clear Kg)); clear hN hX hR; clear Kv) | ((conv => whnf); first | (with_reducible first | rfl | exact True.intro | intro _ | refine And.intro ?_ ?_) | ((with_reducible first | refine hN _ ?_ | refine hX _ _ ?_ | refine hR _ ?_); (try (clear hG; clear Kg)); clear hN hX hR; clear Kv) | (with_reducible first | refine BdS (fun Kv hN hX hR => ?_) | refine Stop.mk ?_ | refine Join.mk ⟨fun Kv hN hX hR => ?_, ?_⟩ | refine DrawJ.each ?_ | exact SubJ.self _) | with_reducible refine SubJ.of ?_ | (with_reducible first | refine FlS (fun Kf hF => ?_) | refine FlN ?_ | refine NdS (fun Kg hG => ?_) | (refine hF _ _ ?_; clear hF; clear Kf) | (refine hG _ _ _ _ ?_; clear hG; clear Kg))))); all_goals (conv => whnf); all_goals (repeat ((try (clear hG; clear Kg)); clear hN hX hR; clear Kv))
       all_goals first
         | rfl
         | (refine Ob.mk ?_
            simp only [e1, w1, w2, e2, Rw.len, Rw.bts, Rw.kd, kdBytes, List.length_nil, List.length_append, List.length_cons]
            omega)
         | (exfalso; rename_i h; simp at h; done)
         | (exfalso; rename_i h; simp only [e1] at h; simp at h; done)
         | (exfalso; rename_i h; simp only [e1, w1, w2, e2, e3, e4] at h; simp at h; done)
         | trace_state)
    | trace_state
end Go.Proofs.Ytaapoiikbolgnaa
