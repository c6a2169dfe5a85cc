/- A part of the proof of TickGreets: P11b, F1m, P19b, G19d. -/
import Derived.Test.YtmhieddhmebfhaaMLTickGreets4
/- Plain: a view's turn: whom it greets; marks. -/
namespace Go.Proofs.Ytmhieddhmebfhaa
open Go.RowKit
theorem place_iff {x : Int} : placeB x = true ↔ 0 ≤ x ∧ x < 256 := by simp [placeB]
def marksN (n : Nat) (l : List Int) : List Bool := (List.range n).map fun (j : Nat) => decide ((j : Int) ∈ l)
theorem marksN_len (n : Nat) (l : List Int) : (marksN n l).length = n := by simp [marksN]
theorem marksN_nil (n : Nat) : marksN n [] = List.replicate n false := by
  refine List.ext_getElem (by simp [marksN]) fun i h1 h2 => ?_
  simp [marksN]
theorem marksN_get {n : Nat} {l : List Int} {x : Int} (h : 0 ≤ x) (h2 : x < n) : (marksN n l).getD x.toNat false = decide (x ∈ l) := by
  have hx : x.toNat < n := by omega
  have e : ((x.toNat : Nat) : Int) = x := by omega
  unfold marksN
  rw [List.getD_eq_getElem?_getD, List.getElem?_map, List.getElem?_range hx]
  show decide (((x.toNat : Nat) : Int) ∈ l) = _
  rw [e]
theorem marksN_set {n : Nat} {l : List Int} {x : Int} (h : 0 ≤ x) (h3 : x < n) : (marksN n l).set x.toNat true = marksN n (l ++ [x]) := by
  refine List.ext_getElem (by simp [marksN]) fun i h1 h2 => ?_
  rw [List.getElem_set]
  unfold marksN
  simp only [List.getElem_map, List.getElem_range, List.mem_append, List.mem_singleton]
  split
  · rename_i hi
    have : (i : Int) = x := by omega
    simp [this]
  · rename_i hi
    have : ¬ (i : Int) = x := by omega
    simp [this]
def marksL (l : List Int) : List Bool := marksN 256 l
theorem marksL_len (l : List Int) : (marksL l).length = 256 := marksN_len 256 l
theorem marksL_nil : marksL [] = List.replicate 256 false := marksN_nil 256
theorem marksL_get {l : List Int} {x : Int} (h : placeB x = true) : (marksL l).getD x.toNat false = decide (x ∈ l) := marksN_get (place_iff.1 h).1 (place_iff.1 h).2
theorem marksL_set {l : List Int} {x : Int} (h : placeB x = true) : (marksL l).set x.toNat true = marksL (l ++ [x]) := marksN_set (place_iff.1 h).1 (place_iff.1 h).2
theorem rising_ne {l : List Int} (h : Rising l) : l.Pairwise (· ≠ ·) := by
  rw [List.pairwise_iff_getElem]
  intro i j hi hj hij
  have := h i j hij hj
  rw [List.getD_eq_getElem?_getD, List.getD_eq_getElem?_getD, List.getElem?_eq_getElem hi, List.getElem?_eq_getElem hj] at this
  simp only [Option.getD_some] at this
  omega
theorem ts_ok {v : GView} (h : viewB v = true) : (tickV v).2.1.length = v.peers.length + v.passive.length ∧ (tickV v).2.1.length ≤ 16 ∧ (tickV v).2.1.Pairwise (· ≠ ·) ∧ (∀ x ∈ (tickV v).2.1, placeB x = true ∧ x ≠ v.id) ∧ (∀ p ∈ v.peers, p.id ∈ (tickV v).2.1) ∧ ∀ x ∈ v.passive, x ∈ (tickV v).2.1 := by
  obtain ⟨t1, t2, t3, t4, t5, t6, t7, t8⟩ := tick_ok h
  have hw := viewB_iff2.1 t1
  have hp := peers_iff.1 hw.1
  have ha := passB_iff.1 hw.2.1
  have hl : (tickV v).2.1.length = v.peers.length + v.passive.length := by
    rw [t5, List.length_append, namesP_len, ← t3, t7]
  have hv := (viewB_iff.1 h).2.2.1
  rw [t3] at hw
  refine ⟨hl, by omega, ?_, ?_, ?_, ?_⟩
  · rw [t5, List.pairwise_append]
    refine ⟨names_nodup hw.1, rising_ne ha.2.1, fun x hx y hy e => ?_⟩
    subst e
    exact (hw.2.2.2 x hy).2 hx
  · intro x hx
    rw [t5] at hx
    rcases List.mem_append.1 hx with hx | hx
    · obtain ⟨p, h1, rfl⟩ := mem_namesP.1 hx
      rw [← t3] at h1
      have hq := peerB_iff.1 (hp.2.2.2 p h1)
      refine ⟨hq.1, fun e => ?_⟩
      have := hq.2.2.2
      rw [e, t2] at this
      have hid := hp.1
      rw [t2, place_iff] at hid
      rw [farI_eq hid.1 (by omega) hid.1 (by omega)] at this
      omega
    · refine ⟨ha.2.2 x hx, fun e => (hw.2.2.2 x hx).1 (by rw [e, t2])⟩
  · intro p hp
    rw [t5, List.mem_append]
    by_cases hm : p.missed + 1 = 3
    · exact .inr ((t8 _).2 (.inr (mem_lostP.2 ⟨p, hp, hm, rfl⟩)))
    · exact .inl (mem_namesP.2 ⟨_, mem_leftP.2 ⟨p, hp, hm, rfl⟩, rfl⟩)
  · intro x hx
    rw [t5, List.mem_append]
    exact .inr ((t8 _).2 (.inl hx))
theorem take_get {l : List Int} {i : Nat} (hn : l.Pairwise (· ≠ ·)) (h : i < l.length) : ¬ l.getD i 0 ∈ l.take i := by
  intro hm
  obtain ⟨j, hj, e⟩ := List.mem_iff_getElem.1 hm
  rw [List.length_take] at hj
  have hij : j < i := by omega
  rw [List.getElem_take] at e
  have := (List.pairwise_iff_getElem.1 hn) j i (by omega) h hij
  rw [List.getD_eq_getElem?_getD, List.getElem?_eq_getElem h] at e
  exact this e
theorem take_app {l : List Int} {i : Nat} (h : i < l.length) : l.take i ++ [l.getD i 0] = l.take (i + 1) := by
  rw [List.take_succ_eq_append_getElem h, List.getD_eq_getElem?_getD, List.getElem?_eq_getElem h]
  rfl
end Go.Proofs.Ytmhieddhmebfhaa

/- Contracts: msg. -/
namespace Go.Proofs.Ytmhieddhmebfhaa
open Go.RowKit

theorem etaMsg (m : GMsg) : (⟨m.kind, m.src, m.dst, m.ids, m.key, ⟨m.item.key, ⟨m.item.ver.count, m.item.ver.writer⟩, m.item.value, m.item.gone⟩, m.has⟩ : GMsg) = m := rfl
def item0B (i : GItem) : Bool := decide (i.key = 0) && (decide (i.ver.count = 0) && (decide (i.ver.writer = 0) && (decide (i.value = 0) && !i.gone)))
def noneB (m : GMsg) : Bool := decide (m.ids.length = 0) && (decide (m.key = 0) && (item0B m.item && !m.has))
theorem k_none : Known Try.prog tau 102 (S1 dMsg fun x => okB (noneB x)) := by
  refine known1 hmix tau_ok ctx_nil (fn := Try.f102) (by kernel_rfl) [] (by kernel_rfl) _ _ fun x hfit => ⟨rfl, [], ?_⟩
  (repeat' (first | ((with_reducible refine body_intro ?_); (first | ((with_reducible refine seq_intro ?_ (fun Kv hN hX hR => ?_)); (next => exact rfl)) | ((with_reducible refine join_intro ?_ ?_); (next => exact rfl)) | (conv => whnf))) | with_reducible refine body_stop (fun Kv hN hX hR => ?_) | with_reducible refine Stop.mk ?_ | with_reducible refine Join.mk ⟨fun Kv hN hX hR => ?_, ?_⟩ | with_reducible refine DrawJ.each ?_ | with_reducible exact SubJ.self _ | with_reducible refine SubJ.of ?_ | with_reducible refine fill2_step (fun Kf hF => ?_) | with_reducible refine fill2_nil ?_ | with_reducible refine node2_step (fun Kg hG => ?_) | (with_reducible refine hF _ _ ?_; clear hF; clear Kf) | (with_reducible refine hG _ _ _ _ ?_; clear hG; clear Kg) | ((with_reducible refine seq_intro ?_ (fun Kv hN hX hR => ?_)); (next => exact rfl)) | ((with_reducible refine join_intro ?_ ?_); (next => exact rfl)) | (with_reducible refine hN _ ?_; (try (clear hG; clear Kg)); clear hN hX hR; clear Kv) | (with_reducible refine hX _ _ ?_; (try (clear hG; clear Kg)); clear hN hX hR; clear Kv) | (with_reducible refine hR _ ?_; (try (clear hG; clear Kg)); clear hN hX hR; clear Kv) | ((conv => whnf); first | with_reducible rfl | with_reducible exact True.intro | with_reducible intro _ | with_reducible refine And.intro ?_ ?_ | (with_reducible refine hN _ ?_; (try (clear hG; clear Kg)); clear hN hX hR; clear Kv) | (with_reducible refine hX _ _ ?_; (try (clear hG; clear Kg)); clear hN hX hR; clear Kv) | (with_reducible refine hR _ ?_; (try (clear hG; clear Kg)); clear hN hX hR; clear Kv) | with_reducible refine body_stop (fun Kv hN hX hR => ?_) | with_reducible refine Stop.mk ?_ | with_reducible refine Join.mk ⟨fun Kv hN hX hR => ?_, ?_⟩ | with_reducible refine DrawJ.each ?_ | with_reducible exact SubJ.self _ | with_reducible refine SubJ.of ?_ | with_reducible refine fill2_step (fun Kf hF => ?_) | with_reducible refine fill2_nil ?_ | with_reducible refine node2_step (fun Kg hG => ?_) | (with_reducible refine hF _ _ ?_; clear hF; clear Kf) | (with_reducible refine hG _ _ _ _ ?_; clear hG; clear Kg)))); all_goals (conv => whnf); all_goals (repeat ((try (clear hG; clear Kg)); clear hN hX hR; clear Kv))
  all_goals simp_all [noneB, item0B, Rw.len]
def bodyB (m : GMsg) : Bool :=
  if m.kind = 0 then noneB { m with ids := [] } && (decide ((m.ids.length : Int) ≤ 16) && m.ids.all placeB)
  else if m.kind = 1 then noneB { m with item := ⟨0, ⟨0, 0⟩, 0, false⟩ } && itemB m.item
  else if m.kind = 2 then noneB { m with key := 0 } && placeB m.key
  else if m.kind = 3 then decide (m.ids.length = 0) && (placeB m.key && ((!m.has && item0B m.item) || (m.has && (itemB m.item && decide (m.item.key = m.key)))))
  else false
def mayB (m : GMsg) : Bool := placeB m.src && (placeB m.dst && (!decide (m.src = m.dst) && bodyB m))
theorem k_MsgMay : Known Try.prog tau 80 (S1 dMsg fun x => okB (mayB x)) := by
  refine known1 hmix tau_ok (ctx_cons k_Place (ctx_cons k_Places (ctx_cons k_none (ctx_cons k_ItemMay ctx_nil)))) (fn := Try.f80) (by kernel_rfl) [] (by kernel_rfl) _ _ fun x hfit => ⟨rfl, [], ?_⟩
  clear hfit
  obtain ⟨kind, src, dst, ids, key, ⟨ik, ⟨ic, iw⟩, iv, ig⟩, has⟩ := x
  (repeat' (first | ((with_reducible refine body_intro ?_); (first | ((with_reducible refine seq_intro ?_ (fun Kv hN hX hR => ?_)); (next => exact rfl)) | ((with_reducible refine join_intro ?_ ?_); (next => exact rfl)) | (conv => whnf))) | with_reducible refine body_stop (fun Kv hN hX hR => ?_) | with_reducible refine Stop.mk ?_ | with_reducible refine Join.mk ⟨fun Kv hN hX hR => ?_, ?_⟩ | with_reducible refine DrawJ.each ?_ | with_reducible exact SubJ.self _ | with_reducible refine SubJ.of ?_ | with_reducible refine fill2_step (fun Kf hF => ?_) | with_reducible refine fill2_nil ?_ | with_reducible refine node2_step (fun Kg hG => ?_) | (with_reducible refine hF _ _ ?_; clear hF; clear Kf) | (with_reducible refine hG _ _ _ _ ?_; clear hG; clear Kg) | ((with_reducible refine seq_intro ?_ (fun Kv hN hX hR => ?_)); (next => exact rfl)) | ((with_reducible refine join_intro ?_ ?_); (next => exact rfl)) | (with_reducible refine hN _ ?_; (try (clear hG; clear Kg)); clear hN hX hR; clear Kv) | (with_reducible refine hX _ _ ?_; (try (clear hG; clear Kg)); clear hN hX hR; clear Kv) | (with_reducible refine hR _ ?_; (try (clear hG; clear Kg)); clear hN hX hR; clear Kv) | ((conv => whnf); first | with_reducible rfl | with_reducible exact True.intro | with_reducible intro _ | with_reducible refine And.intro ?_ ?_ | (with_reducible refine hN _ ?_; (try (clear hG; clear Kg)); clear hN hX hR; clear Kv) | (with_reducible refine hX _ _ ?_; (try (clear hG; clear Kg)); clear hN hX hR; clear Kv) | (with_reducible refine hR _ ?_; (try (clear hG; clear Kg)); clear hN hX hR; clear Kv) | with_reducible refine body_stop (fun Kv hN hX hR => ?_) | with_reducible refine Stop.mk ?_ | with_reducible refine Join.mk ⟨fun Kv hN hX hR => ?_, ?_⟩ | with_reducible refine DrawJ.each ?_ | with_reducible exact SubJ.self _ | with_reducible refine SubJ.of ?_ | with_reducible refine fill2_step (fun Kf hF => ?_) | with_reducible refine fill2_nil ?_ | with_reducible refine node2_step (fun Kg hG => ?_) | (with_reducible refine hF _ _ ?_; clear hF; clear Kf) | (with_reducible refine hG _ _ _ _ ?_; clear hG; clear Kg)))); all_goals (conv => whnf); all_goals (repeat ((try (clear hG; clear Kg)); clear hN hX hR; clear Kv))
  all_goals (try simp_all [mayB, bodyB, noneB, item0B, Rw.len])
  all_goals (intros; omega)
theorem k_refMsg : Known Try.prog tau 17 (S1 dMsg fun x => okB (mayB x)) := by
  refine known1 hmix tau_ok (ctx_cons k_refPlace (ctx_cons k_refPlaces (ctx_cons k_refItem ctx_nil))) (fn := Try.f17) (by kernel_rfl) [] (by kernel_rfl) _ _ fun x hfit => ⟨rfl, [], ?_⟩
  clear hfit
  obtain ⟨kind, src, dst, ids, key, ⟨ik, ⟨ic, iw⟩, iv, ig⟩, has⟩ := x
  (repeat' (first | ((with_reducible refine body_intro ?_); (first | ((with_reducible refine seq_intro ?_ (fun Kv hN hX hR => ?_)); (next => exact rfl)) | ((with_reducible refine join_intro ?_ ?_); (next => exact rfl)) | (conv => whnf))) | with_reducible refine body_stop (fun Kv hN hX hR => ?_) | with_reducible refine Stop.mk ?_ | with_reducible refine Join.mk ⟨fun Kv hN hX hR => ?_, ?_⟩ | with_reducible refine DrawJ.each ?_ | with_reducible exact SubJ.self _ | with_reducible refine SubJ.of ?_ | with_reducible refine fill2_step (fun Kf hF => ?_) | with_reducible refine fill2_nil ?_ | with_reducible refine node2_step (fun Kg hG => ?_) | (with_reducible refine hF _ _ ?_; clear hF; clear Kf) | (with_reducible refine hG _ _ _ _ ?_; clear hG; clear Kg) | ((with_reducible refine seq_intro ?_ (fun Kv hN hX hR => ?_)); (next => exact rfl)) | ((with_reducible refine join_intro ?_ ?_); (next => exact rfl)) | (with_reducible refine hN _ ?_; (try (clear hG; clear Kg)); clear hN hX hR; clear Kv) | (with_reducible refine hX _ _ ?_; (try (clear hG; clear Kg)); clear hN hX hR; clear Kv) | (with_reducible refine hR _ ?_; (try (clear hG; clear Kg)); clear hN hX hR; clear Kv) | ((conv => whnf); first | with_reducible rfl | with_reducible exact True.intro | with_reducible intro _ | with_reducible refine And.intro ?_ ?_ | (with_reducible refine hN _ ?_; (try (clear hG; clear Kg)); clear hN hX hR; clear Kv) | (with_reducible refine hX _ _ ?_; (try (clear hG; clear Kg)); clear hN hX hR; clear Kv) | (with_reducible refine hR _ ?_; (try (clear hG; clear Kg)); clear hN hX hR; clear Kv) | with_reducible refine body_stop (fun Kv hN hX hR => ?_) | with_reducible refine Stop.mk ?_ | with_reducible refine Join.mk ⟨fun Kv hN hX hR => ?_, ?_⟩ | with_reducible refine DrawJ.each ?_ | with_reducible exact SubJ.self _ | with_reducible refine SubJ.of ?_ | with_reducible refine fill2_step (fun Kf hF => ?_) | with_reducible refine fill2_nil ?_ | with_reducible refine node2_step (fun Kg hG => ?_) | (with_reducible refine hF _ _ ?_; clear hF; clear Kf) | (with_reducible refine hG _ _ _ _ ?_; clear hG; clear Kg)))); all_goals (conv => whnf); all_goals (repeat ((try (clear hG; clear Kg)); clear hN hX hR; clear Kv))
  all_goals (try simp_all [mayB, bodyB, noneB, item0B, Rw.len])
end Go.Proofs.Ytmhieddhmebfhaa

/- Plain: whom a node's turn greets. -/
namespace Go.Proofs.Ytmhieddhmebfhaa
open Go.RowKit
theorem etaNode2 (x : GNode) : (⟨x.up, x.view, x.items, x.log⟩ : GNode) = x := rfl
theorem hello_may {v : GView} (h : viewB v = true) {t : Int} (ht : t ∈ (tickV v).2.1) : mayB ⟨0, (tickV v).1.id, t, namesP (tickV v).1.peers, 0, ⟨0, ⟨0, 0⟩, 0, false⟩, false⟩ = true := by
  obtain ⟨t1, t2, t3, t4, t5, t6, t7, t8⟩ := tick_ok h
  have hp := peers_iff.1 (viewB_iff2.1 t1).1
  have hh := (ts_ok h).2.2.2.1 t ht
  have hid := hp.1
  have hl : (namesP (tickV v).1.peers).length ≤ 16 := by rw [namesP_len]; exact hp.2.1
  have hal : (namesP (tickV v).1.peers).all placeB = true := by
    rw [List.all_eq_true]
    intro x hx
    obtain ⟨p, h1, rfl⟩ := mem_namesP.1 hx
    exact (peerB_iff.1 (hp.2.2.2 p h1)).1
  unfold mayB bodyB noneB item0B
  simp only [hid, hh.1, hal]
  have hne : ¬ (tickV v).1.id = t := fun e => hh.2 (by rw [← e, t2])
  simp [hne]
  omega
theorem minP_mem {k : Int} : ∀ (l : List Int) (b : Int), minP k b l = b ∨ minP k b l ∈ l
  | [], b => .inl rfl
  | x :: l, b => by
    unfold minP
    rcases minP_mem l (if farI k x < farI k b then x else b) with h | h
    · rw [h]
      split
      · exact .inr List.mem_cons_self
      · exact .inl rfl
    · exact .inr (List.mem_cons_of_mem _ h)
theorem ownV_place {v : GView} {k : Int} (hv : viewB v = true) (hk : placeB k = true) : placeB (ownV v k).1 = true := by
  have hp := peers_iff.1 (viewB_iff2.1 hv).1
  have hl : ∀ x ∈ namesP v.peers ++ [v.id], placeB x = true := by
    intro x hx
    rcases List.mem_append.1 hx with hx | hx
    · obtain ⟨p, h1, rfl⟩ := mem_namesP.1 hx
      exact (peerB_iff.1 (hp.2.2.2 p h1)).1
    · rw [List.mem_singleton.1 hx]
      exact hp.1
  rw [ownV_def, if_pos ⟨hv, hk⟩, ownP_def, if_pos ⟨by
    have := namesP_len v.peers
    simp only [rowMayB, hk, Bool.true_and, Bool.and_eq_true, decide_eq_true_eq, List.all_eq_true]
    exact ⟨by rw [List.length_append, this]; have := hp.2.1; simp; omega, hl⟩, by simp⟩]
  show placeB (minP k _ _) = true
  cases hn : namesP v.peers ++ [v.id] with
  | nil => simp at hn
  | cons x l =>
    rw [hn] at hl
    rcases minP_mem l x with h | h
    · show placeB (minP k x l) = true
      rw [h]
      exact hl x List.mem_cons_self
    · exact hl _ (List.mem_cons_of_mem _ h)
theorem toV_place {v : GView} {k : Int} (hv : viewB v = true) (hk : placeB k = true) : placeB (toV v k) = true := by
  unfold toV
  split
  · have hp := peers_iff.1 (viewB_iff2.1 hv).1
    rw [succV_def, if_pos hv]
    split
    · exact hp.1
    · rename_i hn
      show placeB ((namesP v.peers).getD 0 0) = true
      cases hq : v.peers with
      | nil => rw [hq] at hn; simp at hn
      | cons q l =>
        show placeB q.id = true
        exact (peerB_iff.1 (hp.2.2.2 q (by rw [hq]; exact List.mem_cons_self))).1
  · exact ownV_place hv hk
theorem share_all {v : GView} {l : List GItem} (hv : viewB v = true) (hl : ∀ i ∈ l, itemB i = true) : ∀ m ∈ shareL v l, m.kind = 1 ∧ m.src = v.id ∧ mayB m = true := by
  induction l with
  | nil => intro m hm; simp [shareL] at hm
  | cons i l ih =>
    intro m hm
    unfold shareL at hm
    rcases List.mem_append.1 hm with hm | hm
    · split at hm
      · simp at hm
      · rename_i hne
        rw [List.mem_singleton.1 hm]
        have hi := hl i List.mem_cons_self
        have hk : placeB i.key = true := by
          unfold itemB at hi
          simp only [Bool.and_eq_true] at hi
          exact hi.1
        have hid := (peers_iff.1 (viewB_iff2.1 hv).1).1
        refine ⟨rfl, rfl, ?_⟩
        unfold mayB bodyB noneB item0B
        simp [hid, toV_place hv hk, hi, Ne.symm hne]
    · exact ih (fun j hj => hl j (List.mem_cons_of_mem _ hj)) m hm
theorem store_items {l : List GItem} (h : storeB l = true) : ∀ i ∈ l, itemB i = true := by
  unfold storeB at h
  simp only [Bool.and_eq_true, List.all_eq_true] at h
  exact h.2.2
end Go.Proofs.Ytmhieddhmebfhaa

/- Chapter 19: whom a node's turn greets. -/
namespace Go.Proofs.Ytmhieddhmebfhaa
open Go.RowKit
theorem getD_left {α : Type} {a b : List α} {i : Nat} {d : α} (h : i < a.length) : (a ++ b).getD i d = a.getD i d := by
  rw [List.getD_eq_getElem?_getD, List.getD_eq_getElem?_getD, List.getElem?_append_left h]
theorem getD_right {α : Type} {a b : List α} {i : Nat} {d : α} (h : a.length ≤ i) : (a ++ b).getD i d = b.getD (i - a.length) d := by
  rw [List.getD_eq_getElem?_getD, List.getD_eq_getElem?_getD, List.getElem?_append_right h]
theorem helloL_get {v : GView} {l : List Int} {i : Nat} (h : i < l.length) : (helloL v l).getD i default = ⟨0, v.id, l.getD i 0, namesP v.peers, 0, ⟨0, ⟨0, 0⟩, 0, false⟩, false⟩ := by
  unfold helloL
  simp [List.getD_eq_getElem?_getD, h]
theorem greet_len {x : GNode} (hB : (x.up && nodeB x) = true) : (tickV x.view).2.1.length ≤ (tickN x).2.1.length := by
  rw [(tickN_yes hB).1]
  show _ ≤ (helloL _ _ ++ shareL _ _).length
  rw [List.length_append, helloL_len]
  omega
theorem greet_max {x : GNode} (hB : (x.up && nodeB x) = true) : (tickN x).2.1.length ≤ 32 := by
  obtain ⟨e1, e2, e3, e4⟩ := tickN_yes hB
  have h1 := (ts_ok e4).2.1
  have h2 := shareL_len (tickV x.view).1 x.items
  have h3 := (storeB_iff.1 (up_view hB).2.2.2).1
  rw [e1]
  show (helloL _ _ ++ shareL _ _).length ≤ _
  rw [List.length_append, helloL_len]
  omega
theorem greet_hi {x : GNode} (hB : (x.up && nodeB x) = true) {i : Nat} (h : i < (tickV x.view).2.1.length) :
    mayB ((tickN x).2.1.getD i default) = true ∧ ((tickN x).2.1.getD i default).src = x.view.id ∧ ((tickN x).2.1.getD i default).kind = 0 ∧ ((tickN x).2.1.getD i default).dst = (tickV x.view).2.1.getD i 0 ∧ ((tickN x).2.1.getD i default).ids = namesP (tickN x).1.view.peers := by
  obtain ⟨e1, e2, e3, e4⟩ := tickN_yes hB
  have hm := hello_may e4 (getD_mem (d := (0 : Int)) h)
  obtain ⟨t1, t2, _⟩ := tick_ok e4
  have e : (tickN x).2.1.getD i default = ⟨0, (tickV x.view).1.id, (tickV x.view).2.1.getD i 0, namesP (tickV x.view).1.peers, 0, ⟨0, ⟨0, 0⟩, 0, false⟩, false⟩ := by
    rw [e1]
    show (helloL _ _ ++ shareL _ _).getD i default = _
    rw [getD_left (by rw [helloL_len]; exact h), helloL_get h]
  rw [e]
  refine ⟨hm, t2, rfl, rfl, ?_⟩
  rw [e1]
theorem greet_item {x : GNode} (hB : (x.up && nodeB x) = true) {i : Nat} (h : ¬ i < (tickV x.view).2.1.length) (h2 : i < (tickN x).2.1.length) :
    mayB ((tickN x).2.1.getD i default) = true ∧ ((tickN x).2.1.getD i default).src = x.view.id ∧ ((tickN x).2.1.getD i default).kind = 1 := by
  obtain ⟨e1, e2, e3, e4⟩ := tickN_yes hB
  obtain ⟨t1, t2, _⟩ := tick_ok e4
  have hs := share_all t1 (store_items (up_view hB).2.2.2)
  have e : (tickN x).2.1 = helloL (tickV x.view).1 (tickV x.view).2.1 ++ shareL (tickV x.view).1 x.items := by rw [e1]
  rw [e] at h2 ⊢
  rw [List.length_append, helloL_len] at h2
  rw [getD_right (by rw [helloL_len]; omega), helloL_len]
  obtain ⟨g1, g2, g3⟩ := hs _ (getD_mem (d := default) (i := i - (tickV x.view).2.1.length) (by omega))
  exact ⟨g3, g2.trans t2, g1⟩
set_option maxHeartbeats 8000000 in
theorem k_TickGreets : Known Try.prog tau 4 (S1 dNode fun x => okB true) := by
  refine known1 hmix tau_ok (ctx_cons k_awake19 (ctx_cons k_tickStep (ctx_cons k_SameNode (ctx_cons k_Num (ctx_cons k_refNames (ctx_cons k_refMsg (ctx_cons k_SameInts (ctx_cons k_SameItems (ctx_cons k_SameTolds (ctx_cons k_refNode ctx_nil)))))))))) (fn := Try.f4) (by kernel_rfl) [(12, [(0, 0), (1, 0), (2, 3), (3, 4), (4, 8), (5, 16), (6, 48), (7, 64), (8, 64), (9, 448), (10, 576), (11, 1088), (12, 64), (13, 4160), (14, 8256), (15, 18496), (16, 32832)])] (by kernel_rfl) _ _ fun x hfit => ⟨rfl,
    [(10, invX Nat (2 :: 8 :: 9 :: 35 :: 36 :: 37 :: 38 :: 39 :: 40 :: 41 :: 42 :: 43 :: 44 :: 45 :: 46 :: 47 :: 48 :: 49 :: 50 :: 51 :: 52 :: 53 :: 54 :: 55 :: 56 :: 57 :: 58 :: 59 :: 60 :: 61 :: 62 :: 63 :: 64 :: 65 :: 66 :: 67 :: 68 :: 69 :: 70 :: 71 :: 72 :: 73 :: 74 :: 75 :: 76 :: 77 :: 78 :: 79 :: 80 :: 81 :: 82 :: 83 :: 84 :: 85 :: 86 :: 87 :: 88 :: 89 :: 90 :: 91 :: 92 :: 93 :: []) [7] (fun i => i ≤ (tickN x).2.1.length) (fun i => fun st => withS [(8, .int .i64 (min i (tickV x.view).2.1.length : Nat)), (9, .int .i64 i)] (withR [(7, .own (.bools (marksL ((tickV x.view).2.1.take i))))] st)) (fun i => (tickN x).2.1.length - i)),
     (20, invX Nat [2, 10, 94, 95, 96, 97, 98, 99, 100, 101, 102, 103, 104, 105, 106, 107, 108, 109, 110, 111] [] (fun i => i ≤ x.view.peers.length) (fun i => withS [(10, .int .i64 i)]) (fun i => x.view.peers.length - i)),
     (25, invX Nat [2, 11, 112, 113, 114, 115, 116, 117, 118, 119, 120, 121, 122, 123, 124, 125, 126, 127, 128] [] (fun i => i ≤ x.view.passive.length) (fun i => withS [(11, .int .i64 i)]) (fun i => x.view.passive.length - i))], ?_⟩
  have hp : x.view.peers.length * 16 ≤ 140737488355328 := hfit.1.2.2.1
  have hp2 : x.view.passive.length * 8 ≤ 140737488355328 := hfit.1.2.2.2.1
  clear hfit
  have e0 := marksL_nil
  cases hB : (x.up && nodeB x) with
  | false =>
    have ht := tickN_no hB
    (repeat' (first | ((with_reducible refine body_intro ?_); (first | ((with_reducible refine seq_intro ?_ (fun Kv hN hX hR => ?_)); (next => exact rfl)) | ((with_reducible refine join_intro ?_ ?_); (next => exact rfl)) | (conv => whnf))) | with_reducible refine body_stop (fun Kv hN hX hR => ?_) | with_reducible refine Stop.mk ?_ | with_reducible refine Join.mk ⟨fun Kv hN hX hR => ?_, ?_⟩ | with_reducible refine DrawJ.each ?_ | with_reducible exact SubJ.self _ | with_reducible refine SubJ.of ?_ | with_reducible refine fill2_step (fun Kf hF => ?_) | with_reducible refine fill2_nil ?_ | with_reducible refine node2_step (fun Kg hG => ?_) | (with_reducible refine hF _ _ ?_; clear hF; clear Kf) | (with_reducible refine hG _ _ _ _ ?_; clear hG; clear Kg) | ((with_reducible refine seq_intro ?_ (fun Kv hN hX hR => ?_)); (next => exact rfl)) | ((with_reducible refine join_intro ?_ ?_); (next => exact rfl)) | (with_reducible refine hN _ ?_; (try (clear hG; clear Kg)); clear hN hX hR; clear Kv) | (with_reducible refine hX _ _ ?_; (try (clear hG; clear Kg)); clear hN hX hR; clear Kv) | (with_reducible refine hR _ ?_; (try (clear hG; clear Kg)); clear hN hX hR; clear Kv) | ((conv => whnf); first | with_reducible rfl | with_reducible exact True.intro | with_reducible refine (fun (_ : (_ : Prop)) => ?_) | with_reducible refine And.intro ?_ ?_ | (with_reducible refine hN _ ?_; (try (clear hG; clear Kg)); clear hN hX hR; clear Kv) | (with_reducible refine hX _ _ ?_; (try (clear hG; clear Kg)); clear hN hX hR; clear Kv) | (with_reducible refine hR _ ?_; (try (clear hG; clear Kg)); clear hN hX hR; clear Kv) | with_reducible refine body_stop (fun Kv hN hX hR => ?_) | with_reducible refine Stop.mk ?_ | with_reducible refine Join.mk ⟨fun Kv hN hX hR => ?_, ?_⟩ | with_reducible refine DrawJ.each ?_ | with_reducible exact SubJ.self _ | with_reducible refine SubJ.of ?_ | with_reducible refine fill2_step (fun Kf hF => ?_) | with_reducible refine fill2_nil ?_ | with_reducible refine node2_step (fun Kg hG => ?_) | (with_reducible refine hF _ _ ?_; clear hF; clear Kf) | (with_reducible refine hG _ _ _ _ ?_; clear hG; clear Kg)))); all_goals (conv => whnf); all_goals (repeat ((try (clear hG; clear Kg)); clear hN hX hR; clear Kv))
    all_goals first
      | exact absurd (show (!true) = true by with_reducible assumption) (by decide)
      | (exfalso
         have h3 : (!decide ((tickN x).2.2 = 0)) = false := by with_reducible assumption
         rw [ht] at h3
         exact absurd h3 (by decide))
      | (simp only [etaView, etaNode2, ht] at *
         first
           | done
           | rfl
           | (exfalso; rename_i h; revert h; decide))
      | trace_state
  | true =>
    obtain ⟨e1, e2, e3, e4⟩ := tickN_yes hB
    obtain ⟨q1, q2, q3, q4, q5, q6⟩ := ts_ok e4
    obtain ⟨t1, t2, t3, t4, t5, t6, t7, t8⟩ := tick_ok e4
    have gl := greet_len hB
    have gm := greet_max hB
    have eN : (tickN x).2.2 = 0 := by rw [e1]
    have w1 : IntKind.i64.wrap ((x.view.peers.length : Int) + (x.view.passive.length : Int)) = ((x.view.peers.length + x.view.passive.length : Nat) : Int) := by rw [wrapI (by omega) (by omega)]; omega
    (repeat' (first | ((with_reducible refine body_intro ?_); (first | ((with_reducible refine seq_intro ?_ (fun Kv hN hX hR => ?_)); (next => exact rfl)) | ((with_reducible refine join_intro ?_ ?_); (next => exact rfl)) | (conv => whnf))) | with_reducible refine body_stop (fun Kv hN hX hR => ?_) | with_reducible refine Stop.mk ?_ | with_reducible refine Join.mk ⟨fun Kv hN hX hR => ?_, ?_⟩ | with_reducible refine DrawJ.each ?_ | with_reducible exact SubJ.self _ | with_reducible refine SubJ.of ?_ | with_reducible refine fill2_step (fun Kf hF => ?_) | with_reducible refine fill2_nil ?_ | with_reducible refine node2_step (fun Kg hG => ?_) | (with_reducible refine hF _ _ ?_; clear hF; clear Kf) | (with_reducible refine hG _ _ _ _ ?_; clear hG; clear Kg) | ((with_reducible refine seq_intro ?_ (fun Kv hN hX hR => ?_)); (next => exact rfl)) | ((with_reducible refine join_intro ?_ ?_); (next => exact rfl)) | (with_reducible refine hN _ ?_; (try (clear hG; clear Kg)); clear hN hX hR; clear Kv) | (with_reducible refine hX _ _ ?_; (try (clear hG; clear Kg)); clear hN hX hR; clear Kv) | (with_reducible refine hR _ ?_; (try (clear hG; clear Kg)); clear hN hX hR; clear Kv) | ((conv => whnf); first | with_reducible rfl | with_reducible exact True.intro | with_reducible refine (fun (_ : (_ : Prop)) => ?_) | with_reducible refine And.intro ?_ ?_ | (with_reducible refine hN _ ?_; (try (clear hG; clear Kg)); clear hN hX hR; clear Kv) | (with_reducible refine hX _ _ ?_; (try (clear hG; clear Kg)); clear hN hX hR; clear Kv) | (with_reducible refine hR _ ?_; (try (clear hG; clear Kg)); clear hN hX hR; clear Kv) | with_reducible refine body_stop (fun Kv hN hX hR => ?_) | with_reducible refine Stop.mk ?_ | with_reducible refine Join.mk ⟨fun Kv hN hX hR => ?_, ?_⟩ | with_reducible refine DrawJ.each ?_ | with_reducible exact SubJ.self _ | with_reducible refine SubJ.of ?_ | with_reducible refine fill2_step (fun Kf hF => ?_) | with_reducible refine fill2_nil ?_ | with_reducible refine node2_step (fun Kg hG => ?_) | (with_reducible refine hF _ _ ?_; clear hF; clear Kf) | (with_reducible refine hG _ _ _ _ ?_; clear hG; clear Kg)))); all_goals (conv => whnf); all_goals (repeat ((try (clear hG; clear Kg)); clear hN hX hR; clear Kv))
    all_goals first
      | exact absurd (show (!true) = true by with_reducible assumption) (by decide)
      | (exfalso
         have h3 : (!decide ((tickN x).2.2 = 0)) = true := by with_reducible assumption
         rw [eN] at h3
         exact absurd h3 (by decide))
      | (refine ⟨0, Nat.zero_le _, ?_⟩
         (repeat' (first | ((with_reducible refine body_intro ?_); (first | ((with_reducible refine seq_intro ?_ (fun Kv hN hX hR => ?_)); (next => exact rfl)) | ((with_reducible refine join_intro ?_ ?_); (next => exact rfl)) | (conv => whnf))) | with_reducible refine body_stop (fun Kv hN hX hR => ?_) | with_reducible refine Stop.mk ?_ | with_reducible refine Join.mk ⟨fun Kv hN hX hR => ?_, ?_⟩ | with_reducible refine DrawJ.each ?_ | with_reducible exact SubJ.self _ | with_reducible refine SubJ.of ?_ | with_reducible refine fill2_step (fun Kf hF => ?_) | with_reducible refine fill2_nil ?_ | with_reducible refine node2_step (fun Kg hG => ?_) | (with_reducible refine hF _ _ ?_; clear hF; clear Kf) | (with_reducible refine hG _ _ _ _ ?_; clear hG; clear Kg) | ((with_reducible refine seq_intro ?_ (fun Kv hN hX hR => ?_)); (next => exact rfl)) | ((with_reducible refine join_intro ?_ ?_); (next => exact rfl)) | (with_reducible refine hN _ ?_; (try (clear hG; clear Kg)); clear hN hX hR; clear Kv) | (with_reducible refine hX _ _ ?_; (try (clear hG; clear Kg)); clear hN hX hR; clear Kv) | (with_reducible refine hR _ ?_; (try (clear hG; clear Kg)); clear hN hX hR; clear Kv) | ((conv => whnf); first | with_reducible rfl | with_reducible exact True.intro | with_reducible intro _ | with_reducible refine And.intro ?_ ?_ | (with_reducible refine hN _ ?_; (try (clear hG; clear Kg)); clear hN hX hR; clear Kv) | (with_reducible refine hX _ _ ?_; (try (clear hG; clear Kg)); clear hN hX hR; clear Kv) | (with_reducible refine hR _ ?_; (try (clear hG; clear Kg)); clear hN hX hR; clear Kv) | with_reducible refine body_stop (fun Kv hN hX hR => ?_) | with_reducible refine Stop.mk ?_ | with_reducible refine Join.mk ⟨fun Kv hN hX hR => ?_, ?_⟩ | with_reducible refine DrawJ.each ?_ | with_reducible exact SubJ.self _ | with_reducible refine SubJ.of ?_ | with_reducible refine fill2_step (fun Kf hF => ?_) | with_reducible refine fill2_nil ?_ | with_reducible refine node2_step (fun Kg hG => ?_) | (with_reducible refine hF _ _ ?_; clear hF; clear Kf) | (with_reducible refine hG _ _ _ _ ?_; clear hG; clear Kg)))); all_goals (conv => whnf); all_goals (repeat ((try (clear hG; clear Kg)); clear hN hX hR; clear Kv))
         all_goals first
           | exact congrArg Rw.bools e0.symm
           | rfl
           | trace_state)
      | (with_reducible intro i hi
         have hi : i ≤ (tickN x).2.1.length := hi
         (repeat' (first | ((with_reducible refine body_intro ?_); (first | ((with_reducible refine seq_intro ?_ (fun Kv hN hX hR => ?_)); (next => exact rfl)) | ((with_reducible refine join_intro ?_ ?_); (next => exact rfl)) | (conv => whnf))) | with_reducible refine body_stop (fun Kv hN hX hR => ?_) | with_reducible refine Stop.mk ?_ | with_reducible refine Join.mk ⟨fun Kv hN hX hR => ?_, ?_⟩ | with_reducible refine DrawJ.each ?_ | with_reducible exact SubJ.self _ | with_reducible refine SubJ.of ?_ | with_reducible refine fill2_step (fun Kf hF => ?_) | with_reducible refine fill2_nil ?_ | with_reducible refine node2_step (fun Kg hG => ?_) | (with_reducible refine hF _ _ ?_; clear hF; clear Kf) | (with_reducible refine hG _ _ _ _ ?_; clear hG; clear Kg) | ((with_reducible refine seq_intro ?_ (fun Kv hN hX hR => ?_)); (next => exact rfl)) | ((with_reducible refine join_intro ?_ ?_); (next => exact rfl)) | (with_reducible refine hN _ ?_; (try (clear hG; clear Kg)); clear hN hX hR; clear Kv) | (with_reducible refine hX _ _ ?_; (try (clear hG; clear Kg)); clear hN hX hR; clear Kv) | (with_reducible refine hR _ ?_; (try (clear hG; clear Kg)); clear hN hX hR; clear Kv) | ((conv => whnf); first | with_reducible rfl | with_reducible exact True.intro | with_reducible refine (fun (_ : (_ : Prop)) => ?_) | with_reducible refine And.intro ?_ ?_ | (with_reducible refine hN _ ?_; (try (clear hG; clear Kg)); clear hN hX hR; clear Kv) | (with_reducible refine hX _ _ ?_; (try (clear hG; clear Kg)); clear hN hX hR; clear Kv) | (with_reducible refine hR _ ?_; (try (clear hG; clear Kg)); clear hN hX hR; clear Kv) | with_reducible refine body_stop (fun Kv hN hX hR => ?_) | with_reducible refine Stop.mk ?_ | with_reducible refine Join.mk ⟨fun Kv hN hX hR => ?_, ?_⟩ | with_reducible refine DrawJ.each ?_ | with_reducible exact SubJ.self _ | with_reducible refine SubJ.of ?_ | with_reducible refine fill2_step (fun Kf hF => ?_) | with_reducible refine fill2_nil ?_ | with_reducible refine node2_step (fun Kg hG => ?_) | (with_reducible refine hF _ _ ?_; clear hF; clear Kf) | (with_reducible refine hG _ _ _ _ ?_; clear hG; clear Kg)))); all_goals (conv => whnf); all_goals (repeat ((try (clear hG; clear Kg)); clear hN hX hR; clear Kv))
         all_goals (try simp only [etaView, etaNode2, etaMsg, Int.toNat_natCast] at *)
         all_goals first
           | exact Ob.mk ⟨by omega, of_decide_eq_true (by with_reducible assumption)⟩
           | (have h := of_decide_eq_true (show decide ((i : Int) < ((tickN x).2.1.length : Nat)) = true by with_reducible assumption)
              have hin : i < (tickN x).2.1.length := by omega
              by_cases hlt : i < (tickV x.view).2.1.length
              · obtain ⟨f1, f2, f3, f4, f5⟩ := greet_hi hB hlt
                have hmin : min i (tickV x.view).2.1.length = i := by omega
                have hmin2 : min (i + 1) (tickV x.view).2.1.length = i + 1 := by omega
                have hm := q4 _ (getD_mem (d := 0) hlt)
                have g0 := place_iff.1 hm.1
                have g1 := marksL_get (l := (tickV x.view).2.1.take i) hm.1
                have g2 : decide ((tickV x.view).2.1.getD i 0 ∈ (tickV x.view).2.1.take i) = false := decide_eq_false (take_get q3 hlt)
                have g3 := marksL_set (l := (tickV x.view).2.1.take i) hm.1
                rw [take_app hlt] at g3
                rw [g2] at g1
                (try simp only [f1, f2, f3, f4, f5, hmin] at *)
                first
                  | exact Ob.mk ⟨g0.1, g0.2, by rw [marksL_len]; exact Nat.le_refl _⟩
                  | (exfalso
                     first
                       | exact absurd (show (!true) = true by with_reducible assumption) (by decide)
                       | (have h6 : (marksL ((tickV x.view).2.1.take i)).getD ((tickV x.view).2.1.getD i 0).toNat false = true := by with_reducible assumption
                          rw [g1] at h6
                          exact absurd h6 (by decide))
                       | exact absurd (show (!decide True) = true by with_reducible assumption) (by simp))
                  | (refine ⟨i + 1, hin, by omega, ?_⟩
                     (repeat' (first | ((with_reducible refine body_intro ?_); (first | ((with_reducible refine seq_intro ?_ (fun Kv hN hX hR => ?_)); (next => exact rfl)) | ((with_reducible refine join_intro ?_ ?_); (next => exact rfl)) | (conv => whnf))) | with_reducible refine body_stop (fun Kv hN hX hR => ?_) | with_reducible refine Stop.mk ?_ | with_reducible refine Join.mk ⟨fun Kv hN hX hR => ?_, ?_⟩ | with_reducible refine DrawJ.each ?_ | with_reducible exact SubJ.self _ | with_reducible refine SubJ.of ?_ | with_reducible refine fill2_step (fun Kf hF => ?_) | with_reducible refine fill2_nil ?_ | with_reducible refine node2_step (fun Kg hG => ?_) | (with_reducible refine hF _ _ ?_; clear hF; clear Kf) | (with_reducible refine hG _ _ _ _ ?_; clear hG; clear Kg) | ((with_reducible refine seq_intro ?_ (fun Kv hN hX hR => ?_)); (next => exact rfl)) | ((with_reducible refine join_intro ?_ ?_); (next => exact rfl)) | (with_reducible refine hN _ ?_; (try (clear hG; clear Kg)); clear hN hX hR; clear Kv) | (with_reducible refine hX _ _ ?_; (try (clear hG; clear Kg)); clear hN hX hR; clear Kv) | (with_reducible refine hR _ ?_; (try (clear hG; clear Kg)); clear hN hX hR; clear Kv) | ((conv => whnf); first | with_reducible rfl | with_reducible exact True.intro | with_reducible intro _ | with_reducible refine And.intro ?_ ?_ | (with_reducible refine hN _ ?_; (try (clear hG; clear Kg)); clear hN hX hR; clear Kv) | (with_reducible refine hX _ _ ?_; (try (clear hG; clear Kg)); clear hN hX hR; clear Kv) | (with_reducible refine hR _ ?_; (try (clear hG; clear Kg)); clear hN hX hR; clear Kv) | with_reducible refine body_stop (fun Kv hN hX hR => ?_) | with_reducible refine Stop.mk ?_ | with_reducible refine Join.mk ⟨fun Kv hN hX hR => ?_, ?_⟩ | with_reducible refine DrawJ.each ?_ | with_reducible exact SubJ.self _ | with_reducible refine SubJ.of ?_ | with_reducible refine fill2_step (fun Kf hF => ?_) | with_reducible refine fill2_nil ?_ | with_reducible refine node2_step (fun Kg hG => ?_) | (with_reducible refine hF _ _ ?_; clear hF; clear Kf) | (with_reducible refine hG _ _ _ _ ?_; clear hG; clear Kg)))); all_goals (conv => whnf); all_goals (repeat ((try (clear hG; clear Kg)); clear hN hX hR; clear Kv))
                     all_goals first
                       | exact wrapI (by omega) (by omega)
                       | exact congrArg Rw.bools g3
                       | (rw [hmin2]; exact wrapI (by omega) (by omega))
                       | rfl
                       | trace_state)
                  | trace_state
              · obtain ⟨f1, f2, f3⟩ := greet_item hB hlt hin
                have hmin : min i (tickV x.view).2.1.length = min (i + 1) (tickV x.view).2.1.length := by omega
                have htk : (tickV x.view).2.1.take i = (tickV x.view).2.1.take (i + 1) := by rw [List.take_of_length_le (by omega), List.take_of_length_le (by omega)]
                (try simp only [f1, f2, f3] at *)
                first
                  | (exfalso
                     first
                       | exact absurd (show (!true) = true by with_reducible assumption) (by decide)
                       | exact absurd (show (!decide True) = true by with_reducible assumption) (by simp)
                       | exact absurd (show (!decide ((1 : Int) = 0)) = false by with_reducible assumption) (by decide))
                  | (refine ⟨i + 1, hin, by omega, ?_⟩
                     (repeat' (first | ((with_reducible refine body_intro ?_); (first | ((with_reducible refine seq_intro ?_ (fun Kv hN hX hR => ?_)); (next => exact rfl)) | ((with_reducible refine join_intro ?_ ?_); (next => exact rfl)) | (conv => whnf))) | with_reducible refine body_stop (fun Kv hN hX hR => ?_) | with_reducible refine Stop.mk ?_ | with_reducible refine Join.mk ⟨fun Kv hN hX hR => ?_, ?_⟩ | with_reducible refine DrawJ.each ?_ | with_reducible exact SubJ.self _ | with_reducible refine SubJ.of ?_ | with_reducible refine fill2_step (fun Kf hF => ?_) | with_reducible refine fill2_nil ?_ | with_reducible refine node2_step (fun Kg hG => ?_) | (with_reducible refine hF _ _ ?_; clear hF; clear Kf) | (with_reducible refine hG _ _ _ _ ?_; clear hG; clear Kg) | ((with_reducible refine seq_intro ?_ (fun Kv hN hX hR => ?_)); (next => exact rfl)) | ((with_reducible refine join_intro ?_ ?_); (next => exact rfl)) | (with_reducible refine hN _ ?_; (try (clear hG; clear Kg)); clear hN hX hR; clear Kv) | (with_reducible refine hX _ _ ?_; (try (clear hG; clear Kg)); clear hN hX hR; clear Kv) | (with_reducible refine hR _ ?_; (try (clear hG; clear Kg)); clear hN hX hR; clear Kv) | ((conv => whnf); first | with_reducible rfl | with_reducible exact True.intro | with_reducible intro _ | with_reducible refine And.intro ?_ ?_ | (with_reducible refine hN _ ?_; (try (clear hG; clear Kg)); clear hN hX hR; clear Kv) | (with_reducible refine hX _ _ ?_; (try (clear hG; clear Kg)); clear hN hX hR; clear Kv) | (with_reducible refine hR _ ?_; (try (clear hG; clear Kg)); clear hN hX hR; clear Kv) | with_reducible refine body_stop (fun Kv hN hX hR => ?_) | with_reducible refine Stop.mk ?_ | with_reducible refine Join.mk ⟨fun Kv hN hX hR => ?_, ?_⟩ | with_reducible refine DrawJ.each ?_ | with_reducible exact SubJ.self _ | with_reducible refine SubJ.of ?_ | with_reducible refine fill2_step (fun Kf hF => ?_) | with_reducible refine fill2_nil ?_ | with_reducible refine node2_step (fun Kg hG => ?_) | (with_reducible refine hF _ _ ?_; clear hF; clear Kf) | (with_reducible refine hG _ _ _ _ ?_; clear hG; clear Kg)))); all_goals (conv => whnf); all_goals (repeat ((try (clear hG; clear Kg)); clear hN hX hR; clear Kv))
                     all_goals first
                       | exact wrapI (by omega) (by omega)
                       | exact congrArg (fun z => Rw.bools (marksL z)) htk
                       | exact congrArg (fun z : Nat => (z : Int)) hmin
                       | rfl
                       | trace_state)
                  | trace_state)
           | (have h := of_decide_eq_false (show decide ((i : Int) < ((tickN x).2.1.length : Nat)) = false by with_reducible assumption)
              have hT : (tickV x.view).2.1.take i = (tickV x.view).2.1 := List.take_of_length_le (by omega)
              have hmin : min i (tickV x.view).2.1.length = (tickV x.view).2.1.length := by omega
              rw [hT, hmin]
              first
                | (refine ⟨0, Nat.zero_le _, ?_⟩
                   (repeat' (first | ((with_reducible refine body_intro ?_); (first | ((with_reducible refine seq_intro ?_ (fun Kv hN hX hR => ?_)); (next => exact rfl)) | ((with_reducible refine join_intro ?_ ?_); (next => exact rfl)) | (conv => whnf))) | with_reducible refine body_stop (fun Kv hN hX hR => ?_) | with_reducible refine Stop.mk ?_ | with_reducible refine Join.mk ⟨fun Kv hN hX hR => ?_, ?_⟩ | with_reducible refine DrawJ.each ?_ | with_reducible exact SubJ.self _ | with_reducible refine SubJ.of ?_ | with_reducible refine fill2_step (fun Kf hF => ?_) | with_reducible refine fill2_nil ?_ | with_reducible refine node2_step (fun Kg hG => ?_) | (with_reducible refine hF _ _ ?_; clear hF; clear Kf) | (with_reducible refine hG _ _ _ _ ?_; clear hG; clear Kg) | ((with_reducible refine seq_intro ?_ (fun Kv hN hX hR => ?_)); (next => exact rfl)) | ((with_reducible refine join_intro ?_ ?_); (next => exact rfl)) | (with_reducible refine hN _ ?_; (try (clear hG; clear Kg)); clear hN hX hR; clear Kv) | (with_reducible refine hX _ _ ?_; (try (clear hG; clear Kg)); clear hN hX hR; clear Kv) | (with_reducible refine hR _ ?_; (try (clear hG; clear Kg)); clear hN hX hR; clear Kv) | ((conv => whnf); first | with_reducible rfl | with_reducible exact True.intro | with_reducible intro _ | with_reducible refine And.intro ?_ ?_ | (with_reducible refine hN _ ?_; (try (clear hG; clear Kg)); clear hN hX hR; clear Kv) | (with_reducible refine hX _ _ ?_; (try (clear hG; clear Kg)); clear hN hX hR; clear Kv) | (with_reducible refine hR _ ?_; (try (clear hG; clear Kg)); clear hN hX hR; clear Kv) | with_reducible refine body_stop (fun Kv hN hX hR => ?_) | with_reducible refine Stop.mk ?_ | with_reducible refine Join.mk ⟨fun Kv hN hX hR => ?_, ?_⟩ | with_reducible refine DrawJ.each ?_ | with_reducible exact SubJ.self _ | with_reducible refine SubJ.of ?_ | with_reducible refine fill2_step (fun Kf hF => ?_) | with_reducible refine fill2_nil ?_ | with_reducible refine node2_step (fun Kg hG => ?_) | (with_reducible refine hF _ _ ?_; clear hF; clear Kf) | (with_reducible refine hG _ _ _ _ ?_; clear hG; clear Kg)))); all_goals (conv => whnf); all_goals (repeat ((try (clear hG; clear Kg)); clear hN hX hR; clear Kv))
                   all_goals rfl)
                | (with_reducible intro j hj
                   have hj : j ≤ x.view.peers.length := hj
                   (repeat' (first | ((with_reducible refine body_intro ?_); (first | ((with_reducible refine seq_intro ?_ (fun Kv hN hX hR => ?_)); (next => exact rfl)) | ((with_reducible refine join_intro ?_ ?_); (next => exact rfl)) | (conv => whnf))) | with_reducible refine body_stop (fun Kv hN hX hR => ?_) | with_reducible refine Stop.mk ?_ | with_reducible refine Join.mk ⟨fun Kv hN hX hR => ?_, ?_⟩ | with_reducible refine DrawJ.each ?_ | with_reducible exact SubJ.self _ | with_reducible refine SubJ.of ?_ | with_reducible refine fill2_step (fun Kf hF => ?_) | with_reducible refine fill2_nil ?_ | with_reducible refine node2_step (fun Kg hG => ?_) | (with_reducible refine hF _ _ ?_; clear hF; clear Kf) | (with_reducible refine hG _ _ _ _ ?_; clear hG; clear Kg) | ((with_reducible refine seq_intro ?_ (fun Kv hN hX hR => ?_)); (next => exact rfl)) | ((with_reducible refine join_intro ?_ ?_); (next => exact rfl)) | (with_reducible refine hN _ ?_; (try (clear hG; clear Kg)); clear hN hX hR; clear Kv) | (with_reducible refine hX _ _ ?_; (try (clear hG; clear Kg)); clear hN hX hR; clear Kv) | (with_reducible refine hR _ ?_; (try (clear hG; clear Kg)); clear hN hX hR; clear Kv) | ((conv => whnf); first | with_reducible rfl | with_reducible exact True.intro | with_reducible refine (fun (_ : (_ : Prop)) => ?_) | with_reducible refine And.intro ?_ ?_ | (with_reducible refine hN _ ?_; (try (clear hG; clear Kg)); clear hN hX hR; clear Kv) | (with_reducible refine hX _ _ ?_; (try (clear hG; clear Kg)); clear hN hX hR; clear Kv) | (with_reducible refine hR _ ?_; (try (clear hG; clear Kg)); clear hN hX hR; clear Kv) | with_reducible refine body_stop (fun Kv hN hX hR => ?_) | with_reducible refine Stop.mk ?_ | with_reducible refine Join.mk ⟨fun Kv hN hX hR => ?_, ?_⟩ | with_reducible refine DrawJ.each ?_ | with_reducible exact SubJ.self _ | with_reducible refine SubJ.of ?_ | with_reducible refine fill2_step (fun Kf hF => ?_) | with_reducible refine fill2_nil ?_ | with_reducible refine node2_step (fun Kg hG => ?_) | (with_reducible refine hF _ _ ?_; clear hF; clear Kf) | (with_reducible refine hG _ _ _ _ ?_; clear hG; clear Kg)))); all_goals (conv => whnf); all_goals (repeat ((try (clear hG; clear Kg)); clear hN hX hR; clear Kv))
                   all_goals (try simp only [etaView, Int.toNat_natCast] at *)
                   all_goals first
                     | exact Ob.mk ⟨by omega, of_decide_eq_true (by with_reducible assumption)⟩
                     | (have h := of_decide_eq_true (show decide ((j : Int) < (x.view.peers.length : Nat)) = true by with_reducible assumption)
                        have hlt : j < x.view.peers.length := by omega
                        have hx := q5 _ (getD_mem (d := default) hlt)
                        have hm := q4 _ hx
                        have g0 := place_iff.1 hm.1
                        have g1 := marksL_get (l := (tickV x.view).2.1) hm.1
                        rw [decide_eq_true hx] at g1
                        first
                          | exact Ob.mk ⟨g0.1, g0.2, by rw [marksL_len]; exact Nat.le_refl _⟩
                          | (have h6 : (!(marksL (tickV x.view).2.1).getD (x.view.peers.getD j default).id.toNat false) = true := by with_reducible assumption
                             rw [g1] at h6
                             exact absurd h6 (by decide))
                          | (refine ⟨j + 1, hlt, by omega, ?_⟩
                             (repeat' (first | ((with_reducible refine body_intro ?_); (first | ((with_reducible refine seq_intro ?_ (fun Kv hN hX hR => ?_)); (next => exact rfl)) | ((with_reducible refine join_intro ?_ ?_); (next => exact rfl)) | (conv => whnf))) | with_reducible refine body_stop (fun Kv hN hX hR => ?_) | with_reducible refine Stop.mk ?_ | with_reducible refine Join.mk ⟨fun Kv hN hX hR => ?_, ?_⟩ | with_reducible refine DrawJ.each ?_ | with_reducible exact SubJ.self _ | with_reducible refine SubJ.of ?_ | with_reducible refine fill2_step (fun Kf hF => ?_) | with_reducible refine fill2_nil ?_ | with_reducible refine node2_step (fun Kg hG => ?_) | (with_reducible refine hF _ _ ?_; clear hF; clear Kf) | (with_reducible refine hG _ _ _ _ ?_; clear hG; clear Kg) | ((with_reducible refine seq_intro ?_ (fun Kv hN hX hR => ?_)); (next => exact rfl)) | ((with_reducible refine join_intro ?_ ?_); (next => exact rfl)) | (with_reducible refine hN _ ?_; (try (clear hG; clear Kg)); clear hN hX hR; clear Kv) | (with_reducible refine hX _ _ ?_; (try (clear hG; clear Kg)); clear hN hX hR; clear Kv) | (with_reducible refine hR _ ?_; (try (clear hG; clear Kg)); clear hN hX hR; clear Kv) | ((conv => whnf); first | with_reducible rfl | with_reducible exact True.intro | with_reducible intro _ | with_reducible refine And.intro ?_ ?_ | (with_reducible refine hN _ ?_; (try (clear hG; clear Kg)); clear hN hX hR; clear Kv) | (with_reducible refine hX _ _ ?_; (try (clear hG; clear Kg)); clear hN hX hR; clear Kv) | (with_reducible refine hR _ ?_; (try (clear hG; clear Kg)); clear hN hX hR; clear Kv) | with_reducible refine body_stop (fun Kv hN hX hR => ?_) | with_reducible refine Stop.mk ?_ | with_reducible refine Join.mk ⟨fun Kv hN hX hR => ?_, ?_⟩ | with_reducible refine DrawJ.each ?_ | with_reducible exact SubJ.self _ | with_reducible refine SubJ.of ?_ | with_reducible refine fill2_step (fun Kf hF => ?_) | with_reducible refine fill2_nil ?_ | with_reducible refine node2_step (fun Kg hG => ?_) | (with_reducible refine hF _ _ ?_; clear hF; clear Kf) | (with_reducible refine hG _ _ _ _ ?_; clear hG; clear Kg)))); all_goals (conv => whnf); all_goals (repeat ((try (clear hG; clear Kg)); clear hN hX hR; clear Kv))
                             all_goals first
                               | exact wrapI (by omega) (by omega)
                               | rfl
                               | trace_state)
                          | trace_state)
                     | (refine ⟨0, Nat.zero_le _, ?_⟩
                        (repeat' (first | ((with_reducible refine body_intro ?_); (first | ((with_reducible refine seq_intro ?_ (fun Kv hN hX hR => ?_)); (next => exact rfl)) | ((with_reducible refine join_intro ?_ ?_); (next => exact rfl)) | (conv => whnf))) | with_reducible refine body_stop (fun Kv hN hX hR => ?_) | with_reducible refine Stop.mk ?_ | with_reducible refine Join.mk ⟨fun Kv hN hX hR => ?_, ?_⟩ | with_reducible refine DrawJ.each ?_ | with_reducible exact SubJ.self _ | with_reducible refine SubJ.of ?_ | with_reducible refine fill2_step (fun Kf hF => ?_) | with_reducible refine fill2_nil ?_ | with_reducible refine node2_step (fun Kg hG => ?_) | (with_reducible refine hF _ _ ?_; clear hF; clear Kf) | (with_reducible refine hG _ _ _ _ ?_; clear hG; clear Kg) | ((with_reducible refine seq_intro ?_ (fun Kv hN hX hR => ?_)); (next => exact rfl)) | ((with_reducible refine join_intro ?_ ?_); (next => exact rfl)) | (with_reducible refine hN _ ?_; (try (clear hG; clear Kg)); clear hN hX hR; clear Kv) | (with_reducible refine hX _ _ ?_; (try (clear hG; clear Kg)); clear hN hX hR; clear Kv) | (with_reducible refine hR _ ?_; (try (clear hG; clear Kg)); clear hN hX hR; clear Kv) | ((conv => whnf); first | with_reducible rfl | with_reducible exact True.intro | with_reducible intro _ | with_reducible refine And.intro ?_ ?_ | (with_reducible refine hN _ ?_; (try (clear hG; clear Kg)); clear hN hX hR; clear Kv) | (with_reducible refine hX _ _ ?_; (try (clear hG; clear Kg)); clear hN hX hR; clear Kv) | (with_reducible refine hR _ ?_; (try (clear hG; clear Kg)); clear hN hX hR; clear Kv) | with_reducible refine body_stop (fun Kv hN hX hR => ?_) | with_reducible refine Stop.mk ?_ | with_reducible refine Join.mk ⟨fun Kv hN hX hR => ?_, ?_⟩ | with_reducible refine DrawJ.each ?_ | with_reducible exact SubJ.self _ | with_reducible refine SubJ.of ?_ | with_reducible refine fill2_step (fun Kf hF => ?_) | with_reducible refine fill2_nil ?_ | with_reducible refine node2_step (fun Kg hG => ?_) | (with_reducible refine hF _ _ ?_; clear hF; clear Kf) | (with_reducible refine hG _ _ _ _ ?_; clear hG; clear Kg)))); all_goals (conv => whnf); all_goals (repeat ((try (clear hG; clear Kg)); clear hN hX hR; clear Kv))
                        all_goals rfl)
                     | (with_reducible intro k hk
                        have hk : k ≤ x.view.passive.length := hk
                        (repeat' (first | ((with_reducible refine body_intro ?_); (first | ((with_reducible refine seq_intro ?_ (fun Kv hN hX hR => ?_)); (next => exact rfl)) | ((with_reducible refine join_intro ?_ ?_); (next => exact rfl)) | (conv => whnf))) | with_reducible refine body_stop (fun Kv hN hX hR => ?_) | with_reducible refine Stop.mk ?_ | with_reducible refine Join.mk ⟨fun Kv hN hX hR => ?_, ?_⟩ | with_reducible refine DrawJ.each ?_ | with_reducible exact SubJ.self _ | with_reducible refine SubJ.of ?_ | with_reducible refine fill2_step (fun Kf hF => ?_) | with_reducible refine fill2_nil ?_ | with_reducible refine node2_step (fun Kg hG => ?_) | (with_reducible refine hF _ _ ?_; clear hF; clear Kf) | (with_reducible refine hG _ _ _ _ ?_; clear hG; clear Kg) | ((with_reducible refine seq_intro ?_ (fun Kv hN hX hR => ?_)); (next => exact rfl)) | ((with_reducible refine join_intro ?_ ?_); (next => exact rfl)) | (with_reducible refine hN _ ?_; (try (clear hG; clear Kg)); clear hN hX hR; clear Kv) | (with_reducible refine hX _ _ ?_; (try (clear hG; clear Kg)); clear hN hX hR; clear Kv) | (with_reducible refine hR _ ?_; (try (clear hG; clear Kg)); clear hN hX hR; clear Kv) | ((conv => whnf); first | with_reducible rfl | with_reducible exact True.intro | with_reducible refine (fun (_ : (_ : Prop)) => ?_) | with_reducible refine And.intro ?_ ?_ | (with_reducible refine hN _ ?_; (try (clear hG; clear Kg)); clear hN hX hR; clear Kv) | (with_reducible refine hX _ _ ?_; (try (clear hG; clear Kg)); clear hN hX hR; clear Kv) | (with_reducible refine hR _ ?_; (try (clear hG; clear Kg)); clear hN hX hR; clear Kv) | with_reducible refine body_stop (fun Kv hN hX hR => ?_) | with_reducible refine Stop.mk ?_ | with_reducible refine Join.mk ⟨fun Kv hN hX hR => ?_, ?_⟩ | with_reducible refine DrawJ.each ?_ | with_reducible exact SubJ.self _ | with_reducible refine SubJ.of ?_ | with_reducible refine fill2_step (fun Kf hF => ?_) | with_reducible refine fill2_nil ?_ | with_reducible refine node2_step (fun Kg hG => ?_) | (with_reducible refine hF _ _ ?_; clear hF; clear Kf) | (with_reducible refine hG _ _ _ _ ?_; clear hG; clear Kg)))); all_goals (conv => whnf); all_goals (repeat ((try (clear hG; clear Kg)); clear hN hX hR; clear Kv))
                        all_goals (try simp only [etaView, etaNode2, Int.toNat_natCast] at *)
                        all_goals first
                          | exact Ob.mk ⟨by omega, of_decide_eq_true (by with_reducible assumption)⟩
                          | (have h := of_decide_eq_true (show decide ((k : Int) < (x.view.passive.length : Nat)) = true by with_reducible assumption)
                             have hlt : k < x.view.passive.length := by omega
                             have hx := q6 _ (getD_mem (d := 0) hlt)
                             have hm := q4 _ hx
                             have g0 := place_iff.1 hm.1
                             have g1 := marksL_get (l := (tickV x.view).2.1) hm.1
                             rw [decide_eq_true hx] at g1
                             first
                               | exact Ob.mk ⟨g0.1, g0.2, by rw [marksL_len]; exact Nat.le_refl _⟩
                               | (have h6 : (!(marksL (tickV x.view).2.1).getD (x.view.passive.getD k 0).toNat false) = true := by with_reducible assumption
                                  rw [g1] at h6
                                  exact absurd h6 (by decide))
                               | (refine ⟨k + 1, hlt, by omega, ?_⟩
                                  (repeat' (first | ((with_reducible refine body_intro ?_); (first | ((with_reducible refine seq_intro ?_ (fun Kv hN hX hR => ?_)); (next => exact rfl)) | ((with_reducible refine join_intro ?_ ?_); (next => exact rfl)) | (conv => whnf))) | with_reducible refine body_stop (fun Kv hN hX hR => ?_) | with_reducible refine Stop.mk ?_ | with_reducible refine Join.mk ⟨fun Kv hN hX hR => ?_, ?_⟩ | with_reducible refine DrawJ.each ?_ | with_reducible exact SubJ.self _ | with_reducible refine SubJ.of ?_ | with_reducible refine fill2_step (fun Kf hF => ?_) | with_reducible refine fill2_nil ?_ | with_reducible refine node2_step (fun Kg hG => ?_) | (with_reducible refine hF _ _ ?_; clear hF; clear Kf) | (with_reducible refine hG _ _ _ _ ?_; clear hG; clear Kg) | ((with_reducible refine seq_intro ?_ (fun Kv hN hX hR => ?_)); (next => exact rfl)) | ((with_reducible refine join_intro ?_ ?_); (next => exact rfl)) | (with_reducible refine hN _ ?_; (try (clear hG; clear Kg)); clear hN hX hR; clear Kv) | (with_reducible refine hX _ _ ?_; (try (clear hG; clear Kg)); clear hN hX hR; clear Kv) | (with_reducible refine hR _ ?_; (try (clear hG; clear Kg)); clear hN hX hR; clear Kv) | ((conv => whnf); first | with_reducible rfl | with_reducible exact True.intro | with_reducible intro _ | with_reducible refine And.intro ?_ ?_ | (with_reducible refine hN _ ?_; (try (clear hG; clear Kg)); clear hN hX hR; clear Kv) | (with_reducible refine hX _ _ ?_; (try (clear hG; clear Kg)); clear hN hX hR; clear Kv) | (with_reducible refine hR _ ?_; (try (clear hG; clear Kg)); clear hN hX hR; clear Kv) | with_reducible refine body_stop (fun Kv hN hX hR => ?_) | with_reducible refine Stop.mk ?_ | with_reducible refine Join.mk ⟨fun Kv hN hX hR => ?_, ?_⟩ | with_reducible refine DrawJ.each ?_ | with_reducible exact SubJ.self _ | with_reducible refine SubJ.of ?_ | with_reducible refine fill2_step (fun Kf hF => ?_) | with_reducible refine fill2_nil ?_ | with_reducible refine node2_step (fun Kg hG => ?_) | (with_reducible refine hF _ _ ?_; clear hF; clear Kf) | (with_reducible refine hG _ _ _ _ ?_; clear hG; clear Kg)))); all_goals (conv => whnf); all_goals (repeat ((try (clear hG; clear Kg)); clear hN hX hR; clear Kv))
                                  all_goals first
                                    | exact wrapI (by omega) (by omega)
                                    | rfl
                                    | trace_state)
                               | trace_state)
                          | (have hi3 : (tickN x).1.items = x.items := by rw [e1]
                             have hi4 : (tickN x).1.log = x.log := by rw [e1]
                             have hi5 : nodeB (tickN x).1 = true := by rw [e1]; exact e2
                             simp only [hi3, hi4, hi5, w1, q1] at *
                             first
                               | done
                               | rfl
                               | exact absurd (show decide True = false by with_reducible assumption) (by simp)
                               | (exact decide_eq_true (by omega))
                               | trace_state)
                          | trace_state)
                     | trace_state)
                | trace_state)
           | trace_state)
      | trace_state
end Go.Proofs.Ytmhieddhmebfhaa
