/- A part of the proof of a law: F16a, Fx, VSt, VLa, ClInts, VLb, VLc, VLd, InsInts, F16b, F16c. -/
import Derived.Test.YtjjpakdlkjaigaaGreatMB5
import Derived.Laws.Strings
import Derived.Shelf.RegionOpenPlain
import Derived.Lib.Walk
import Derived.Lib.SliceRun
import Derived.Laws.AppendOwn
import Derived.Conc.AppendEvents2
import Derived.Sort.Row
import Derived.Laws.IdiomCopy
import Derived.Lib.Overlaps
import Derived.Laws.Externs
import Derived.WalkKit
import Derived.Deep.LoopGhost
import Derived.Deep.RegionLaw
import Derived.Lib.AppendZeros
import Derived.Lib.AppendZerosOnto
import Derived.Maps.AppendAt
set_option linter.all false
set_option linter.unusedVariables false
set_option linter.unusedSimpArgs false
set_option linter.unusedSectionVars false
/- Contracts: distances, comparisons, searches. -/
namespace Go.Proofs.YtjjpakdlkjaigaaGreat
open Go.RowKit
set_option maxRecDepth 20000
def farI (a b : Int) : Int := (IntKind.i64.wrap (IntKind.i64.wrap (b - a) + 256)).tmod 256
theorem farI_eq {a b : Int} (h1 : 0 ≤ a) (h2 : a < 256) (h3 : 0 ≤ b) (h4 : b < 256) : farI a b = (b - a + 256) % 256 := by
 unfold farI
 rw [wrapI (n := b - a) (by omega) (by omega), wrapI (by omega) (by omega), tmod_pos (by omega)]
def cmpI (a b : Int) : Int := if a < b then -1 else if b < a then 1 else 0
theorem k_Far : Known Tryz.prog tau 228 (S2 dInt dInt fun a b => .ok (.int .i64 (farI a b)) []) := by
 refine known2 hmix tau_ok ctx_nil (fn := Tryz.f228) (by kernel_rfl) [] (by kernel_rfl) _ _ _ fun a b hfit => ⟨rfl, [], ?_⟩
 refine V1 ?_; constructor <;> (first | (with_reducible exact TT.i) | (intros; (repeat (apply Wk.mk; intro Kv hN hX hR)); apply Wr.mk))
 all_goals first
  | (refine Ob.mk ?_; decide)
  | rfl
theorem k_reffar : Known Tryz.prog tau 205 (S2 dInt dInt fun a b => .ok (.int .i64 (farI a b)) []) := by
 refine known2 hmix tau_ok ctx_nil (fn := Tryz.f205) (by kernel_rfl) [] (by kernel_rfl) _ _ _ fun a b hfit => ⟨rfl, [], ?_⟩
 refine V1 ?_; constructor <;> (first | (with_reducible exact TT.i) | (intros; (repeat (apply Wk.mk; intro Kv hN hX hR)); apply Wr.mk))
 all_goals first
  | (refine Ob.mk ?_; decide)
  | rfl
theorem k_cmpNaN : Known Tryz.prog tau 185 (S1 dInt fun a => okB false) := by
 refine known1 hmix tau_ok ctx_nil (fn := Tryz.f185) (by kernel_rfl) [] (by kernel_rfl) _ _ fun a hfit => ⟨rfl, [], ?_⟩
 refine V1 ?_; constructor <;> (first | (with_reducible exact TT.i) | (intros; (repeat (apply Wk.mk; intro Kv hN hX hR)); apply Wr.mk))
 simp
theorem k_cmpCompare : Known Tryz.prog tau 140 (S2 dInt dInt fun a b => .ok (.int .i64 (cmpI a b)) []) := by
 refine known2 hmix tau_ok (ctx_cons k_cmpNaN ctx_nil) (fn := Tryz.f140) (by kernel_rfl) [] (by kernel_rfl) _ _ _ fun a b hfit => ⟨rfl, [], ?_⟩
 refine V1 ?_; constructor <;> (first | (with_reducible exact TT.i) | (intros; (repeat (apply Wk.mk; intro Kv hN hX hR)); apply Wr.mk))
 all_goals first
  | (exfalso; simp_all; done)
  | (simp only [decide_eq_true_eq, decide_eq_false_iff_not] at *
     simp [cmpI, *]
     done)
  | (simp only [decide_eq_true_eq, decide_eq_false_iff_not] at *
     unfold cmpI
     split
     · omega
     · split <;> omega)
theorem search_end {α : Type} {d : α} {l : List α} {κ : α → Int} {K : Int} {i : Nat} (hi : i ≤ l.length) (h1 : ∀ t, t < i → κ (l.getD t d) < K) (h2 : ∀ t, i ≤ t → t < l.length → K ≤ κ (l.getD t d)) : l.countP (fun x => decide (κ x < K)) = i := by
 have e : l = l.take i ++ l.drop i := (List.take_append_drop i l).symm
 have a1 : (l.take i).countP (fun x => decide (κ x < K)) = i := by
  rw [List.countP_eq_length.2, List.length_take, Nat.min_eq_left hi]
  intro x hx
  obtain ⟨t, ht, rfl⟩ := List.mem_take_iff_getElem.1 hx
  have := h1 t (by omega)
  simp only [List.getD_eq_getElem?_getD] at this
  rw [List.getElem?_eq_getElem (by omega)] at this
  simpa using this
 have a2 : (l.drop i).countP (fun x => decide (κ x < K)) = 0 := by
  rw [List.countP_eq_zero]
  intro x hx
  obtain ⟨t, ht, rfl⟩ := List.mem_drop_iff_getElem.1 hx
  have := h2 (i + t) (by omega) (by omega)
  simp only [List.getD_eq_getElem?_getD] at this
  rw [List.getElem?_eq_getElem (by omega)] at this
  simp at this ⊢
  exact this
 conv => lhs; rw [e]
 rw [List.countP_append, a1, a2]
 rfl
theorem search_there {α : Type} {d : α} {l : List α} {κ : α → Int} {K : Int} {i : Nat} (hs : ∀ s t, s < t → t < l.length → κ (l.getD s d) < κ (l.getD t d)) (h1 : ∀ t, t < i → κ (l.getD t d) < K) (h2 : ∀ t, i ≤ t → t < l.length → K ≤ κ (l.getD t d)) : l.any (fun x => decide (κ x = K)) = (decide (i < l.length) && decide (κ (l.getD i d) = K)) := by
 by_cases h : i < l.length ∧ κ (l.getD i d) = K
 · rw [decide_eq_true h.1, decide_eq_true h.2]
   refine List.any_eq_true.2 ⟨l.getD i d, getD_mem h.1, by simpa using h.2⟩
 · have : l.any (fun x => decide (κ x = K)) = false := by
    rw [List.any_eq_false]
    intro x hx hk
    obtain ⟨t, ht, rfl⟩ := List.mem_iff_getElem.1 hx
    have e : l.getD t d = l[t] := by simp [List.getD_eq_getElem?_getD, ht]
    have hk : κ (l.getD t d) = K := by rw [e]; simpa using hk
    rcases Nat.lt_trichotomy t i with h3 | h3 | h3
    · have := h1 t h3; omega
    · subst h3; exact h ⟨ht, hk⟩
    · have := hs i t h3 ht
      have := h2 i (Nat.le_refl _) (by omega)
      omega
   rw [this]
   by_cases h3 : i < l.length
   · have h4 : ¬ κ (l.getD i d) = K := fun h4 => h ⟨h3, h4⟩
     rw [decide_eq_false h4, Bool.and_false]
   · rw [decide_eq_false h3, Bool.false_and]
theorem mid_ok {i j n : Nat} (h : i < j) (hj : j ≤ n) (hn : n ≤ 17592186044416) : ∃ h : Nat, IntKind.i64.wrap (IntKind.u64.wrap (IntKind.i64.wrap ((i : Int) + (j : Int))) / 2 ^ (1 : Int).toNat) = (h : Int) ∧ i ≤ h ∧ h < j := by
 refine ⟨(i + j) / 2, ?_, by omega, by omega⟩
 rw [wrapI (n := (i : Int) + j) (by omega) (by omega), wu64]
 have e : (2 : Int) ^ (1 : Int).toNat = 2 := by decide
 rw [e, wrapI (by omega) (by omega)]
 omega
def Rising (l : List Int) : Prop := ∀ s t, s < t → t < l.length → l.getD s 0 < l.getD t 0
theorem k_cmpLess : Known Tryz.prog tau 219 (S2 dInt dInt fun a b => okB (decide (a < b))) := by
 refine known2 hmix tau_ok (ctx_cons k_cmpNaN ctx_nil) (fn := Tryz.f219) (by kernel_rfl) [] (by kernel_rfl) _ _ _ fun a b hfit => ⟨rfl, [], ?_⟩
 refine V1 ?_; constructor <;> (first | (with_reducible exact TT.i) | (intros; (repeat (apply Wk.mk; intro Kv hN hX hR)); apply Wr.mk))
 all_goals simp_all
theorem k_sNaN : Known Tryz.prog tau 220 (S1 dInt fun a => okB false) := by
 refine known1 hmix tau_ok ctx_nil (fn := Tryz.f220) (by kernel_rfl) [] (by kernel_rfl) _ _ fun a hfit => ⟨rfl, [], ?_⟩
 refine V1 ?_; constructor <;> (first | (with_reducible exact TT.i) | (intros; (repeat (apply Wk.mk; intro Kv hN hX hR)); apply Wr.mk))
 simp
theorem wrap_up {h n : Nat} (hh : h < n) (hn : n ≤ 17592186044416) : IntKind.i64.wrap ((h : Int) + 1) = ((h + 1 : Nat) : Int) := by
 rw [wrapI (by omega) (by omega)]; omega
theorem rising_lt {l : List Int} (hs : Rising l) {s t : Nat} (h : s ≤ t) (ht : t < l.length) : l.getD s 0 ≤ l.getD t 0 := by
 rcases Nat.lt_or_eq_of_le h with h | rfl
 · exact Int.le_of_lt (hs s t h ht)
 · exact Int.le_refl _
def cntI (l : List Int) (x : Int) : Int := ((l.countP fun y => decide (y < x) : Nat) : Int)
def hasI (l : List Int) (x : Int) : Bool := l.any fun y => decide (y = x)
theorem k_search : Known Tryz.prog tau 199 (S2 dInts dInt fun l x => .ob (Rising l) (.tup [.int .i64 (cntI l x), .bool (hasI l x)]) []) := by
 refine known2 hmix tau_ok (ctx_cons k_cmpLess (ctx_cons k_sNaN ctx_nil)) (fn := Tryz.f199) (by kernel_rfl) [] (by kernel_rfl) _ _ _ fun l x hfit hs => ⟨rfl,
  [(3, invX (Nat × Nat) [7, 8, 9, 13, 14, 15, 16, 17, 18, 19, 20, 21, 22, 23, 24, 25, 26, 27, 28, 29, 30] [] (fun g => g.1 ≤ g.2 ∧ g.2 ≤ l.length ∧ (∀ t, t < g.1 → l.getD t 0 < x) ∧ ∀ t, g.2 ≤ t → t < l.length → x ≤ l.getD t 0) (fun g => withS [(7, .int .i64 g.1), (8, .int .i64 g.2)]) (fun g => g.2 - g.1))], ?_⟩
 have hlen : l.length * 8 ≤ 140737488355328 := hfit.1
 clear hfit
 refine V2 ?_; constructor <;> (first | (with_reducible exact TT.i) | (intros; (repeat (apply Wk.mk; intro Kv hN hX hR)); apply Wr.mk))
 all_goals first
  | (refine ⟨(0, l.length), ⟨Nat.zero_le _, Nat.le_refl _, by intros; omega, by intros; omega⟩, ?_⟩
     refine V1 ?_; constructor <;> (first | (with_reducible exact TT.i) | (intros; (repeat (apply Wk.mk; intro Kv hN hX hR)); apply Wr.mk))
     all_goals rfl)
  | (rintro ⟨i, j⟩ ⟨hij, hj, h1, h2⟩
     dsimp only at hij hj h1 h2
     refine V1 ?_; constructor <;> (first | (with_reducible exact TT.i) | (intros; (repeat (apply Wk.mk; intro Kv hN hX hR)); apply Wr.mk))
     all_goals (try dsimp only at *)
     all_goals first
      | (refine Ob.mk ?_; decide)
      | (have hlt := of_decide_eq_true (show decide ((i : Int) < (j : Int)) = true by with_reducible assumption)
         obtain ⟨h, eh, h3, h4⟩ := mid_ok (i := i) (j := j) (n := l.length) (by omega) hj (by omega)
         simp only [eh, Int.toNat_natCast] at *
         first
          | exact Ob.mk ⟨by omega, by omega⟩
          | (have hc := of_decide_eq_true (show decide (l.getD h 0 < x) = true by with_reducible assumption)
             refine ⟨(h + 1, j), ⟨by omega, hj, fun t ht => ?_, h2⟩, by show j - (h + 1) < j - i; omega, ?_⟩
             · have := rising_lt hs (s := t) (t := h) (by omega) (by omega)
               omega
             · have e1 := wrap_up (h := h) (n := l.length) (by omega) (by omega)
               refine V1 ?_; constructor <;> (first | (with_reducible exact TT.i) | (intros; (repeat (apply Wk.mk; intro Kv hN hX hR)); apply Wr.mk))
               all_goals first
                | exact e1
                | rfl)
          | (have hc := of_decide_eq_false (show decide (l.getD h 0 < x) = false by with_reducible assumption)
             refine ⟨(i, h), ⟨by omega, by omega, h1, fun t ht ht2 => ?_⟩, by show h - i < j - i; omega, ?_⟩
             · have := rising_lt hs (s := h) (t := t) ht ht2
               omega
             · refine V1 ?_; constructor <;> (first | (with_reducible exact TT.i) | (intros; (repeat (apply Wk.mk; intro Kv hN hX hR)); apply Wr.mk))
               all_goals rfl))
      | (have hge := of_decide_eq_false (show decide ((i : Int) < (j : Int)) = false by with_reducible assumption)
         obtain rfl : i = j := by omega
         have e1 : cntI l x = (i : Int) := congrArg Int.ofNat (search_end (d := 0) (κ := fun y => y) (K := x) hj h1 h2)
         have e2 : hasI l x = (decide (i < l.length) && decide (l.getD i 0 = x)) := search_there (d := 0) (κ := fun y => y) hs h1 h2
         (try simp only [Int.toNat_natCast] at *)
         first
          | exact Ob.mk ⟨by omega, of_decide_eq_true aQ⟩
          | exact e1.symm
          | (have a2 := of_decide_eq_true (show decide (l.getD i 0 = x) = true by with_reducible assumption)
             have a1 := of_decide_eq_true (show decide ((i : Int) < (l.length : Nat)) = true by with_reducible assumption)
             rw [e2, decide_eq_true a2, decide_eq_true (show i < l.length by omega)]
             rfl)
          | (have a2 := of_decide_eq_false (show decide (l.getD i 0 = x) = false by with_reducible assumption)
             rw [e2, decide_eq_false a2, Bool.and_false])
          | (have a1 := of_decide_eq_false (show decide ((i : Int) < (l.length : Nat)) = false by with_reducible assumption)
             rw [e2, decide_eq_false (show ¬ i < l.length by omega), Bool.false_and])))
end Go.Proofs.YtjjpakdlkjaigaaGreat

/- Small laws of lists. -/
namespace Go.Proofs.YtjjpakdlkjaigaaGreat
open Go.RowKit
def idxI {α : Type} (p : α → Bool) (l : List α) : Int := match l.findIdx? p with
 | some i => (i : Int)
 | none => -1
theorem idxI_at {α : Type} {p : α → Bool} {l : List α} {i : Nat} {d : α} (hi : i < l.length) (h : ∀ x ∈ l.take i, p x = false) (hp : p (l.getD i d) = true) : idxI p l = i := by
 have : l.findIdx? p = some i := by
  rw [List.findIdx?_eq_some_iff_getElem]
  refine ⟨hi, by simpa [List.getD_eq_getElem?_getD, hi] using hp, fun j hj => ?_⟩
  have := h l[j] (by
   rw [List.mem_take_iff_getElem]
   exact ⟨j, by omega, rfl⟩)
  simpa using this
 simp [idxI, this]
theorem idxI_none {α : Type} {p : α → Bool} {l : List α} (h : ∀ x ∈ l, p x = false) : idxI p l = -1 := by
 have : l.findIdx? p = none := by simpa [List.findIdx?_eq_none_iff] using h
 simp [idxI, this]
theorem idxI_ge {α : Type} (p : α → Bool) (l : List α) : decide (0 ≤ idxI p l) = l.any p := by
 cases h : l.any p with
 | true =>
   have : l.findIdx? p ≠ none := by
    intro e
    rw [List.findIdx?_eq_none_iff] at e
    simp only [List.any_eq_true] at h
    obtain ⟨x, hx, hp⟩ := h
    rw [e x hx] at hp
    simp at hp
   obtain ⟨i, hi⟩ := Option.ne_none_iff_exists'.1 this
   simp [idxI, hi]
 | false =>
   rw [idxI_none (fun x hx => by
    have := List.any_eq_false.1 h x hx
    simpa using this)]
   rfl
theorem any_not {α : Type} (p : α → Bool) (l : List α) : (l.any fun m => !p m) = !l.all p := by
 induction l with
 | nil => rfl
 | cons x l ih => simp [ih]
theorem nf {b : Bool} (h : (!b) = true) : b = false := by simpa using h
theorem nt {b : Bool} (h : (!b) = false) : b = true := by simpa using h
end Go.Proofs.YtjjpakdlkjaigaaGreat

/- A symbolic executor for loaded Go code: strings and their bytes. -/
namespace Go.Proofs.YtjjpakdlkjaigaaGreat
open Go.RowKit
def bs (l : List Int) : ByteArray := ⟨(bytesOf l).toArray⟩
end Go.Proofs.YtjjpakdlkjaigaaGreat

/- A symbolic executor for loaded Go code: the library's Clone. -/
namespace Go.Proofs.YtjjpakdlkjaigaaGreat
open Go.RowKit
section
variable {P : Program} {τ : Tys} {w0 : World} {E : Env} {w : World} {s : St} {bs : List (Array Value)}
theorem src_one {F : Nat → Prop} {r : Rw} {news : List Value} (hnl : news.length = r.len * r.sz) (hcd : ∀ i j x, i < r.len → (r.cell .any i)[j]? = some x → ∃ u, news[i * r.sz + j]? = some u ∧ cd1 w F x u) : ∀ u ∈ news, u.oneCell' = true := by
 intro u hu
 obtain ⟨m, hm, rfl⟩ := List.getElem_of_mem hu
 have hsp := sz_pos r
 have hm' : m < r.len * r.sz := by rw [← hnl]; exact hm
 have hi : m / r.sz < r.len := Nat.div_lt_of_lt_mul (by rw [Nat.mul_comm]; exact hm')
 have hj : m % r.sz < (r.cell .any (m / r.sz)).length := by rw [cell_len]; exact Nat.mod_lt _ hsp
 obtain ⟨u, hu, hd⟩ := hcd _ _ _ hi (List.getElem?_eq_getElem hj)
 rw [show m / r.sz * r.sz + m % r.sz = m by rw [Nat.mul_comm]; exact Nat.div_add_mod m r.sz, List.getElem?_eq_getElem hm] at hu
 injection hu with hu
 rw [hu]
 generalize (r.cell .any (m / r.sz))[m % r.sz] = q at hd
 cases q <;> first
  | exact hd.elim
  | (obtain rfl : u = _ := hd; rfl)
  | (obtain ⟨_, A, c, rfl, _⟩ := hd; rfl)
structure CloneW (P : Program) (f : FuncId) (e : TypeId) (sz bts : Nat) : Prop where
 ent : Enters P f
 nil : ∀ n c w, Calls P f #[.slice none n c] w fun x w' => x = .returned (.slice none 0 0) ∧ w' = w
 cells : ∀ (ad : Addr) (n c : Nat) (news : List Value) (w : World), news.length = n * sz → n ≤ maxLen → n * bts ≤ 140737488355328 → (∀ j u, news[j]? = some u → w.cell? (ad.add j) = some u) → (∀ u ∈ news, u.oneCell' = true) →
  Calls P f #[.slice (some ad) n c] w fun x w' => ∃ v', x = .returned v' ∧ w'.ownsRow w.heap.size e sz v' n news ∧ Below w.heap.size w w'
theorem bts_pos (r : Rw) : 1 ≤ r.bts := by cases r <;> simp [Rw.bts, Rw.kd, kdBytes]
theorem clone_core {f kd : Nat} (hW : CloneW P f (τ.et kd) (kdSz kd) (kdBytes kd)) (hd : Den τ w0 E s bs w) {x : SV} {v : Value} {t : Tag} {r : Rw} (hx : vd3 E s.rows w x v) (h : srcOf s.rows x = some (t, r)) (hk : r.kd = kd) :
  r.len * r.bts ≤ 140737488355328 ∧ Calls P f #[v] w fun x w' => ∃ v' us, x = .returned v' ∧ w'.ownsRow w.heap.size (τ.et kd) r.sz v' r.len us ∧ Below w.heap.size w w' ∧ ∀ i j x, i < r.len → (r.cell .any i)[j]? = some x → ∃ u, us[i * r.sz + j]? = some u ∧ cd1 w (E.F w t) x u := by
 obtain ⟨A, c, news, rfl, hnc, hfit, hnl, hcell, hcd⟩ := src_ok hd hx h
 refine ⟨hfit, ?_⟩
 have e1 : r.sz = kdSz kd := by unfold Rw.sz; rw [hk]
 have e2 : r.bts = kdBytes kd := by unfold Rw.bts; rw [hk]
 cases A with
 | none =>
   have h0 : r.len = 0 := by
    rcases Nat.eq_zero_or_pos r.len with h0 | h0
    · exact h0
    · obtain ⟨ad, hA, _⟩ := hcell h0; simp at hA
   refine (hW.nil r.len c w).mono ?_
   rintro e w' ⟨rfl, rfl⟩
   refine ⟨_, [], rfl, ?_, Below.refl _ _, fun i j x hi => by omega⟩
   rw [h0]
   exact World.ownsRow_nil _ _ _ _
 | some ad =>
   have hc : ∀ j u, news[j]? = some u → w.cell? (ad.add j) = some u := by
    intro j u hu
    have hlt := (List.getElem?_eq_some_iff.1 hu).1
    have hp : 0 < r.len := by
     rcases Nat.eq_zero_or_pos r.len with h0 | h0
     · rw [hnl, h0] at hlt; simp at hlt
     · exact h0
    obtain ⟨ad', hA, hh⟩ := hcell hp
    injection hA with hA
    subst hA
    exact hh j u hu
   have hb := bts_pos r
   have h63 : r.len ≤ maxLen := by
    have : r.len * 1 ≤ r.len * r.bts := Nat.mul_le_mul_left _ hb
    unfold maxLen
    omega
   refine (hW.cells ad r.len c news w (by rw [hnl, e1]) h63 (by rw [← e2]; exact hfit) hc (src_one hnl hcd)).mono ?_
   rintro e w' ⟨v', rfl, ho, hB⟩
   exact ⟨v', news, rfl, by rw [e1]; exact ho, hB, hcd⟩
theorem start0 (w : World) : Den τ w E0 ⟨[], [], [], [], 0⟩ [#[]] w := by
 refine ⟨Below.refl _ _, Nat.le_refl _, Nat.zero_le _, fun g hg => hg.elim, ?_, ?_, ?_, ?_, ?_, ?_⟩
 · intro i f hf
   cases i with
   | zero => simp at hf; subst hf; exact ⟨_, rfl, fun t => trivial⟩
   | succ i => simp at hf
 · intro k T cs hk; simp [lk] at hk
 · intro k e lo r hk; simp [lk] at hk
 · intro k k' b b' hk; simp [lk] at hk
 · intro k k' b e m hk; simp [lk] at hk
 · intro k k' e e' m m' g hk; simp [lk] at hk
theorem clone_known {α : Type} (A : Dec α) (R : α → Rw) (hA : ∀ a, A.e a = .row .any (R a)) (hR : ∀ a, (R a).flat = true) {f kd : Nat} (hkd : ∀ a, (R a).kd = kd) (hW : CloneW P f (τ.et kd) (kdSz kd) (kdBytes kd)) :
  Known P τ f (S1 A fun a => .ok (.own 0) [R a]) := by
 refine ⟨hW.ent, ?_⟩
 intro args vals w hargs
 unfold S1
 split
 · rename_i x
   split
   · rename_i a ha
     obtain rfl := A.ok _ _ ha
     obtain ⟨v, vs, rfl, h1, h2⟩ := hargs.inv_cons
     obtain rfl := h2.inv_nil
     rw [hA] at h1
     obtain ⟨hfit, hcall⟩ := clone_core (s := ⟨[], [], [], [], 0⟩) hW (start0 w) h1 (rfl : srcOf [] (.row .any (R a)) = some (.any, R a)) (hkd a)
     refine hcall.mono ?_
     rintro e w' ⟨v', us, rfl, ho, hB, hcd⟩
     refine ⟨v', rfl, hB, ⟨w.heap.size, w.heap.size, fun _ => 0, fun _ => v', fun g => v'.ownBlock = some g⟩, rfl, rfl, fun g hg => ?_, ?_, ?_, ?_⟩
     · exact ho.lt g hg
     · intro i r hi
       have : i = 0 ∧ r = R a := by
        cases i with
        | zero => simp at hi; exact ⟨rfl, hi.symm⟩
        | succ i => simp at hi
       obtain ⟨rfl, rfl⟩ := this
       refine ⟨fun g hg => hg, hfit, us, ?_, fun i j x hi hx => ?_⟩
       · rw [hkd a]; exact ho
       · obtain ⟨u, hu, hd⟩ := hcd i j x hi hx
         exact ⟨u, hu, (flat_sc (hR a) hx _ _ _ _ u).1 hd⟩
     · intro i j ri rj g hi hj hne
       have h1 : i = 0 := by cases i with
        | zero => rfl
        | succ i => simp at hi
       have h2 : j = 0 := by cases j with
        | zero => rfl
        | succ j => simp at hj
       omega
     · rfl
   · trivial
 · trivial
def cloneT (kd q : Nat) : CallT := fun args s K => match args, s with
 | [x], ⟨fr, stk, bx, rw, dep⟩ => match srcOf rw x with
   | some (t, r) => match Nat.beq r.kd kd, St.has (own0 (dep + q)) ⟨fr, stk, bx, rw, dep⟩ with
     | true, false => match tagOk t r with
       | true => K (.own (dep + q)) ⟨fr, stk, bx, upd rw (dep + q) (.own r), dep⟩
       | false => K (.own (dep + q)) ⟨fr, stk, bx, upd rw (dep + q) (.part 0 r), dep⟩
     | _, _ => False
   | none => False
 | _, _ => False
theorem clone_tr {f kd : Nat} (q : Nat) (hW : CloneW P f (τ.et kd) (kdSz kd) (kdBytes kd)) : TrKnown P τ f (cloneT kd q) := by
 refine ⟨hW.ent, ?_⟩
 intro w0 E s aS w args vals K hd hargs hT
 obtain ⟨fr, stk, bx, rw', dep⟩ := s
 unfold cloneT at hT
 split at hT
 rotate_left
 · exact hT.elim
 rename_i s' x fr' stk' bx' rw2 dep' hs
 injection hs with e1 e2 e3 e4 e5
 subst e1; subst e2; subst e3; subst e4; subst e5
 obtain ⟨v, vs, rfl, h1, h2⟩ := hargs.inv_cons
 obtain rfl := h2.inv_nil
 split at hT
 rotate_left
 · exact hT.elim
 rename_i t r hsrc
 split at hT
 rotate_left
 · exact hT.elim
 rename_i hk hno
 have hk := Nat.eq_of_beq_eq_true hk
 obtain ⟨hfit, hcall⟩ := clone_core hW hd h1 hsrc hk
 refine hcall.mono ?_
 rintro e w' ⟨v', us, rfl, ho, hB, hcd⟩
 have key : ∀ ent lo, ent.mine = some (lo, r) → (lo = 0 ∨ tagOk t r = true) → ∃ E', Den τ w0 E' ⟨fr, stk, bx, upd rw' (dep + q) ent, dep⟩ aS w' ∧ E'.base = E.base ∧ E.M ≤ E'.M ∧ vd3 E' (upd rw' (dep + q) ent) w' (.own (dep + q)) v' := by
  intro ent lo hm hlo
  have hg : w.grownBy w' none := ⟨hB.os, hB.tape, hB.output, hB.size, fun k hk _ => hB.block k hk⟩
  have hk2 : Keeps E (E.add (dep + q) v') w w' := grown_keeps hg (fun g hg => by simp at hg) rfl (by
   rintro g (hg | hg)
   · exact .inl hg
   · exact .inr (ho.lt g hg).1)
  refine ⟨E.add (dep + q) v', hd.newRow (dep + q) hno w' hg v' ent lo r hm us (fun g hg => ho.lt g hg) hfit ?_ ?_, rfl, Nat.le_refl _, ?_⟩
  · rw [hk]; exact ownsRow_less hd.Mh ho
  · intro i j x hi hx
    obtain ⟨u, hu, hcd'⟩ := hcd i j x hi hx
    refine ⟨u, hu, ?_⟩
    split
    · rename_i hlt
      rcases hlo with rfl | hlo
      · omega
      · exact cd1.mono (tag_up hx hcd' hlo) (hk2.F _)
    · exact cd1.mono (cd1.any hcd') (hk2.F _)
  · simp only [vd3, vd2, vd1, vd0, lk_upd, if_true]
    cases ent with
    | own r => simp [Env.add]
    | part lo r => simp [Env.add]
    | shared t r => simp [Ent.mine] at hm
 split at hT
 · rename_i htag
   obtain ⟨E', h3, h4, h5, h6⟩ := key (.own r) r.len rfl (.inr htag)
   exact ⟨v', _, _, E', rfl, hT, h3, h4, h5, h6⟩
 · obtain ⟨E', h3, h4, h5, h6⟩ := key (.part 0 r) 0 rfl (.inl rfl)
   exact ⟨v', _, _, E', rfl, hT, h3, h4, h5, h6⟩
end
end Go.Proofs.YtjjpakdlkjaigaaGreat

/- slices.Clone at one type: its walk. -/
namespace Go.Proofs.YtjjpakdlkjaigaaGreat
open Go.RowKit
set_option maxHeartbeats 1000000 in
theorem w_CloneInts : CloneW Tryz.prog 142 3 1 8 := by
 obtain ⟨hk10, het, ti, hti, hsz, hby, _⟩ := tau_ok.rk 3 0 (by kernel_rfl)
 obtain ⟨x0, z, g1, g2, g3, g4, g5, g6⟩ := (tau_ok.ti _ ti hti).info
 have g2 : x0.size = 1 := g2.trans hsz
 have g3 : x0.bytes = 8 := g3.trans hby
 have g5 : z.cells.size = 1 := g5.trans hsz
 clear hk10 het g6
 have t22 : Tryz.prog.underlying 27 = some (.slice 3) := Tryz.underlying27
 have q22 : ∀ (w : World) (a : Option Addr) (n c n' c' : Nat), (binOp .eql 27 (.slice a n c) (.slice none n' c')).run Tryz.prog w = .ok (.bool a.isNone) w := fun w a n c n' c' => Lib.run_eql_slice_nil w _ _ a n c n' c' t22
 refine ⟨fnOk_enters (fn := Tryz.f142) (D := []) (by kernel_rfl) (by kernel_rfl), fun n c w => ?_, fun ad n c news w hl hn hbig hc h1 => ?_⟩
 · go_enter Tryz.func142, Tryz.ntmps142
   go_wp2
   go_ret
   exact ⟨rfl, rfl⟩
 · have A : Aside (∀ j u, news[j]? = some u → w.cell? (ad.add j) = some u) := hc
   clear hc
   go_enter Tryz.func142, Tryz.ntmps142
   go_wp2_with (at_builtin; refine wpList_append_own _ rfl _ _ 27 rfl w.heap.size 3 x0 z 1 8 t22 g1 g4 g2 g3 g5 (by decide) _ _ _ rfl (World.ownsRow_made w #[] 0 (Nat.le_refl _) (Nat.zero_le _) (by simp)) ad n c news rfl ?qc1 ?qc2 ?qc3 ?qc4 ?qc5 ?qc6 ?_)
   case qc1 => exact hl
   case qc2 =>
    intro j u hj
    exact Lib.cell?_alloc_some _ (A.out j u hj)
   case qc3 => exact h1
   case qc4 => rw [Nat.zero_add]; exact hn
   case qc5 => rw [Nat.zero_add]; exact hbig
   case qc6 => simp
   intro v' w1 hown hgrow hnil
   go_wp2
   go_ret
   refine ⟨v', rfl, by simpa using hown, ?_⟩
   exact ((Below.refl _ w).alloc (Nat.le_refl _) _).grown hgrow (by simp) (by intro k hk; simp [Value.ownBlock] at hk; omega)
theorem k_CloneInts : Known Tryz.prog tau 142 (S1 dInts fun l => .ok (.own 0) [.ints l]) := clone_known dInts .ints (fun _ => rfl) (fun _ => rfl) (kd := 0) (fun _ => rfl) w_CloneInts
end Go.Proofs.YtjjpakdlkjaigaaGreat

/- A symbolic executor for loaded Go code: rows of one's own that the library turns: Delete, Insert. -/
namespace Go.Proofs.YtjjpakdlkjaigaaGreat
open Go.RowKit Go.Sort
section
variable {P : Program} {w : World}
theorem putRow_heap {g : Nat} {cur F : Array Value} {e : TypeId} (h : w.heap[g]? = some (.cells cur e (0, 0))) (hs : F.size = cur.size) : (putRow id w g 0 F).heap[g]? = some (.cells F e (0, 0)) := by
 unfold putRow mapBlock
 simp only [Array.getElem?_modify, if_true, h, Option.map_some, onCells]
 congr 2
 unfold putCells
 refine Array.ext (by simp [hs]) fun t h1 h2 => ?_
 simp only [Array.getElem_mapIdx, Nat.zero_le, true_and, Nat.zero_add, Nat.sub_zero, id]
 rw [if_pos (by omega)]
 simp [h2]
theorem putRow_grown (w : World) (g : Nat) (F : Array Value) : w.grownBy (putRow id w g 0 F) (some g) := by
 refine ⟨rfl, rfl, rfl, by simp [putRow, mapBlock], fun k hk hne => ?_⟩
 unfold putRow mapBlock
 simp only [Array.getElem?_modify]
 rw [if_neg (fun e => hne (by rw [e]))]
theorem holds_of_heap {g : Nat} {cur : Array Value} {e : TypeId} (h : w.heap[g]? = some (.cells cur e (0, 0))) : Holds id w g 0 cur := by
 intro j hj
 refine ⟨?_, ?_⟩
 · simp only [World.cell?, h, Nat.zero_add, id]
   rw [getElem!_pos cur j hj]
   simp [hj]
 · simp [World.frozen?, h]
theorem run_clear_k (w : World) (t e ty : TypeId) (z : Value) (ht : P.underlying t = some (.slice e)) (hv : ∀ w, (zeroValue e).run P w = .ok z w) (h1 : ∀ u ∈ z.cells, u.oneCell' = true) (b o n c : Nat) (hn : 0 < n)
  (hc : ∀ j, j < n * z.cells.size → (w.cell? ⟨b, o + j, none⟩).isSome = true) (hf : ∀ j, j < n * z.cells.size → w.frozen? ⟨b, o + j, none⟩ = false) :
  (Builtin.clear_ #[t] ty #[.slice (some ⟨b, o, none⟩) n c]).run P w = .ok (.tuple #[]) (w.setCells b o (Builtin.zeroCells z.cells n).toList) := by
 have hl : (Builtin.zeroCells z.cells n).toList.length = n * z.cells.size := by simp [Builtin.zeroCells]
 have hst := run_storeCells_cells (P := P) b o (Builtin.zeroCells z.cells n).toList 0 w (by rw [hl]; simpa using hc) (by rw [hl]; simpa using hf) (by
  intro v hv'
  simp only [Builtin.zeroCells, Array.toList_map, List.mem_map] at hv'
  obtain ⟨i, hi, rfl⟩ := hv'
  have hz : 0 < z.cells.size := by
   rcases Nat.eq_zero_or_pos z.cells.size with h0 | h0
   · simp [h0] at hi
   · exact h0
  rw [getElem!_pos z.cells _ (Nat.mod_lt _ hz)]
  exact h1 _ (Array.getElem_mem _))
 simp only [Nat.add_zero] at hst
 obtain ⟨m, rfl⟩ : ∃ m, n = m + 1 := ⟨n - 1, by omega⟩
 simp [Builtin.clear_, run_underlying ht, hv, hst]
theorem zeroCells_len (z : Array Value) (n : Nat) : (Builtin.zeroCells z n).toList.length = n * z.size := by simp [Builtin.zeroCells]
def layC (F : Array Value) (s : Nat) (vs : List Value) : Array Value := (F.toList.take s ++ vs ++ F.toList.drop (s + vs.length)).toArray
theorem layC_size {F : Array Value} {s : Nat} {vs : List Value} (h : s + vs.length ≤ F.size) : (layC F s vs).size = F.size := by
 simp [layC]
 omega
theorem layC_cons (F : Array Value) (s : Nat) (v : Value) (vs : List Value) (h : s + (v :: vs).length ≤ F.size) : layC (F.setIfInBounds s v) (s + 1) vs = layC F s (v :: vs) := by
 have h : s < F.toList.length := by simp at h ⊢; omega
 unfold layC
 congr 1
 rw [Array.toList_setIfInBounds]
 rw [List.take_succ_eq_append_getElem (by simpa using h), List.take_set_of_le (Nat.le_refl _), List.drop_set_of_lt (by omega)]
 simp only [List.getElem_set_self, List.append_assoc, List.cons_append, List.nil_append, List.length_cons]
 rw [show s + 1 + vs.length = s + (vs.length + 1) by omega]
theorem setCells_layC (w : World) (g : Nat) : ∀ (vs : List Value) (s : Nat) (F : Array Value), s + vs.length ≤ F.size → (putRow id w g 0 F).setCells g s vs = putRow id w g 0 (layC F s vs)
 | [], s, F, _ => by simp [layC, World.setCells]
 | v :: vs, s, F, h => by
   have h1 := putRow_set id w g 0 F s v (by simp at h; omega)
   rw [Nat.zero_add] at h1
   rw [World.setCells]
   have h2 : (putRow id w g 0 F).setCell ⟨g, s, none⟩ v = putRow id w g 0 (F.setIfInBounds s v) := h1
   rw [h2, setCells_layC w g vs (s + 1) _ (by simp at h ⊢; omega), layC_cons F s v vs h]
end
section
variable {P : Program} {τ : Tys}
theorem fit_one {y x : SV} {w : World} {u : Value} (h : Fit y x) (hd : vd0 E0 [] w y u) : u.oneCell' = true := by
 cases x <;> cases y <;> first
  | (obtain rfl : u = _ := hd; rfl)
  | (obtain ⟨_, A, c, rfl, _⟩ := hd; rfl)
  | (obtain ⟨rfl, _⟩ := hd; rfl)
  | exact False.elim h
  | (simp [Fit] at h; done)
theorem zero_of (W : World) (hτ : TysOk P τ) {e kd : Nat} (h : τ.rk e = some kd) : ∃ x z, P.info? e = some x ∧ x.size = kdSz kd ∧ x.bytes = kdBytes kd ∧ x.zero = some z ∧ z.cells.size = kdSz kd ∧ (∀ u ∈ z.cells, u.oneCell' = true) ∧ ∀ w, (zeroValue e).run P w = .ok z w := by
 obtain ⟨hk10, het, ti, hti, hsz, hby, hfit, _⟩ := hτ.rk e kd h
 obtain ⟨x, z, g1, g2, g3, g4, g5, g6⟩ := (hτ.ti e ti hti).info
 refine ⟨x, z, g1, g2.trans hsz, g3.trans hby, g4, g5.trans hsz, ?_, fun w => by simp [zeroValue, typeInfo, g1, g4]⟩
 intro u hu
 obtain ⟨j, hj, rfl⟩ := List.getElem_of_mem (Array.mem_def.1 hu)
 have hl := g6 E0 [] W
 obtain ⟨y, hy, hfy⟩ : ∃ y, ti.zero[j]? = some y ∧ y ∈ ti.zero := by
  have hlt : j < ti.zero.length := by rw [hl.1]; exact hj
  exact ⟨_, List.getElem?_eq_getElem hlt, List.getElem_mem hlt⟩
 obtain ⟨u, hu, hd⟩ := hl.2 j y hy
 rw [List.getElem?_eq_getElem hj] at hu
 injection hu with hu
 rw [hu]
 obtain ⟨x', hx'⟩ : ∃ x', ((Rw.zeros kd 1).cell .any 0)[j]? = some x' := by
  have hlt : j < ((Rw.zeros kd 1).cell .any 0).length := by
   rw [← hfit.1, hl.1]; exact hj
  exact ⟨_, List.getElem?_eq_getElem hlt⟩
 obtain ⟨y', hy', hf⟩ := hfit.2 j x' hx'
 rw [hy] at hy'
 injection hy' with hy'
 subst hy'
 exact fit_one hf hd
end
end Go.Proofs.YtjjpakdlkjaigaaGreat

/- A symbolic executor for loaded Go code: slices.Delete. -/
namespace Go.Proofs.YtjjpakdlkjaigaaGreat
open Go.RowKit Go.Sort
def Rw.del (i j : Nat) : Rw → Rw
 | .ints l => .ints (l.take i ++ l.drop j)
 | .bytes l => .bytes (l.take i ++ l.drop j)
 | .strs l => .strs (l.take i ++ l.drop j)
 | .peers l => .peers (l.take i ++ l.drop j)
 | .items l => .items (l.take i ++ l.drop j)
 | .tolds l => .tolds (l.take i ++ l.drop j)
 | .cuts l => .cuts (l.take i ++ l.drop j)
 | .msgs l => .msgs (l.take i ++ l.drop j)
 | .nodes l => .nodes (l.take i ++ l.drop j)
 | .acts l => .acts (l.take i ++ l.drop j)
 | .intss l => .intss (l.take i ++ l.drop j)
 | .bools l => .bools (l.take i ++ l.drop j)
theorem getD_del {α : Type} (l : List α) (i j m : Nat) (d : α) (hij : i ≤ j) (hj : j ≤ l.length) : (l.take i ++ l.drop j).getD m d = l.getD (if m < i then m else m + (j - i)) d := by
 have h1 : (l.take i).length = i := by simp; omega
 simp only [List.getD_eq_getElem?_getD]
 split
 · rename_i h
   rw [List.getElem?_append_left (by omega), List.getElem?_take_of_lt h]
 · rename_i h
   rw [List.getElem?_append_right (by omega), h1, List.getElem?_drop, show j + (m - i) = m + (j - i) by omega]
theorem del_cell (i j : Nat) (r : Rw) (hij : i ≤ j) (hj : j ≤ r.len) : (r.del i j).kd = r.kd ∧ (r.del i j).len = r.len - (j - i) ∧ ∀ t m, (r.del i j).cell t m = r.cell t (if m < i then m else m + (j - i)) := by
 cases r <;> (simp only [Rw.len] at hj; refine ⟨rfl, by simp [Rw.del, Rw.len]; omega, fun t m => ?_⟩; simp only [Rw.del, Rw.cell, getD_del _ _ _ _ _ hij hj])
structure DelW (P : Program) (f : FuncId) (e : TypeId) (sz : Nat) : Prop where
 ent : Enters P f
 nil : ∀ w, Calls P f #[.slice none 0 0, .int .i64 0, .int .i64 0] w fun x w' => x = .returned (.slice none 0 0) ∧ w' = w
 cells : ∀ (g cap n i j : Nat) (cur : Array Value) (w : World), w.heap[g]? = some (.cells cur e (0, 0)) → cur.size = cap * sz → n ≤ cap → cap ≤ maxLen → i ≤ j → j ≤ n → (∀ u ∈ cur.toList.take (n * sz), u.oneCell' = true) →
  Calls P f #[.slice (some ⟨g, 0, none⟩) n cap, .int .i64 i, .int .i64 j] w fun x w' => x = .returned (.slice (some ⟨g, 0, none⟩) (n - (j - i)) cap) ∧ w.grownBy w' (some g) ∧
   ∃ cur', w'.heap[g]? = some (.cells cur' e (0, 0)) ∧ cur'.size = cur.size ∧ cur'.toList.take ((n - (j - i)) * sz) = (cur.toList.take (n * sz)).take (i * sz) ++ (cur.toList.take (n * sz)).drop (j * sz)
def deleteT (kd : Nat) : CallT := fun args s K => match args, s with
 | [.own k, .int .i64 i, .int .i64 j], ⟨fr, stk, bx, rw, dep⟩ => match lk rw k with
   | some (.own r) => match Nat.beq r.kd kd with
     | true => r.lenK fun n => Ob (0 ≤ i ∧ i ≤ j ∧ j ≤ (n : Int)) ∧ (0 ≤ i ∧ i ≤ j ∧ j ≤ (n : Int) → forceF (killF k fr) fun fr' => forceS (killS k stk) fun stk' => forceB (killB k bx) fun bx' =>
       K (.own k) ⟨fr', stk', bx', upd rw k (.own (r.del i.toNat j.toNat)), dep⟩)
     | false => False
   | _ => False
 | _, _ => False
section
variable {P : Program} {τ : Tys}
theorem own_news {E : Env} {w : World} {k : Nat} {r : Rw} (h : OwnD τ E w k r.len r) {us : List Value} (hl : us.length = r.len * r.sz) (hc : ∀ i j x, i < r.len → (r.cell .any i)[j]? = some x → ∃ u, us[i * r.sz + j]? = some u ∧ cd1 w (E.F w (if i < r.len then .new else .any)) x u) : ∀ u ∈ us, u.oneCell' = true :=
 src_one (F := E.F w .new) hl fun i j x hi hx => by
  obtain ⟨u, hu, hd⟩ := hc i j x hi hx
  rw [if_pos hi] at hd
  exact ⟨u, hu, hd⟩
theorem delete_tr {f kd : Nat} (hW : DelW P f (τ.et kd) (kdSz kd)) : TrKnown P τ f (deleteT kd) := by
 refine ⟨hW.ent, ?_⟩
 intro w0 E s aS w args vals K hd hargs hT
 obtain ⟨fr, stk, bx, rw', dep⟩ := s
 unfold deleteT at hT
 split at hT
 rotate_left
 · exact hT.elim
 rename_i s' k i j fr' stk' bx' rw2 dep' hs
 injection hs with e1 e2 e3 e4 e5
 subst e1; subst e2; subst e3; subst e4; subst e5
 obtain ⟨v, vs, rfl, h1, h2⟩ := hargs.inv_cons
 obtain ⟨v2, vs, rfl, h3, h2⟩ := h2.inv_cons
 obtain ⟨v3, vs, rfl, h4, h2⟩ := h2.inv_cons
 obtain rfl := h2.inv_nil
 obtain rfl : v2 = .int .i64 i := h3
 obtain rfl : v3 = .int .i64 j := h4
 split at hT
 rotate_left
 · exact hT.elim
 rename_i r hk
 have h1 : vd0 E rw' w (.own k) v := h1
 simp only [vd0] at h1
 rw [hk] at h1
 have h1 : v = E.hs k := h1
 subst h1
 split at hT
 rotate_left
 · exact hT.elim
 rename_i hkd
 have hkd := Nat.eq_of_beq_eq_true hkd
 rw [Rw.lenK_eq] at hT
 obtain ⟨hob, hT⟩ := hT
 have hb := hob.out
 have hT := hT hb
 simp only [forceF_eq, forceS_eq, forceB_eq] at hT
 obtain ⟨i', rfl⟩ := Int.eq_ofNat_of_zero_le hb.1
 obtain ⟨j', rfl⟩ := Int.eq_ofNat_of_zero_le (show 0 ≤ j by omega)
 simp only [Int.toNat_natCast] at hT
 have hij : i' ≤ j' := by omega
 have hjn : j' ≤ r.len := by omega
 obtain ⟨c1, c2, c3⟩ := del_cell i' j' r hij hjn
 have hO := hd.own k _ _ _ hk rfl
 obtain ⟨us, hrow, hc⟩ := hO.row
 have hone := own_news hO hrow.1 hc
 have hsz : r.sz = kdSz kd := by unfold Rw.sz; rw [hkd]
 have hsz' : (r.del i' j').sz = r.sz := Rw.sz_of_kd c1
 have hfits : (r.del i' j').len * (r.del i' j').bts ≤ 140737488355328 := by
  have : (r.del i' j').bts = r.bts := by unfold Rw.bts; rw [c1]
  rw [this, c2]
  exact Nat.le_trans (Nat.mul_le_mul_right _ (by omega)) hO.fits
 have hcell : ∀ (w' : World) (v' : Value), Keeps E (E.add k v') w w' → ∀ m q x, m < (r.del i' j').len → ((r.del i' j').cell .any m)[q]? = some x → ∃ u, (us.take (i' * r.sz) ++ us.drop (j' * r.sz))[m * (r.del i' j').sz + q]? = some u ∧ cd1 w' ((E.add k v').F w' (if m < (r.del i' j').len then .new else .any)) x u := by
  intro w' v' hkp m q x hm hx
  rw [c3] at hx
  have hq : q < r.sz := by
   have := (List.getElem?_eq_some_iff.1 hx).1
   rwa [cell_len] at this
  rw [c2] at hm
  have hlt : (if m < i' then m else m + (j' - i')) < r.len := by split <;> omega
  obtain ⟨u, hu, hdd⟩ := hc _ q x hlt hx
  refine ⟨u, ?_, ?_⟩
  · rw [hsz', ← hu]
    have hul := hrow.1
    have h6 : i' * r.sz ≤ us.length := by rw [hul]; exact Nat.mul_le_mul_right _ (by omega)
    have h7 : (us.take (i' * r.sz)).length = i' * r.sz := by simp; omega
    split
    · rename_i h8
      have : (m + 1) * r.sz ≤ i' * r.sz := Nat.mul_le_mul_right _ h8
      rw [Nat.succ_mul] at this
      rw [List.getElem?_append_left (by omega), List.getElem?_take_of_lt (by omega)]
    · rename_i h8
      have : i' * r.sz ≤ m * r.sz := Nat.mul_le_mul_right _ (by omega)
      rw [List.getElem?_append_right (by omega), h7, List.getElem?_drop]
      congr 1
      have e : (m + (j' - i')) * r.sz = m * r.sz + (j' * r.sz - i' * r.sz) := by rw [Nat.add_mul, Nat.mul_sub_right_distrib]
      have : i' * r.sz ≤ j' * r.sz := Nat.mul_le_mul_right _ hij
      omega
  · rw [c2, if_pos (by omega)]
    rw [if_pos hlt] at hdd
    exact cd1.mono hdd (hkp.F _)
 rcases hrow.2 with ⟨hv, h0⟩ | ⟨g, cap, cur, hv, hg, hheap, hnc, hcm, hcs, htake⟩
 · have hi0 : i' = 0 := by omega
   have hj0 : j' = 0 := by omega
   subst hi0; subst hj0
   rw [hv]
   refine (hW.nil w).mono ?_
   rintro e w' ⟨rfl, rfl⟩
   have hg : w'.grownBy w' (E.hs k).ownBlock := ⟨rfl, rfl, rfl, Nat.le_refl _, fun _ _ _ => rfl⟩
   have hkp : Keeps E (E.add k (.slice none 0 0)) w' w' := ⟨rfl, Nat.le_refl _, fun _ _ _ => rfl, by
    rintro g (hg | hg)
    · exact .inl hg
    · simp [Value.ownBlock] at hg⟩
   refine ⟨_, _, _, E.add k (.slice none 0 0), rfl, hT, hd.growRow k w' hg hk rfl (.slice none 0 0) (.own (r.del 0 0)) (r.del 0 0).len (r.del 0 0) rfl [] (fun g hg => by simp [Value.ownBlock] at hg) hfits ?_ (fun m q x hm => by rw [c2] at hm; omega), rfl, Nat.le_refl _, ?_⟩
   · rw [c2, h0]
     exact World.ownsRow_nil _ _ _ _
   · simp [vd3, vd2, vd1, vd0, lk_upd, Env.add]
 · rw [hv]
   refine (hW.cells g cap r.len i' j' cur w (by rw [← hkd]; exact hheap) (by rw [← hsz]; exact hcs) hnc hcm hij hjn (by rw [← hsz, htake]; exact hone)).mono ?_
   rintro e w' ⟨rfl, hgr, cur', hheap', hsize', htake'⟩
   have hob' : (E.hs k).ownBlock = some g := by rw [hv]; rfl
   rw [← hsz, htake] at htake'
   have hkp : Keeps E (E.add k (.slice (some ⟨g, 0, none⟩) (r.len - (j' - i')) cap)) w w' := grown_keeps (row := some g) hgr (fun g' hg' => by injection hg' with hg'; subst hg'; exact hO.ow _ hob') rfl (by
    rintro g' (hg' | hg')
    · exact .inl hg'
    · simp [Value.ownBlock] at hg'; subst hg'; exact .inl (hO.ow _ hob'))
   refine ⟨_, _, _, E.add k (.slice (some ⟨g, 0, none⟩) (r.len - (j' - i')) cap), rfl, hT, hd.growRow k w' (by rw [hob']; exact hgr) hk rfl _ (.own (r.del i' j')) (r.del i' j').len (r.del i' j') rfl (us.take (i' * r.sz) ++ us.drop (j' * r.sz))
    (fun g' hg' => ?_) hfits ?_ (hcell w' _ hkp), rfl, Nat.le_refl _, ?_⟩
   · simp [Value.ownBlock] at hg'
     subst hg'
     exact ⟨.inr hob'.symm, (Array.getElem?_eq_some_iff.1 hheap').1⟩
   · rw [c1, hsz', c2]
     refine ⟨?_, .inr ⟨g, cap, cur', rfl, hg, by rw [hkd]; exact hheap', by omega, hcm, by rw [hsize']; exact hcs, htake'⟩⟩
     rw [← htake', List.length_take, Array.length_toList, hsize', hcs]
     exact Nat.min_eq_left (Nat.mul_le_mul_right _ (by omega))
   · simp [vd3, vd2, vd1, vd0, lk_upd, Env.add]
end
end Go.Proofs.YtjjpakdlkjaigaaGreat

/- A symbolic executor for loaded Go code: slices.Insert of one element. -/
namespace Go.Proofs.YtjjpakdlkjaigaaGreat
open Go.RowKit Go.Sort
section
variable {P : Program}
theorem run_copy_k (w : World) (dT sT ty elem : TypeId) (b o dLen dCap : Nat) (a : Addr) (sLen sCap : Nat) (cs : List Value) (hu : P.underlying dT = some (.slice elem)) {x : TypeInfo} (hi : P.info? elem = some x) {sz : Nat} (hs : x.size = sz) {n : Nat} (hn : Nat.min sLen dLen = n) (hl : cs.length = n * sz)
  (hsrc : ∀ j v, cs[j]? = some v → w.cell? (a.add j) = some v) (hc : ∀ j, j < cs.length → (w.cell? ⟨b, o + j, none⟩).isSome = true) (hf : ∀ j, j < cs.length → w.frozen? ⟨b, o + j, none⟩ = false) (h1 : ∀ v ∈ cs, v.oneCell' = true) :
  (Builtin.copy_ #[dT, sT] ty #[.slice (some ⟨b, o, none⟩) dLen dCap, .slice (some a) sLen sCap]).run P w = .ok (goInt n) (w.setCells b o cs) := by
 have hl' := run_loadCells_list (P := P) w a cs hsrc
 have hst := run_storeCells_cells (P := P) b o cs 0 w (by simpa using hc) (by simpa using hf) h1
 subst hs
 simp [Builtin.copy_, run_underlying hu, Builtin.lenOf, Builtin.firstCells, sizeOf, typeInfo, hi, hn, ← hl, hl', hst]
theorem isSome_setC (b : Nat) (vs : List Value) (o : Nat) (w : World) (h : ∀ j, j < vs.length → (w.cell? ⟨b, o + j, none⟩).isSome = true) (k : Nat) (hk : (w.cell? ⟨b, k, none⟩).isSome = true) : ((w.setCells b o vs).cell? ⟨b, k, none⟩).isSome = true := by
 by_cases hin : o ≤ k ∧ k < o + vs.length
 · have := World.cell?_setCells_in b vs o w h (k - o) (by omega)
   rw [show o + (k - o) = k by omega] at this
   rw [this]; rfl
 · rw [World.cell?_setCells_out b vs o w ⟨b, k, none⟩ (fun _ _ => by show k < o ∨ o + vs.length ≤ k; omega)]
   exact hk
theorem setCells_drew (b : Nat) : ∀ (vs : List Value) (o : Nat) (w : World), w.drew.setCells b o vs = (w.setCells b o vs).drew
 | [], _, _ => rfl
 | v :: vs, o, w => setCells_drew b vs (o + 1) (w.setCell ⟨b, o, none⟩ v)
theorem wp_copy_k (w : World) {o : Oper} {a : Act} {K : Act → World → Prop} {Q : Exit → Act → World → Prop} (d s : Operand) (t t' : TypeId)
  (ho : o.op = .call { callee := .builtin .copy, args := #[d, s], argTypes := #[t, t'] }) (v u : Value) (hd : a.eval d = v) (hs : a.eval s = u) {v' : Value} {w' : World}
  (hr : (Builtin.copy_ #[t, t'] o.type #[v, u]).run P w = .ok v' w') (h : K (a.put o.dst v') w') : o.wp P a w K Q := by
 unfold Oper.wp execOp
 simp only [ho, resolve, invoke, builtin, Sem.run_bind, Sem.run_pure, Result.andThen_ok, List.map_toArray, List.map_cons, List.map_nil, hd, hs, hr]
 exact h
theorem wpList_copy_k (w : World) {ops : Array Oper} {rest : List Oper} {o : Oper} {a : Act} {Q : Exit → Act → World → Prop} (hgd : o.guard = none) (d s : Operand) (t t' : TypeId)
  (ho : o.op = .call { callee := .builtin .copy, args := #[d, s], argTypes := #[t, t'] }) (v u : Value) (hd : a.eval d = v) (hs : a.eval s = u) {v' : Value} {w' : World}
  (hr : (Builtin.copy_ #[t, t'] o.type #[v, u]).run P w = .ok v' w') (h : wpList P ops Q rest (a.put o.dst v') w') : wpList P ops Q (o :: rest) a w :=
 wpList_plain hgd fun _ hK => wp_copy_k w d s t t' ho v u hd hs hr (hK _ _ h)
theorem step_copy_k {ops : Array Oper} {o : Oper} {a : Act} {w : World} {K : Act → World → Prop} {Q : Exit → Act → World → Prop} {E : Prop}
  (hg : o.guard = none) (d x : Operand) (dT sT : TypeId) (hop : o.op = Op.call { callee := Callee.builtin Builtin.copy, args := #[d, x], argTypes := #[dT, sT] })
  (v u : Value) (hd : a.eval d = v) (hx : a.eval x = u) {v' : Value} {w' : World} (hr : (Builtin.copy_ #[dT, sT] o.type #[v, u]).run P w = .ok v' w') (hK : K (a.put o.dst v') w') :
  if Region.wanted o (yielded ops a.tmps) = true then Oper.wp P o a w K Q else E := by
 have hw : Region.wanted o (yielded ops a.tmps) = true := by simp [Region.wanted, hg]
 rw [if_pos hw]
 exact wp_copy_k w d x dT sT hop v u hd hx hr hK
end
structure InsW (P : Program) (f : FuncId) (e : TypeId) (sz bts : Nat) : Prop where
 ent : Enters P f
 run : ∀ (base i n : Nat) (v v2 : Value) (us vs : List Value) (w : World), w.ownsRow base e sz v n us → w.ownsRow base e sz v2 1 vs → (∀ g, v.ownBlock = some g → v2.ownBlock ≠ some g) → i ≤ n → (n + 1) * bts ≤ 140737488355328 → (∀ u ∈ us, u.oneCell' = true) → (∀ u ∈ vs, u.oneCell' = true) → base ≤ w.heap.size →
  Calls P f #[v, .int .i64 i, v2] w fun x w' => ∃ v', x = .returned v' ∧ w'.ownsRow base e sz v' (n + 1) (us.take (i * sz) ++ vs ++ us.drop (i * sz)) ∧ w.grownBy w' v.ownBlock ∧ (v'.ownBlock = v.ownBlock ∨ ∃ g, v'.ownBlock = some g ∧ w.heap.size ≤ g)
def Rw.ins (i : Nat) : Rw → Rw → Option Rw
 | .ints l, .ints m => some (.ints (l.take i ++ m ++ l.drop i))
 | .peers l, .peers m => some (.peers (l.take i ++ m ++ l.drop i))
 | .items l, .items m => some (.items (l.take i ++ m ++ l.drop i))
 | .tolds l, .tolds m => some (.tolds (l.take i ++ m ++ l.drop i))
 | .cuts l, .cuts m => some (.cuts (l.take i ++ m ++ l.drop i))
 | _, _ => none
theorem getD_ins {α : Type} (l m : List α) (i q : Nat) (d : α) (hi : i ≤ l.length) : (l.take i ++ m ++ l.drop i).getD q d = if q < i then l.getD q d else if q < i + m.length then m.getD (q - i) d else l.getD (q - m.length) d := by
 have h1 : (l.take i).length = i := by simp; omega
 simp only [List.getD_eq_getElem?_getD, List.append_assoc]
 split
 · rename_i h
   rw [List.getElem?_append_left (by omega), List.getElem?_take_of_lt h]
 · rename_i h
   rw [List.getElem?_append_right (by omega), h1]
   split
   · rename_i h2
     rw [List.getElem?_append_left (by omega)]
   · rename_i h2
     rw [List.getElem?_append_right (by omega), List.getElem?_drop]
     congr 2
     omega
theorem ins_cell {i : Nat} {r m r' : Rw} (h : r.ins i m = some r') (hi : i ≤ r.len) : r'.kd = r.kd ∧ r'.kd = m.kd ∧ r'.flat = true ∧ r'.len = r.len + m.len ∧ ∀ t q, r'.cell t q = if q < i then r.cell t q else if q < i + m.len then m.cell t (q - i) else r.cell t (q - m.len) := by
 cases r <;> cases m <;> simp only [Rw.ins, Option.some.injEq, reduceCtorEq] at h <;> subst h <;> simp only [Rw.len] at hi <;>
  refine ⟨rfl, rfl, rfl, by simp [Rw.len]; omega, fun t q => ?_⟩ <;> simp only [Rw.cell, Rw.len, getD_ins _ _ _ _ _ hi] <;> rename_i l m <;> (by_cases g1 : q < i) <;> (by_cases g2 : q < i + m.length) <;> simp only [g1, g2, if_true, if_false]
def insertT (kd : Nat) : CallT := fun args s K => match args, s with
 | [.own k, .int .i64 i, .own k2], ⟨fr, stk, bx, rw, dep⟩ => match Nat.beq k k2, lk rw k, lk rw k2 with
   | false, some (.own r), some (.own m) => match Nat.beq r.kd kd, Nat.beq m.len 1, r.ins i.toNat m with
     | true, true, some r' => r.lenK fun n => Ob (0 ≤ i ∧ i ≤ (n : Int) ∧ (n + 1) * r.bts ≤ 140737488355328) ∧ (0 ≤ i ∧ i ≤ (n : Int) ∧ (n + 1) * r.bts ≤ 140737488355328 → forceF (killF k fr) fun fr' => forceS (killS k stk) fun stk' => forceB (killB k bx) fun bx' =>
       K (.own k) ⟨fr', stk', bx', upd rw k (.own r'), dep⟩)
     | _, _, _ => False
   | _, _, _ => False
 | _, _ => False
section
variable {P : Program} {τ : Tys}
theorem insert_tr {f kd : Nat} (hW : InsW P f (τ.et kd) (kdSz kd) (kdBytes kd)) : TrKnown P τ f (insertT kd) := by
 refine ⟨hW.ent, ?_⟩
 intro w0 E s aS w args vals K hd hargs hT
 obtain ⟨fr, stk, bx, rw', dep⟩ := s
 unfold insertT at hT
 split at hT
 rotate_left
 · exact hT.elim
 rename_i s' k i k2 fr' stk' bx' rw2 dep' hs
 injection hs with e1 e2 e3 e4 e5
 subst e1; subst e2; subst e3; subst e4; subst e5
 obtain ⟨v, vs, rfl, h1, h2⟩ := hargs.inv_cons
 obtain ⟨v2, vs, rfl, h3, h2⟩ := h2.inv_cons
 obtain ⟨v3, vs, rfl, h4, h2⟩ := h2.inv_cons
 obtain rfl := h2.inv_nil
 obtain rfl : v2 = .int .i64 i := h3
 split at hT
 rotate_left
 · exact hT.elim
 rename_i r m hkk hk hk2
 have hne : k ≠ k2 := fun e => by subst e; rw [Nat.beq_refl] at hkk; simp at hkk
 have h1 : vd0 E rw' w (.own k) v := h1
 simp only [vd0] at h1
 rw [hk] at h1
 have h1 : v = E.hs k := h1
 subst h1
 have h4 : vd0 E rw' w (.own k2) v3 := h4
 simp only [vd0] at h4
 rw [hk2] at h4
 have h4 : v3 = E.hs k2 := h4
 subst h4
 split at hT
 rotate_left
 · exact hT.elim
 rename_i r' hkd hm1 hins
 have hkd := Nat.eq_of_beq_eq_true hkd
 have hm1 := Nat.eq_of_beq_eq_true hm1
 rw [Rw.lenK_eq] at hT
 obtain ⟨hob, hT⟩ := hT
 have hb := hob.out
 replace hT := hT hb
 simp only [forceF_eq, forceS_eq, forceB_eq] at hT
 obtain ⟨i', rfl⟩ := Int.eq_ofNat_of_zero_le hb.1
 simp only [Int.toNat_natCast] at hins
 have hin : i' ≤ r.len := by omega
 obtain ⟨c1, c2, c3, c4, c5⟩ := ins_cell hins hin
 have hO := hd.own k _ _ _ hk rfl
 have hO2 := hd.own k2 _ _ _ hk2 rfl
 obtain ⟨us, hrow, hc⟩ := hO.row
 obtain ⟨ws, hrow2, hc2⟩ := hO2.row
 have hone := own_news hO hrow.1 hc
 have hone2 := own_news hO2 hrow2.1 hc2
 have hsz : r.sz = kdSz kd := by unfold Rw.sz; rw [hkd]
 have hsz' : r'.sz = r.sz := Rw.sz_of_kd c1
 have hmk : m.kd = kd := by rw [← c2, c1, hkd]
 have hszm : m.sz = r.sz := Rw.sz_of_kd (by rw [← c2, c1])
 have hbts : r.bts = kdBytes kd := by unfold Rw.bts; rw [hkd]
 have hbts' : r'.bts = r.bts := by unfold Rw.bts; rw [c1]
 rw [hm1] at hrow2 c4 c5
 rw [hmk, hszm, hsz] at hrow2
 have hrow' := hrow
 rw [hkd, hsz] at hrow'
 refine (hW.run E.M i' r.len _ _ us ws w hrow' hrow2 (fun g hg => hd.rr k k2 _ _ _ _ g hk hk2 rfl rfl hne hg) hin (by rw [← hbts]; exact hb.2.2) hone hone2 hd.Mh).mono ?_
 rintro e w' ⟨v', rfl, ho, hgr, hblk⟩
 have hkp : Keeps E (E.add k v') w w' := grown_keeps hgr (fun g hg => hO.ow _ hg) rfl (by
  rintro g (hg | hg)
  · exact .inl hg
  · rcases hblk with h5 | ⟨g', h5, h6⟩
    · exact .inl (hO.ow _ (by rw [← h5]; exact hg))
    · rw [h5] at hg; injection hg with hg; exact .inr (by omega))
 refine ⟨_, _, _, E.add k v', rfl, hT, hd.growRow k w' hgr hk rfl v' (.own r') r'.len r' rfl (us.take (i' * kdSz kd) ++ ws ++ us.drop (i' * kdSz kd)) (fun g hg => ?_) ?_ ?_ ?_, rfl, Nat.le_refl _, ?_⟩
 · refine ⟨?_, (ho.lt g hg).2⟩
   rcases hblk with h5 | ⟨g', h5, h6⟩
   · exact .inr (by rw [← h5]; exact hg.symm)
   · rw [h5] at hg; injection hg with hg; exact .inl (by omega)
 · rw [c4, hbts']; exact hb.2.2
 · rw [c1, hsz', hsz, hkd, c4]; exact ho
 · intro p q x hp hx
   rw [c4] at hp
   rw [c5] at hx
   have hul := hrow.1
   have h7 : (us.take (i' * kdSz kd)).length = i' * kdSz kd := by
    rw [List.length_take, hul, hsz]
    exact Nat.min_eq_left (Nat.mul_le_mul_right _ hin)
   have hwl : ws.length = kdSz kd := by rw [hrow2.1, Nat.one_mul]
   have hflat : r.flat = true := by rw [← kd_flat c1]; exact c3
   have hflatm : m.flat = true := by rw [← kd_flat c2]; exact c3
   rw [hsz', hsz]
   split at hx
   · rename_i h8
     have hq : q < kdSz kd := by
      have := (List.getElem?_eq_some_iff.1 hx).1
      rwa [cell_len, hsz] at this
     obtain ⟨u, hu, hdd⟩ := hc p q x (by omega) hx
     rw [hsz] at hu
     have : (p + 1) * kdSz kd ≤ i' * kdSz kd := Nat.mul_le_mul_right _ h8
     rw [Nat.succ_mul] at this
     refine ⟨u, ?_, (flat_sc hflat hx _ _ _ _ u).1 hdd⟩
     rw [List.append_assoc, List.getElem?_append_left (by omega), List.getElem?_take_of_lt (by omega)]
     exact hu
   · rename_i h8
     split at hx
     · rename_i h9
       have hq : q < kdSz kd := by
        have := (List.getElem?_eq_some_iff.1 hx).1
        rwa [cell_len, hszm, hsz] at this
       have hp0 : p - i' = 0 := by omega
       rw [hp0] at hx
       obtain ⟨u, hu, hdd⟩ := hc2 0 q x (by omega) hx
       refine ⟨u, ?_, (flat_sc hflatm hx _ _ _ _ u).1 hdd⟩
       obtain rfl : p = i' := by omega
       rw [List.append_assoc, List.getElem?_append_right (by omega), h7, List.getElem?_append_left (by omega)]
       rw [show p * kdSz kd + q - p * kdSz kd = 0 * m.sz + q by omega]
       exact hu
     · rename_i h9
       have hq : q < kdSz kd := by
        have := (List.getElem?_eq_some_iff.1 hx).1
        rwa [cell_len, hsz] at this
       obtain ⟨u, hu, hdd⟩ := hc (p - 1) q x (by omega) hx
       rw [hsz] at hu
       refine ⟨u, ?_, (flat_sc hflat hx _ _ _ _ u).1 hdd⟩
       have e : p * kdSz kd = (p - 1) * kdSz kd + kdSz kd := by
        have : p = (p - 1) + 1 := by omega
        conv => lhs; rw [this, Nat.succ_mul]
       have : i' * kdSz kd ≤ (p - 1) * kdSz kd := Nat.mul_le_mul_right _ (by omega)
       rw [List.getElem?_append_right (by rw [List.length_append, h7, hwl]; omega), List.length_append, h7, hwl, List.getElem?_drop]
       rw [show i' * kdSz kd + (p * kdSz kd + q - (i' * kdSz kd + kdSz kd)) = (p - 1) * kdSz kd + q by omega]
       exact hu
 · simp [vd3, vd2, vd1, vd0, lk_upd, Env.add]
end
theorem ins_list (F : Array Value) (a b : Nat) (vs news : List Value) (hv : vs.length = b - a) (hab : a ≤ b) (hb : b + news.length ≤ F.size) :
  (layC (layC F b news) a vs).toList.take (b + news.length) = F.toList.take a ++ vs ++ news ∧ (layC (layC F a vs) b news).toList.take (b + news.length) = F.toList.take a ++ vs ++ news := by
 have hs : F.toList.length = F.size := rfl
 have ha : (F.toList.take a).length = a := by rw [List.length_take]; omega
 have hbl : (F.toList.take b).length = b := by rw [List.length_take]; omega
 refine ⟨?_, ?_⟩
 · unfold layC
   simp only
   have e1 : (List.take b F.toList ++ news ++ List.drop (b + news.length) F.toList).take a = F.toList.take a := by
    rw [List.append_assoc, List.take_append_of_le_length (by omega), List.take_take, Nat.min_eq_left hab]
   have e2 : (List.take b F.toList ++ news ++ List.drop (b + news.length) F.toList).drop (a + vs.length) = news ++ List.drop (b + news.length) F.toList := by
    rw [List.append_assoc, show a + vs.length = (F.toList.take b).length by omega, List.drop_left]
   rw [e1, e2]
   rw [← List.append_assoc, List.take_append_of_le_length (by simp only [List.length_append, ha]; omega)]
   exact List.take_of_length_le (by simp only [List.length_append, ha]; omega)
 · unfold layC
   simp only
   have e1 : (List.take a F.toList ++ vs ++ List.drop (a + vs.length) F.toList).take b = F.toList.take a ++ vs := by
    rw [List.take_append_of_le_length (by simp only [List.length_append, ha]; omega)]
    exact List.take_of_length_le (by simp only [List.length_append, ha]; omega)
   rw [e1, List.take_append_of_le_length (by simp only [List.length_append, ha]; omega)]
   exact List.take_of_length_le (by simp only [List.length_append, ha]; omega)
theorem InsW.of {P : Program} {f : FuncId} {e : TypeId} {sz bts : Nat} (hent : Enters P f)
  (hend : ∀ (base n : Nat) (v v2 : Value) (us vs : List Value) (w : World), w.ownsRow base e sz v n us → w.ownsRow base e sz v2 1 vs → (n + 1) * bts ≤ 140737488355328 → (∀ u ∈ vs, u.oneCell' = true) → base ≤ w.heap.size →
    Calls P f #[v, .int .i64 n, v2] w fun x w' => ∃ v', x = .returned v' ∧ w'.ownsRow base e sz v' (n + 1) (us ++ vs) ∧ w.grownBy w' v.ownBlock ∧ (v'.ownBlock = v.ownBlock ∨ ∃ g, v'.ownBlock = some g ∧ w.heap.size ≤ g))
  (hshift : ∀ (g cap n i g' cap' : Nat) (cur cur' : Array Value) (w : World), w.heap[g]? = some (.cells cur e (0, 0)) → cur.size = cap * sz → n + 1 ≤ cap → cap ≤ maxLen → i < n → w.heap[g']? = some (.cells cur' e (0, 0)) → cur'.size = cap' * sz → 1 ≤ cap' → g' ≠ g → (∀ u ∈ cur.toList.take (n * sz), u.oneCell' = true) → (∀ u ∈ cur'.toList.take sz, u.oneCell' = true) →
    Calls P f #[.slice (some ⟨g, 0, none⟩) n cap, .int .i64 i, .slice (some ⟨g', 0, none⟩) 1 cap'] w fun x w' => x = .returned (.slice (some ⟨g, 0, none⟩) (n + 1) cap) ∧
     w' = putRow id w.drew g 0 (layC (layC cur ((i + 1) * sz) ((cur.toList.take (n * sz)).drop (i * sz))) (i * sz) (cur'.toList.take sz)))
  (hgrow : ∀ (g cap n i g' cap' : Nat) (cur cur' : Array Value) (w : World), w.heap[g]? = some (.cells cur e (0, 0)) → cur.size = cap * sz → n ≤ cap → cap < n + 1 → cap ≤ maxLen → i < n → (n + 1) * bts ≤ 140737488355328 → w.heap[g']? = some (.cells cur' e (0, 0)) → cur'.size = cap' * sz → 1 ≤ cap' → (∀ u ∈ cur.toList.take (n * sz), u.oneCell' = true) → (∀ u ∈ cur'.toList.take sz, u.oneCell' = true) →
    Calls P f #[.slice (some ⟨g, 0, none⟩) n cap, .int .i64 i, .slice (some ⟨g', 0, none⟩) 1 cap'] w fun x w' => ∃ G ROW, x = .returned (.slice (some ⟨w.heap.size, 0, none⟩) (n + 1) G) ∧ n + 1 ≤ G ∧ G ≤ maxLen ∧ ROW.size = G * sz ∧ ROW.toList.take (i * sz) = (cur.toList.take (n * sz)).take (i * sz) ∧
     w' = putRow id (w.drew.alloc (.cells ROW e)).drew w.heap.size 0 (layC (layC ROW (i * sz) (cur'.toList.take sz)) ((i + 1) * sz) ((cur.toList.take (n * sz)).drop (i * sz)))) : InsW P f e sz bts := by
 refine ⟨hent, ?_⟩
 intro base i n v v2 us vs w hr hr2 hne hin hbig hu hv hbase
 by_cases he : i = n
 · subst he
   refine (hend base i v v2 us vs w hr hr2 hbig hv hbase).mono ?_
   rintro x w' ⟨v', rfl, h1, h2, h3⟩
   refine ⟨v', rfl, ?_, h2, h3⟩
   rw [List.take_of_length_le (by rw [hr.1]; exact Nat.le_refl _), List.drop_eq_nil_of_le (by rw [hr.1]; exact Nat.le_refl _), List.append_nil]
   exact h1
 · have hlt : i < n := by omega
   rcases hr2.2 with ⟨_, h0⟩ | ⟨g', cap', cur', rfl, hb', hh', hn', hm', hs', ht'⟩
   · omega
   rw [Nat.one_mul] at ht'
   rcases hr.2 with ⟨rfl, h0⟩ | ⟨g, cap, cur, rfl, hb, hh, hnc, hm, hs, ht⟩
   · omega
   have hgg : g' ≠ g := fun e => hne g rfl (by rw [← e]; rfl)
   have hul := hr.1
   have hvl := hr2.1
   rw [Nat.one_mul] at hvl
   rw [← ht] at hu
   rw [← ht'] at hv
   have hi1 : (i + 1) * sz = i * sz + sz := Nat.succ_mul _ _
   have hn1 : (n + 1) * sz = n * sz + sz := Nat.succ_mul _ _
   have hin' : i * sz ≤ n * sz := Nat.mul_le_mul_right _ hin
   have hdl : (us.drop (i * sz)).length = n * sz - i * sz := by rw [List.length_drop, hul]
   have hcs : n * sz ≤ cur.size := by rw [hs]; exact Nat.mul_le_mul_right _ hnc
   have e0 : cur.toList.take (i * sz) = us.take (i * sz) := by rw [← ht, List.take_take, Nat.min_eq_left hin']
   have hsum : (i + 1) * sz + (us.drop (i * sz)).length = (n + 1) * sz := by rw [hdl, hi1, hn1]; omega
   have hfull : (us.take (i * sz) ++ vs ++ us.drop (i * sz)).length = (n + 1) * sz := by
    rw [List.length_append, List.length_append, List.length_take, hul, hvl, hdl, Nat.min_eq_left hin', hn1]; omega
   by_cases hroom : n + 1 ≤ cap
   · refine (hshift g cap n i g' cap' cur cur' w hh hs hroom hm hlt hh' hs' hn' hgg hu hv).mono ?_
     rintro x w' ⟨rfl, rfl⟩
     rw [ht, ht']
     have hsz : (n + 1) * sz ≤ cur.size := by rw [hs]; exact Nat.mul_le_mul_right _ hroom
     have hl1 : (layC cur ((i + 1) * sz) (us.drop (i * sz))).size = cur.size := layC_size (by rw [hsum]; exact hsz)
     have hl2 : (layC (layC cur ((i + 1) * sz) (us.drop (i * sz))) (i * sz) vs).size = cur.size := by
      rw [layC_size (by rw [hl1, hvl]; omega), hl1]
     refine ⟨_, rfl, ⟨hfull, .inr ⟨g, cap, layC (layC cur ((i + 1) * sz) (us.drop (i * sz))) (i * sz) vs, rfl, hb, ?_, hroom, hm, by rw [hl2, hs], ?_⟩⟩, ?_, .inl rfl⟩
     · exact putRow_heap (w := w.drew) hh hl2
     · have := (ins_list cur (i * sz) ((i + 1) * sz) vs (us.drop (i * sz)) (by rw [hvl, hi1]; omega) (by omega) (by rw [hsum]; exact hsz)).1
       rw [hsum] at this
       rw [this, e0]
     · have hgr := putRow_grown w.drew g (layC (layC cur ((i + 1) * sz) (us.drop (i * sz))) (i * sz) vs)
       exact ⟨hgr.os, hgr.tape, hgr.output, hgr.size, hgr.block⟩
   · refine (hgrow g cap n i g' cap' cur cur' w hh hs hnc (by omega) hm hlt hbig hh' hs' hn' hu hv).mono ?_
     rintro x w' ⟨G, ROW, rfl, hG1, hG2, hR, hRt, rfl⟩
     rw [ht, ht'] at *
     have hsz : (n + 1) * sz ≤ ROW.size := by rw [hR]; exact Nat.mul_le_mul_right _ hG1
     have hl1 : (layC ROW (i * sz) vs).size = ROW.size := layC_size (by rw [hvl]; omega)
     have hl2 : (layC (layC ROW (i * sz) vs) ((i + 1) * sz) (us.drop (i * sz))).size = ROW.size := by
      rw [layC_size (by rw [hl1, hsum]; exact hsz), hl1]
     have hnew : (w.drew.alloc (.cells ROW e)).drew.heap[w.heap.size]? = some (.cells ROW e (0, 0)) := by
      show (w.drew.heap.push _)[w.heap.size]? = _
      exact Array.getElem?_push_size
     refine ⟨_, rfl, ⟨hfull, .inr ⟨w.heap.size, G, layC (layC ROW (i * sz) vs) ((i + 1) * sz) (us.drop (i * sz)), rfl, hbase, ?_, hG1, hG2, by rw [hl2, hR], ?_⟩⟩, ?_, .inr ⟨_, rfl, Nat.le_refl _⟩⟩
     · exact putRow_heap hnew hl2
     · have := (ins_list ROW (i * sz) ((i + 1) * sz) vs (us.drop (i * sz)) (by rw [hvl, hi1]; omega) (by omega) (by rw [hsum]; exact hsz)).2
       rw [hsum] at this
       rw [this, hRt]
     · have hgr := putRow_grown (w.drew.alloc (.cells ROW e)).drew w.heap.size (layC (layC ROW (i * sz) vs) ((i + 1) * sz) (us.drop (i * sz)))
       refine ⟨hgr.os, hgr.tape, hgr.output, ?_, fun k hk hne => ?_⟩
       · refine Nat.le_trans ?_ hgr.size
         show w.heap.size ≤ (w.heap.push _).size
         rw [Array.size_push]; omega
       · have hk2 : k < (w.drew.alloc (.cells ROW e)).drew.heap.size := by
          show k < (w.heap.push _).size
          rw [Array.size_push]; omega
         have := hgr.block k hk2 (fun e => by injection e with e; omega)
         rw [this]
         show (w.heap.push _)[k]? = w.heap[k]?
         rw [Array.getElem?_push_lt hk]
         exact (Array.getElem?_eq_getElem hk).symm
end Go.Proofs.YtjjpakdlkjaigaaGreat

/- slices.Insert at one type, one element: its walk. -/
namespace Go.Proofs.YtjjpakdlkjaigaaGreat
open Go.RowKit Go.Sort
set_option maxHeartbeats 4000000 in
set_option maxRecDepth 1000000 in
theorem i_endInts (base n : Nat) (v v2 : Value) (us vs : List Value) (w : World) (hr : w.ownsRow base 3 1 v n us) (hr2 : w.ownsRow base 3 1 v2 1 vs) (hbig : (n + 1) * 8 ≤ 140737488355328) (hv : ∀ u ∈ vs, u.oneCell' = true) (hbase : base ≤ w.heap.size) :
  Calls Tryz.prog 200 #[v, .int .i64 n, v2] w fun x w' => ∃ v', x = .returned v' ∧ w'.ownsRow base 3 1 v' (n + 1) (us ++ vs) ∧ w.grownBy w' v.ownBlock ∧ (v'.ownBlock = v.ownBlock ∨ ∃ g, v'.ownBlock = some g ∧ w.heap.size ≤ g) := by
 obtain ⟨hk10, het, ti, hti, hsz, hby, _⟩ := tau_ok.rk 3 0 (by kernel_rfl)
 obtain ⟨x0, z, g1, g2, g3, g4, g5, g6⟩ := (tau_ok.ti _ ti hti).info
 have g2 : x0.size = 1 := g2.trans hsz
 have g3 : x0.bytes = 8 := g3.trans hby
 have g5 : z.cells.size = 1 := g5.trans hsz
 clear hk10 het g6
 have t22 : Tryz.prog.underlying 27 = some (.slice 3) := Tryz.underlying27
 have mixed := hmix
 have h63 : n + 1 ≤ maxLen := by unfold maxLen; omega
 rcases hr2.2 with ⟨_, h0⟩ | ⟨g', cap', cur', rfl, hb', hh', hn', hm', hs', ht'⟩
 · omega
 have hnews : ∀ j u, vs[j]? = some u → w.cell? ((⟨g', 0, none⟩ : Addr).add j) = some u := hr2.cells (g := g') rfl
 have hl : vs.length = 1 * 1 := hr2.1
 have HN : Hid (∀ j u, vs[j]? = some u → w.cell? ((⟨g', 0, none⟩ : Addr).add j) = some u) := hnews
 have HV : Hid (∀ u ∈ vs, u.oneCell' = true) := hv
 have HR : Hid (w.ownsRow base 3 1 v n us) := hr
 have hcm : n ≤ 9223372036854775807 := by omega
 rcases hr.2 with ⟨rfl, h0⟩ | ⟨g, cap, cur, rfl, hb, hh, hnc, hm, hs, ht⟩
 · subst h0
   clear hr2 hnews hv hh' ht' hs' hr
   go_enter Tryz.func200, Tryz.ntmps200
   go_wp2_with (at_builtin; refine wpList_append_own_at _ rfl _ _ 27 rfl base 3 x0 z 1 8 t22 g1 g4 g2 g3 g5 (by decide) _ _ _ rfl HR.out ⟨g', 0, none⟩ 1 cap' vs rfl ?qc1 ?qc2 ?qc3 ?qc4 ?qc5 ?qc6 ?_)
   case qc1 => exact hl
   case qc2 => exact HN.out
   case qc3 => exact HV.out
   case qc4 => exact h63
   case qc5 => exact hbig
   case qc6 => exact hbase
   intro v' w1 hown hgrow hnil hat
   go_wp2
   go_ret
   exact ⟨v', rfl, hown, hgrow, hat.imp id fun h => ⟨_, h, Nat.le_refl _⟩⟩
 · have hcm2 : cap ≤ 9223372036854775807 := hm
   clear hr2 hnews hv hh' ht' hs' hh hs ht hr
   go_enter Tryz.func200, Tryz.ntmps200
   go_wp2_with (at_builtin; refine wpList_append_own_at _ rfl _ _ 27 rfl base 3 x0 z 1 8 t22 g1 g4 g2 g3 g5 (by decide) _ _ _ rfl HR.out ⟨g', 0, none⟩ 1 cap' vs rfl ?qc1 ?qc2 ?qc3 ?qc4 ?qc5 ?qc6 ?_)
   case qc1 => exact hl
   case qc2 => exact HN.out
   case qc3 => exact HV.out
   case qc4 => exact h63
   case qc5 => exact hbig
   case qc6 => exact hbase
   all_goals
    intro v' w1 hown hgrow hnil hat
    go_wp2
    go_ret
    exact ⟨v', rfl, hown, hgrow, hat.imp id fun h => ⟨_, h, Nat.le_refl _⟩⟩
set_option maxHeartbeats 4000000 in
set_option maxRecDepth 1000000 in
theorem i_shiftInts (g cap n i g' cap' : Nat) (cur cur' : Array Value) (w : World) (hh : w.heap[g]? = some (.cells cur 3 (0, 0))) (hs : cur.size = cap * 1) (hroom : n + 1 ≤ cap) (hcm : cap ≤ maxLen) (hin : i < n)
  (hh' : w.heap[g']? = some (.cells cur' 3 (0, 0))) (hs' : cur'.size = cap' * 1) (hn' : 1 ≤ cap') (hne : g' ≠ g) (h1 : ∀ u ∈ cur.toList.take (n * 1), u.oneCell' = true) (h1' : ∀ u ∈ cur'.toList.take 1, u.oneCell' = true) :
  Calls Tryz.prog 200 #[.slice (some ⟨g, 0, none⟩) n cap, .int .i64 i, .slice (some ⟨g', 0, none⟩) 1 cap'] w fun x w' => x = .returned (.slice (some ⟨g, 0, none⟩) (n + 1) cap) ∧
   w' = putRow id w.drew g 0 (layC (layC cur (i + 1) ((cur.toList.take (n * 1)).drop (i))) (i) (cur'.toList.take 1)) := by
 obtain ⟨x0, z, g1, g2, g3, g4, g5, g6, g7⟩ := zero_of w tau_ok (e := 3) (kd := 0) (by kernel_rfl)
 have g2 : x0.size = 1 := g2
 have t22 : Tryz.prog.underlying 27 = some (.slice 3) := Tryz.underlying27
 have mixed := hmix
 have hcap : (n + 1) * 1 ≤ cur.size := by rw [hs]; exact Nat.mul_le_mul_right _ hroom
 have hcap' : 1 ≤ cur'.size := by rw [hs']; omega
 obtain ⟨news, hnews⟩ : ∃ news, news = (cur.toList.take (n * 1)).drop (i) := ⟨_, rfl⟩
 obtain ⟨vs, hvs⟩ : ∃ vs, vs = cur'.toList.take 1 := ⟨_, rfl⟩
 rw [← hnews, ← hvs]
 have hdl : news.length = (n - i) * 1 := by rw [hnews]; simp; omega
 have hvl : vs.length = 1 * 1 := by rw [hvs]; simp; omega
 have hH := holds_of_heap hh
 have hH' := holds_of_heap hh'
 have hz2 : ¬ ((i : Int) = (n : Int)) := by omega
 have hov : ∀ lb cb, (callFunc 221 #[.slice (some ⟨g', 0, none⟩) 1 cap', .slice (some ⟨g, i + 1, none⟩) lb cb]).run Tryz.prog w = .ok (.value (.bool false)) w := fun lb cb => by
  rw [run_callFunc_extern Tryz.func221 (by kernel_rfl) (by kernel_rfl) (by kernel_rfl) (e := Extern.SlicesOverlaps.overlaps #[27, 27] #[4]) (by kernel_rfl),
   Lib.run_overlaps_apart w 27 4 3 t22 1 (fun w => by simp [Go.sizeOf, typeInfo, g1, g2]) ⟨g', 0, none⟩ ⟨g, i + 1, none⟩ 1 cap' lb cb hne 3 3 cur'.size cur.size (by simp [World.shape?, hh']) (by simp [World.shape?, hh]) (by omega) (by simp [World.frozen?, hh']) (by simp [World.frozen?, hh'])]
  rfl
 have hcp1 : ∀ ty lb dc lc sc, lb = n - i → n - i ≤ lc → (Builtin.copy_ #[27, 27] ty #[.slice (some ⟨g, i + 1, none⟩) lb dc, .slice (some ⟨g, i, none⟩) lc sc]).run Tryz.prog w.drew = .ok (goInt ((n - i : Nat) : Int)) (w.drew.setCells g (i + 1) news) := fun ty lb dc lc sc hlb hlc =>
  run_copy_k w.drew _ _ ty 3 g (i + 1) lb dc ⟨g, i, none⟩ lc sc news t22 g1 g2 (by simp only [Nat.min_def]; split <;> omega) hdl
   (fun j v hj => by
     have hlt : j < (n - i) * 1 := by have := (List.getElem?_eq_some_iff.1 hj).1; rwa [hdl] at this
     rw [hnews, List.getElem?_drop, List.getElem?_take_of_lt (by omega), Array.getElem?_toList, Array.getElem?_eq_getElem (by omega)] at hj
     rw [Addr.add_lit]
     have := (hH (i + j) (by omega)).1
     rw [Nat.zero_add, getElem!_pos cur _ (by omega)] at this
     injection hj with hj
     rw [← hj]
     exact this)
   (fun j hj => by
     rw [hdl] at hj
     have := (hH (i + 1 + j) (by omega)).1
     rw [Nat.zero_add] at this
     show (w.cell? _).isSome = true
     rw [this]; rfl)
   (fun j hj => by
     rw [hdl] at hj
     have := (hH (i + 1 + j) (by omega)).2
     rwa [Nat.zero_add] at this)
   (fun v hv => h1 v (by rw [hnews] at hv; exact List.mem_of_mem_drop hv))
 obtain ⟨W1, hW1⟩ : ∃ W1, W1 = w.drew.setCells g (i + 1) news := ⟨_, rfl⟩
 have hsp1 : ∀ k, k < (n + 1) * 1 → (W1.cell? ⟨g, k, none⟩).isSome = true := fun k hk => by
  rw [hW1]
  refine isSome_setC g _ _ _ (fun j hj => ?_) _ ?_
  · rw [hdl] at hj
    have := (hH (i + 1 + j) (by omega)).1
    rw [Nat.zero_add] at this
    show (w.cell? _).isSome = true
    rw [this]; rfl
  · have := (hH k (by omega)).1
    rw [Nat.zero_add] at this
    show (w.cell? _).isSome = true
    rw [this]; rfl
 have hcp2 : ∀ (W : World), (∀ x, W.cell? x = W1.cell? x) → (∀ x, W.frozen? x = W1.frozen? x) → ∀ ty dc, (Builtin.copy_ #[27, 27] ty #[.slice (some ⟨g, i, none⟩) (n + 1 - i) dc, .slice (some ⟨g', 0, none⟩) 1 cap']).run Tryz.prog W = .ok (goInt 1) (W.setCells g (i) vs) := fun W hWc hWf ty dc =>
  run_copy_k W _ _ ty 3 g (i) (n + 1 - i) dc ⟨g', 0, none⟩ 1 cap' vs t22 g1 g2 (by simp only [Nat.min_def]; split <;> omega) hvl
   (fun j v hj => by
     have hlt : j < 1 := by have := (List.getElem?_eq_some_iff.1 hj).1; rw [hvl] at this; omega
     rw [hvs, List.getElem?_take_of_lt (by omega), Array.getElem?_toList, Array.getElem?_eq_getElem (by omega)] at hj
     rw [Addr.add_lit, hWc, hW1, World.cell?_setCells_out g _ _ _ _ (fun h _ => absurd h hne)]
     have := (hH' j (by omega)).1
     rw [getElem!_pos cur' _ (by omega)] at this
     injection hj with hj
     rw [← hj]
     exact this)
   (fun j hj => by rw [hvl] at hj; rw [hWc]; exact hsp1 _ (by omega))
   (fun j hj => by
     rw [hvl] at hj
     rw [hWf, hW1, World.frozen?_setCells]
     have := (hH (i + j) (by omega)).2
     rwa [Nat.zero_add] at this)
   (fun v hv => h1' v (by rw [hvs] at hv; exact hv))
 have hfin : W1.setCells g (i) vs = putRow id w.drew g 0 (layC (layC cur (i + 1) news) (i) vs) := by
  have hdr : w.drew.heap[g]? = some (.cells cur 3 (0, 0)) := hh
  rw [hW1]
  conv => lhs; rw [← putRow_self id w.drew g 0 cur (holds_of_heap hdr)]
  rw [setCells_layC w.drew g news _ cur (by rw [hdl]; omega), setCells_layC w.drew g vs _ _ (by rw [layC_size (by rw [hdl]; omega), hvl]; omega)]
 have hw1 : IntKind.i64.wrap ((i : Int) + 1) = (i : Int) + 1 := by rw [IntKind.wrap_i64]; unfold maxLen at hcm; omega
 have htn : ((i : Int) + 1).toNat = i + 1 := by omega
 have hb1 : (0 : Int) ≤ (i : Int) + 1 := by omega
 have hin2 : i ≤ n := by omega
 have hb2 : ¬ (cap = i + 1) := by omega
 have hb3 : (i : Int) ≤ (n : Int) + 1 := by omega
 have hb4 : ¬ (cap = i) := by omega
 have hcm2 : cap ≤ 9223372036854775807 := hcm
 rw [← hW1] at hcp1
 have HF : Hid (W1.setCells g (i) vs = putRow id w.drew g 0 (layC (layC cur (i + 1) news) (i) vs)) := hfin
 rw [← hfin]
 clear hfin hW1 hsp1 hH hH' hh hh' hnews hvs h1 h1' g6 g7 g4 hdl hvl hs hs' hcap hcap'
 go_enter Tryz.func200, Tryz.ntmps200
 go_wp2_with (simp only [hov])
 go_region_law_o (refine step_copy_k rfl (.tmp 73) (.tmp 76) 27 27 rfl (.slice (some ⟨g, i + 1, none⟩) (n - i) (cap - (i + 1))) (.slice (some ⟨g, i, none⟩) (n + 1 - i) (cap - i)) (by simp [Act.eval, Act.put]) (by simp [Act.eval, Act.put]) (hcp1 _ _ _ _ _ (by omega) (by omega)) ?_)
 go_wp2_with (at_builtin; go_loud (refine wpList_copy_k _ rfl _ _ 27 27 rfl _ _ rfl rfl (hcp2 _ (fun _ => rfl) (fun _ => rfl) _ _) ?_))
 go_ret
 exact ⟨rfl, rfl⟩
set_option maxHeartbeats 4000000 in
set_option maxRecDepth 1000000 in
theorem i_growInts (g cap n i g' cap' : Nat) (cur cur' : Array Value) (w : World) (hh : w.heap[g]? = some (.cells cur 3 (0, 0))) (hs : cur.size = cap * 1) (hnc : n ≤ cap) (hroom : cap < n + 1) (hcm : cap ≤ maxLen) (hin : i < n) (hbig : (n + 1) * 8 ≤ 140737488355328)
  (hh' : w.heap[g']? = some (.cells cur' 3 (0, 0))) (hs' : cur'.size = cap' * 1) (hn' : 1 ≤ cap') (h1 : ∀ u ∈ cur.toList.take (n * 1), u.oneCell' = true) (h1' : ∀ u ∈ cur'.toList.take 1, u.oneCell' = true) :
  Calls Tryz.prog 200 #[.slice (some ⟨g, 0, none⟩) n cap, .int .i64 i, .slice (some ⟨g', 0, none⟩) 1 cap'] w fun x w' => ∃ G ROW, x = .returned (.slice (some ⟨w.heap.size, 0, none⟩) (n + 1) G) ∧ n + 1 ≤ G ∧ G ≤ maxLen ∧ ROW.size = G * 1 ∧ ROW.toList.take (i) = (cur.toList.take (n * 1)).take (i) ∧
   w' = putRow id (w.drew.alloc (.cells ROW 3)).drew w.heap.size 0 (layC (layC ROW (i) (cur'.toList.take 1)) (i + 1) ((cur.toList.take (n * 1)).drop (i))) := by
 obtain ⟨x0, z, g1, g2, g3, g4, g5, g6, g7⟩ := zero_of w tau_ok (e := 3) (kd := 0) (by kernel_rfl)
 have g2 : x0.size = 1 := g2
 have g3 : x0.bytes = 8 := g3
 have g5 : z.cells.size = 1 := g5
 have t22 : Tryz.prog.underlying 27 = some (.slice 3) := Tryz.underlying27
 have tI : Tryz.prog.underlying 3 = some (.int .i64) := Tryz.underlying3
 have mixed := hmix
 have hcap : n * 1 ≤ cur.size := by rw [hs]; exact Nat.mul_le_mul_right _ hnc
 have hcap' : 1 ≤ cur'.size := by rw [hs']; omega
 obtain ⟨cs, hcs⟩ : ∃ cs, cs = cur.toList.take (n * 1) := ⟨_, rfl⟩
 obtain ⟨vs, hvs⟩ : ∃ vs, vs = cur'.toList.take 1 := ⟨_, rfl⟩
 rw [← hcs, ← hvs]
 rw [← hcs] at h1
 rw [← hvs] at h1'
 have hcl : cs.length = n * 1 := by rw [hcs]; simp; omega
 have hvl : vs.length = 1 * 1 := by rw [hvs]; simp; omega
 have hH := holds_of_heap hh
 have hH' := holds_of_heap hh'
 have hcc : ∀ j v, cs[j]? = some v → w.cell? ⟨g, j, none⟩ = some v := fun j v hj => by
  have hlt : j < n * 1 := by have := (List.getElem?_eq_some_iff.1 hj).1; rwa [hcl] at this
  rw [hcs, List.getElem?_take_of_lt (by omega), Array.getElem?_toList, Array.getElem?_eq_getElem (by omega)] at hj
  have := (hH j (by omega)).1
  rw [Nat.zero_add, getElem!_pos cur _ (by omega)] at this
  injection hj with hj
  rw [← hj]
  exact this
 have hvc : ∀ j v, vs[j]? = some v → w.cell? ⟨g', j, none⟩ = some v := fun j v hj => by
  have hlt : j < 1 := by have := (List.getElem?_eq_some_iff.1 hj).1; rw [hvl] at this; omega
  rw [hvs, List.getElem?_take_of_lt (by omega), Array.getElem?_toList, Array.getElem?_eq_getElem (by omega)] at hj
  have := (hH' j (by omega)).1
  rw [Nat.zero_add, getElem!_pos cur' _ (by omega)] at this
  injection hj with hj
  rw [← hj]
  exact this
 have hgw : g < w.heap.size := (Array.getElem?_eq_some_iff.1 hh).1
 have hvw : g' < w.heap.size := (Array.getElem?_eq_some_iff.1 hh').1
 have hkk : (n : Int) + 1 - (i : Int) = ((n + 1 - i : Nat) : Int) := by omega
 have hik : i + (n + 1 - i) = n + 1 := by omega
 have hold : (Builtin.firstCells x0.size i (.slice (some ⟨g, 0, none⟩) i cap)).run Tryz.prog w.drew = .ok (cs.take (i)).toArray w.drew := by
  rw [g2]
  exact run_firstCells_some w.drew 1 i ⟨g, 0, none⟩ i cap (cs.take (i)) (by rw [List.length_take]; omega) (fun j v hj => by
   rw [Addr.add_lit, Nat.zero_add]
   rw [List.getElem?_take] at hj
   split at hj
   · exact hcc j v hj
   · cases hj)
 have hrz : ∀ ty, (Builtin.append_ #[27, 3] ty #[.slice (some ⟨g, 0, none⟩) i cap, .int .i64 ((n : Int) + 1 - (i : Int))]).run Tryz.prog w =
   .ok (.slice (some ⟨w.heap.size, 0, none⟩) (n + 1) (grownCap w (n + 1) cap 3)) (w.drew.alloc (.cells ((cs.take (i)).toArray ++ Builtin.zeroCells z.cells (n + 1 - i) ++ Builtin.zeroCells z.cells (grownCap w (n + 1) cap 3 - (n + 1))) 3)) := fun ty => by
  have h := Lib.run_append_grow_zeros w 27 3 ty 3 x0 z .i64 .i64 t22 tI g1 g4 (some ⟨g, 0, none⟩) i cap (cs.take (i)) hold (n + 1 - i) (by omega) (by omega) (by omega) (by omega) (by rw [g3]; omega) (by rw [g3, hik]; exact growslice_fits hroom hbig)
  rw [hik] at h
  rw [hkk]
  exact h
 obtain ⟨G, hG⟩ : ∃ G, G = grownCap w (n + 1) cap 3 := ⟨_, rfl⟩
 obtain ⟨ROW, hROW⟩ : ∃ ROW : Array Value, ROW = (cs.take (i)).toArray ++ Builtin.zeroCells z.cells (n + 1 - i) ++ Builtin.zeroCells z.cells (G - (n + 1)) := ⟨_, rfl⟩
 rw [← hG] at hrz
 rw [← hROW] at hrz
 have hGn : n + 1 ≤ G := by rw [hG]; exact grownCap_ge w _ _ _
 have hGm : G ≤ maxLen := by rw [hG]; exact grownCap_le_maxLen w (n + 1) cap 3 (by unfold maxLen; omega)
 have hG63 : G ≤ 9223372036854775807 := hGm
 have hRs : ROW.size = G * 1 := by
  rw [hROW]
  simp [Builtin.zeroCells, g5, hcl]
  omega
 have hRl : (n + 1) * 1 ≤ ROW.size := by rw [hRs]; exact Nat.mul_le_mul_right _ hGn
 have hRt : ROW.toList.take (i) = cs.take (i) := by
  rw [hROW]
  simp only [Array.toList_append, List.append_assoc]
  rw [List.take_append_of_le_length (by simp [hcl]; omega)]
  first | done | (show List.take _ (List.take _ cs) = _; rw [List.take_take, Nat.min_self])
 obtain ⟨W1, hW1⟩ : ∃ W1, W1 = w.drew.alloc (.cells ROW 3) := ⟨_, rfl⟩
 rw [← hW1] at hrz
 have hN : ∀ j, j < (n + 1) * 1 → (W1.cell? ⟨w.heap.size, j, none⟩).isSome = true := fun j hj => by
  rw [hW1, World.cell?_alloc_at (w := w.drew) ROW _ w.heap.size j rfl, Array.getElem?_eq_getElem (by omega)]; rfl
 have hNf : ∀ j, W1.frozen? ⟨w.heap.size, j, none⟩ = false := fun j => by rw [hW1]; exact World.frozen?_alloc_at (w := w.drew) ROW _ w.heap.size j rfl
 have hOb : ∀ j v, w.cell? ⟨g, j, none⟩ = some v → W1.cell? ⟨g, j, none⟩ = some v := fun j v h => by rw [hW1, World.cell?_alloc_past (w := w.drew) _ g j hgw]; exact h
 have hOv : ∀ j v, w.cell? ⟨g', j, none⟩ = some v → W1.cell? ⟨g', j, none⟩ = some v := fun j v h => by rw [hW1, World.cell?_alloc_past (w := w.drew) _ g' j hvw]; exact h
 have hcpA : ∀ (W : World), (∀ x, W.cell? x = W1.cell? x) → (∀ x, W.frozen? x = W1.frozen? x) → ∀ ty dc, (Builtin.copy_ #[27, 27] ty #[.slice (some ⟨w.heap.size, i, none⟩) (n + 1 - i) dc, .slice (some ⟨g', 0, none⟩) 1 cap']).run Tryz.prog W = .ok (goInt ((1 : Nat) : Int)) (W.setCells w.heap.size (i) vs) := fun W hWc hWf ty dc =>
  run_copy_k W _ _ ty 3 w.heap.size (i) (n + 1 - i) dc ⟨g', 0, none⟩ 1 cap' vs t22 g1 g2 (by simp only [Nat.min_def]; split <;> omega) hvl
   (fun j v hj => by rw [Addr.add_lit, Nat.zero_add, hWc]; exact hOv _ v (hvc j v hj))
   (fun j hj => by rw [hvl] at hj; rw [hWc]; exact hN _ (by omega)) (fun j hj => by rw [hWf]; exact hNf _) h1'
 have hgN : g ≠ w.heap.size := by omega
 have hdl : (cs.drop (i)).length = (n - i) * 1 := by rw [List.length_drop, hcl]; omega
 have hcpB : ∀ (W : World), (∀ x, W.cell? x = (W1.setCells w.heap.size (i) vs).cell? x) → (∀ x, W.frozen? x = (W1.setCells w.heap.size (i) vs).frozen? x) → ∀ ty dc sc, (Builtin.copy_ #[27, 27] ty #[.slice (some ⟨w.heap.size, i + 1, none⟩) (n - i) dc, .slice (some ⟨g, i, none⟩) (n - i) sc]).run Tryz.prog W = .ok (goInt ((n - i : Nat) : Int)) (W.setCells w.heap.size (i + 1) (cs.drop (i))) := fun W hWc hWf ty dc sc =>
  run_copy_k W _ _ ty 3 w.heap.size (i + 1) (n - i) dc ⟨g, i, none⟩ (n - i) sc (cs.drop (i)) t22 g1 g2 (by simp only [Nat.min_def]; split <;> omega) hdl
   (fun j v hj => by
     rw [Addr.add_lit, hWc, World.cell?_setCells_out _ _ _ _ _ (fun h _ => absurd h hgN)]
     exact hOb _ v (hcc _ v (by rwa [List.getElem?_drop] at hj)))
   (fun j hj => by rw [hdl] at hj; rw [hWc]; exact isSome_setC _ _ _ _ (fun t ht => by rw [hvl] at ht; exact hN _ (by omega)) _ (hN _ (by omega)))
   (fun j hj => by rw [hWf, World.frozen?_setCells]; exact hNf _) (fun v hv => h1 v (List.mem_of_mem_drop hv))
 have hfin : ((w.drew.alloc (.cells ROW 3)).drew.setCells w.heap.size (i) vs).setCells w.heap.size (i + 1) (cs.drop (i)) = putRow id (w.drew.alloc (.cells ROW 3)).drew w.heap.size 0 (layC (layC ROW (i) vs) (i + 1) (cs.drop (i))) := by
  have hdr : (w.drew.alloc (.cells ROW 3)).drew.heap[w.heap.size]? = some (.cells ROW 3 (0, 0)) := by
   show (w.drew.heap.push _)[w.heap.size]? = _
   exact Array.getElem?_push_size
  conv => lhs; rw [← putRow_self id (w.drew.alloc (.cells ROW 3)).drew w.heap.size 0 ROW (holds_of_heap hdr)]
  rw [setCells_layC _ _ vs _ ROW (by rw [hvl]; omega), setCells_layC _ _ (cs.drop (i)) _ _ (by rw [layC_size (by rw [hvl]; omega), hdl]; omega)]
 subst hW1
 have hE1 : ∀ x, ((w.alloc (.cells ROW 3)).drew).cell? x = (w.drew.alloc (.cells ROW 3)).cell? x := fun x => rfl
 have hE2 : ∀ x, ((w.alloc (.cells ROW 3)).drew).frozen? x = (w.drew.alloc (.cells ROW 3)).frozen? x := fun x => rfl
 have hF1 : ∀ x, (((w.alloc (.cells ROW 3)).drew.setCells w.heap.size (i) vs).drew).cell? x = ((w.drew.alloc (.cells ROW 3)).setCells w.heap.size (i) vs).cell? x := fun x => rfl
 have hF2 : ∀ x, (((w.alloc (.cells ROW 3)).drew.setCells w.heap.size (i) vs).drew).frozen? x = ((w.drew.alloc (.cells ROW 3)).setCells w.heap.size (i) vs).frozen? x := fun x => rfl
 have hz2 : ¬ ((i : Int) = (n : Int)) := by omega
 have hz3 : (cap : Int) < (n : Int) + 1 := by omega
 have hw1 : IntKind.i64.wrap ((i : Int) + 1) = (i : Int) + 1 := by rw [IntKind.wrap_i64]; unfold maxLen at hcm; omega
 have htn : ((i : Int) + 1).toNat = i + 1 := by omega
 have hb1 : (0 : Int) ≤ (i : Int) + 1 := by omega
 have hin2 : i ≤ n := by omega
 have hGi : ¬ (G = i) := by omega
 have hGim : ¬ (G = i + 1) := by omega
 have hci : ¬ (cap = i) := by omega
 have hb3 : (i : Int) ≤ (n : Int) + 1 := by omega
 have hcm2 : cap ≤ 9223372036854775807 := hcm
 have HF : Hid (((w.drew.alloc (.cells ROW 3)).drew.setCells w.heap.size (i) vs).setCells w.heap.size (i + 1) (cs.drop (i)) = putRow id (w.drew.alloc (.cells ROW 3)).drew w.heap.size 0 (layC (layC ROW (i) vs) (i + 1) (cs.drop (i)))) := hfin
 have HRt : Hid (ROW.toList.take (i) = cs.take (i)) := hRt
 have HRs : Hid (ROW.size = G * 1) := hRs
 clear hfin hRt hRs hkk hik hold hROW hG hRl hH hH' hh hh' hcs hvs h1 h1' g6 g7 g4 hdl hvl hs hs' hcap hcap' hcc hvc hN hNf hOb hOv hcl
 go_enter Tryz.func200, Tryz.ntmps200
 go_wp2_with (first
  | (at_builtin; refine Lib.wpList_append_run _ rfl _ _ _ _ rfl _ _ rfl rfl _ _ (hrz _) ?_)
  | (at_builtin; refine wpList_copy_k _ rfl _ _ 27 27 rfl _ _ rfl rfl (hcpA _ hE1 hE2 _ _) ?_)
  | (at_builtin; refine wpList_copy_k _ rfl _ _ 27 27 rfl _ _ rfl rfl (hcpB _ (fun _ => rfl) (fun _ => rfl) _ _ _) ?_))
 go_region_law_o (refine step_copy_k rfl _ _ 27 27 rfl (.slice (some ⟨w.heap.size, i + 1, none⟩) (n - i) (G - (i + 1))) (.slice (some ⟨g, i, none⟩) (n - i) (cap - i)) (by simp [Act.eval, Act.put]) (by simp [Act.eval, Act.put]) (hcpB _ hF1 hF2 _ (G - (i + 1)) (cap - i)) ?_)
 go_wp2
 go_ret
 refine ⟨G, ROW, rfl, hGn, hGm, HRs.out, HRt.out, ?_⟩
 rw [← setCells_drew]
 exact HF.out
theorem w_InsertInts : InsW Tryz.prog 200 3 1 8 := by
 refine InsW.of (fnOk_enters (fn := Tryz.f200) (D := [(11, [(0, 0), (1, 0), (2, 0), (3, 6), (4, 9), (5, 0), (6, 0), (7, 96), (8, 144)]), (15, [(0, 0), (1, 0), (2, 0), (3, 6), (4, 9), (5, 0), (6, 0), (7, 96), (8, 144)])]) (by kernel_rfl) (by kernel_rfl)) (fun base n v v2 us vs w a1 a2 a3 a4 a5 => i_endInts base n v v2 us vs w a1 a2 a3 a4 a5) (fun g cap n i g' cap' cur cur' w a1 a2 a3 a4 a5 a6 a7 a8 a9 b1 b2 => ?_) (fun g cap n i g' cap' cur cur' w a1 a2 a3 a4 a5 a6 a7 a8 a9 b1 b2 b3 => ?_)
 · have h := i_shiftInts g cap n i g' cap' cur cur' w a1 a2 a3 a4 a5 a6 a7 a8 a9 b1 b2
   (try simp only [Nat.mul_one] at h ⊢)
   exact h
 · have h := i_growInts g cap n i g' cap' cur cur' w a1 a2 a3 a4 a5 a6 a7 a8 a9 b1 b2 b3
   (try simp only [Nat.mul_one] at h ⊢)
   exact h
theorem t_InsertInts : TrKnown Tryz.prog tau 200 (insertT 0) := insert_tr w_InsertInts
end Go.Proofs.YtjjpakdlkjaigaaGreat

/- Contracts: who was lost. -/
namespace Go.Proofs.YtjjpakdlkjaigaaGreat
open Go.RowKit
set_option maxRecDepth 20000
theorem etaInt0 {l : List Int} {i : Nat} (h : i < l.length) : l.getD i 0 = l[i] := by simp [List.getD_eq_getElem?_getD, h]
theorem rising_adj {l : List Int} (h : ∀ t, t + 1 < l.length → l.getD t 0 < l.getD (t + 1) 0) : Rising l := by
 intro s t
 induction t with
 | zero => intro h1; omega
 | succ t ih =>
   intro h1 h2
   have := h t h2
   rcases Nat.lt_or_eq_of_le (Nat.le_of_lt_succ h1) with h3 | rfl
   · have := ih h3 (by omega)
     omega
   · exact this
theorem rising_iff {l : List Int} : Rising l ↔ l.Pairwise (· < ·) := by
 rw [List.pairwise_iff_getElem]
 constructor
 · intro h i j hi hj hij
   have := h i j hij hj
   rwa [etaInt0 hi, etaInt0 hj] at this
 · intro h i j hij hj
   rw [etaInt0 (show i < l.length by omega), etaInt0 hj]
   exact h i j (by omega) hj hij
def passB (l : List Int) : Bool := decide (l.length ≤ 16) && (decide (l.Pairwise (· < ·)) && l.all placeB)
theorem passB_iff {l : List Int} : passB l = true ↔ l.length ≤ 16 ∧ Rising l ∧ ∀ x ∈ l, placeB x = true := by
 simp only [passB, Bool.and_eq_true, decide_eq_true_eq, rising_iff, List.all_eq_true]
theorem passB_no {l : List Int} (h : ¬ (l.length ≤ 16 ∧ Rising l ∧ ∀ x ∈ l, placeB x = true)) : passB l = false := by
 rw [← passB_iff] at h
 simpa using h
theorem back1 {i : Nat} (h : 0 < i) (h2 : i ≤ 17592186044416) : (IntKind.i64.wrap ((i : Int) - 1)).toNat = i - 1 ∧ IntKind.i64.wrap ((i : Int) - 1) = ((i - 1 : Nat) : Int) := by
 rw [wrapI (by omega) (by omega)]; omega
set_option maxHeartbeats 1000000 in
theorem k_passMay : Known Tryz.prog tau 198 (S1 dInts fun l => okB (passB l)) := by
 refine known1 hmix tau_ok (ctx_cons k_Place ctx_nil) (fn := Tryz.f198) (by kernel_rfl) [] (by kernel_rfl) _ _ fun xs hfit => ⟨rfl,
  [(2, invN [2, 3, 4, 7, 8, 9, 10, 11, 12, 13, 14, 15, 16, 17, 18, 19, 20, 21, 22, 23, 24, 25, 26, 27, 28] (fun i => i ≤ xs.length ∧ (∀ x ∈ xs.take i, placeB x = true) ∧ ∀ t, t + 1 < i → xs.getD t 0 < xs.getD (t + 1) 0) (fun i => withS [(7, .int .i64 i)]) (fun i => xs.length - i))], ?_⟩
 have hlen : xs.length * 8 ≤ 140737488355328 := hfit.1
 clear hfit
 refine V2 ?_; constructor <;> (first | (with_reducible exact TT.i) | (intros; (repeat (apply Wk.mk; intro Kv hN hX hR)); apply Wr.mk))
 all_goals first
  | (refine ⟨0, ⟨by omega, by simp, by intros; omega⟩, ?_⟩
     refine V1 ?_; constructor <;> (first | (with_reducible exact TT.i) | (intros; (repeat (apply Wk.mk; intro Kv hN hX hR)); apply Wr.mk))
     all_goals rfl)
  | (with_reducible intro i hi
     refine V1 ?_; constructor <;> (first | (with_reducible exact TT.i) | (intros; (repeat (apply Wk.mk; intro Kv hN hX hR)); apply Wr.mk))
     all_goals first
      | exact Ob.mk ⟨by omega, of_decide_eq_true aQ⟩
      | (have h0 := of_decide_eq_true (show decide (0 < (i : Int)) = true by with_reducible assumption)
         have hb := back1 (i := i) (by omega) (by omega)
         refine Ob.mk ?_
         rw [hb.2]
         have h := of_decide_eq_true (show decide ((i : Int) < (xs.length : Nat)) = true by with_reducible assumption)
         omega)
      | (have h := of_decide_eq_true (show decide ((i : Int) < (xs.length : Nat)) = true by with_reducible assumption)
         have hm : (!placeB (xs.getD (i : Int).toNat 0)) = true := by with_reducible assumption
         refine (passB_no ?_).symm
         rintro ⟨_, _, h3⟩
         have := h3 _ (getD_mem (l := xs) (i := (i : Int).toNat) (d := 0) (by omega))
         rw [this] at hm
         simp at hm)
      | (have h := of_decide_eq_true (show decide ((i : Int) < (xs.length : Nat)) = true by with_reducible assumption)
         have h0 := of_decide_eq_true (show decide (0 < (i : Int)) = true by with_reducible assumption)
         have hb := back1 (i := i) (by omega) (by omega)
         have hm := of_decide_eq_true (show decide (xs.getD (i : Int).toNat 0 ≤ xs.getD (IntKind.i64.wrap ((i : Int) - 1)).toNat 0) = true by with_reducible assumption)
         rw [hb.1, Int.toNat_natCast] at hm
         refine (passB_no ?_).symm
         rintro ⟨_, h2, _⟩
         have := h2 (i - 1) i (by omega) (by omega)
         omega)
      | (have h := of_decide_eq_true (show decide ((i : Int) < (xs.length : Nat)) = true by with_reducible assumption)
         have hp : (!placeB (xs.getD (i : Int).toNat 0)) = false := by with_reducible assumption
         simp only [Int.toNat_natCast, Bool.not_eq_false'] at hp
         refine ⟨i + 1, ⟨by omega, all_take_succ (d := 0) (by omega) hi.2.1 hp, fun t ht => ?_⟩, by show xs.length - (i + 1) < xs.length - i; omega, ?_⟩
         · rcases Nat.lt_or_eq_of_le (Nat.le_of_lt_succ ht) with h3 | h3
           · exact hi.2.2 t h3
           · first
              | (have h0 := of_decide_eq_false (show decide (0 < (i : Int)) = false by with_reducible assumption)
                 omega)
              | (have hb := back1 (i := i) (by omega) (by omega)
                 have hm := of_decide_eq_false (show decide (xs.getD (i : Int).toNat 0 ≤ xs.getD (IntKind.i64.wrap ((i : Int) - 1)).toNat 0) = false by with_reducible assumption)
                 rw [hb.1, Int.toNat_natCast] at hm
                 rw [show t = i - 1 by omega, show i - 1 + 1 = i by omega]
                 omega)
         · refine V1 ?_; constructor <;> (first | (with_reducible exact TT.i) | (intros; (repeat (apply Wk.mk; intro Kv hN hX hR)); apply Wr.mk))
           all_goals first
            | exact wrapI (by omega) (by omega)
            | rfl)
      | (have h := of_decide_eq_false (show decide ((i : Int) < (xs.length : Nat)) = false by with_reducible assumption)
         obtain rfl : i = xs.length := by omega
         have h2 := hi.2.1
         rw [List.take_of_length_le (Nat.le_refl _)] at h2
         have h3 : Rising xs := rising_adj hi.2.2
         by_cases h4 : xs.length ≤ 16
         · rw [passB_iff.2 ⟨h4, h3, h2⟩]
           exact decide_eq_true (by omega)
         · rw [passB_no (fun h => h4 h.1)]
           exact decide_eq_false (by omega))
      | skip)
  | skip
theorem k_has : Known Tryz.prog tau 119 (S2 dInts dInt fun l x => okB (hasI l x)) := by
 refine known2 hmix tau_ok ctx_nil (fn := Tryz.f119) (by kernel_rfl) [] (by kernel_rfl) _ _ _ fun xs x hfit => ⟨rfl,
  [(2, invN [4, 5, 6, 7, 8, 9, 10, 11, 12, 13, 14, 15, 16, 17] (fun i => i ≤ xs.length ∧ ∀ y ∈ xs.take i, ¬ y = x) (fun i => withS [(5, .int .i64 i)]) (fun i => xs.length - i))], ?_⟩
 have hlen : xs.length * 8 ≤ 140737488355328 := hfit.1
 clear hfit
 refine V2 ?_; constructor <;> (first | (with_reducible exact TT.i) | (intros; (repeat (apply Wk.mk; intro Kv hN hX hR)); apply Wr.mk))
 all_goals first
  | (refine ⟨0, ⟨by omega, by simp⟩, ?_⟩
     refine V1 ?_; constructor <;> (first | (with_reducible exact TT.i) | (intros; (repeat (apply Wk.mk; intro Kv hN hX hR)); apply Wr.mk))
     all_goals rfl)
  | (with_reducible intro i hi
     refine V1 ?_; constructor <;> (first | (with_reducible exact TT.i) | (intros; (repeat (apply Wk.mk; intro Kv hN hX hR)); apply Wr.mk))
     all_goals (try simp only [Int.toNat_natCast] at *)
     all_goals first
      | exact Ob.mk ⟨by omega, of_decide_eq_true aQ⟩
      | (have h := of_decide_eq_true (show decide ((i : Int) < (xs.length : Nat)) = true by with_reducible assumption)
         have hm := of_decide_eq_true (show decide (xs.getD i 0 = x) = true by with_reducible assumption)
         exact (List.any_eq_true.2 ⟨xs.getD i 0, getD_mem (by omega), by simpa using hm⟩).symm)
      | (have h := of_decide_eq_true (show decide ((i : Int) < (xs.length : Nat)) = true by with_reducible assumption)
         have hm := of_decide_eq_false (show decide (xs.getD i 0 = x) = false by with_reducible assumption)
         refine ⟨i + 1, ⟨by omega, all_take_succ (d := 0) (by omega) hi.2 hm⟩, by show xs.length - (i + 1) < xs.length - i; omega, ?_⟩
         refine V1 ?_; constructor <;> (first | (with_reducible exact TT.i) | (intros; (repeat (apply Wk.mk; intro Kv hN hX hR)); apply Wr.mk))
         all_goals first
          | exact wrapI (by omega) (by omega)
          | rfl)
      | (have h := of_decide_eq_false (show decide ((i : Int) < (xs.length : Nat)) = false by with_reducible assumption)
         have h2 := hi.2
         rw [List.take_of_length_le (by omega)] at h2
         exact (List.any_eq_false.2 (fun y hy => by simpa using h2 y hy)).symm)
      | skip)
  | skip
end Go.Proofs.YtjjpakdlkjaigaaGreat

/- Contracts: who was lost, with one more. -/
namespace Go.Proofs.YtjjpakdlkjaigaaGreat
open Go.RowKit
set_option maxRecDepth 20000
set_option maxHeartbeats 1000000 in
theorem k_refPassMay : Known Tryz.prog tau 118 (S1 dInts fun l => okB (passB l)) := by
 refine known1 hmix tau_ok (ctx_cons k_refPlaces ctx_nil) (fn := Tryz.f118) (by kernel_rfl) [(4, [(0, 0), (1, 0), (2, 2), (3, 5), (4, 8), (5, 0), (6, 0), (7, 96), (8, 128), (9, 272)])] (by kernel_rfl) _ _ fun xs hfit => ⟨rfl,
  [(2, invN [2, 3, 4, 5, 6, 7, 8, 9, 10, 11, 12, 13, 14, 15, 16, 17, 18, 19] (fun i => 1 ≤ i ∧ (i = 1 ∨ i ≤ xs.length) ∧ ∀ t, t + 1 < i → xs.getD t 0 < xs.getD (t + 1) 0) (fun i => withS [(3, .int .i64 i)]) (fun i => xs.length - i))], ?_⟩
 have hlen : xs.length * 8 ≤ 140737488355328 := hfit.1
 clear hfit
 refine V4 ?_; constructor <;> (first | (with_reducible exact TT.i) | (intros; (repeat (apply Wk.mk; intro Kv hN hX hR)); apply Wr.mk))
 all_goals first
  | (refine ⟨1, ⟨by omega, by simp, by intros; omega⟩, ?_⟩
     refine V1 ?_; constructor <;> (first | (with_reducible exact TT.i) | (intros; (repeat (apply Wk.mk; intro Kv hN hX hR)); apply Wr.mk))
     all_goals rfl)
  | (with_reducible intro i hi
     refine V3 ?_; constructor <;> (first | (with_reducible exact TT.i) | (intros; (repeat (apply Wk.mk; intro Kv hN hX hR)); apply Wr.mk))
     all_goals first
      | (have h := of_decide_eq_true (show decide ((i : Int) < (xs.length : Nat)) = true by with_reducible assumption)
         have hb := back1 (i := i) (by omega) (by omega)
         first
          | exact Ob.mk ⟨by omega, h⟩
          | exact Ob.mk (by rw [hb.2]; omega)
          | (have hm := of_decide_eq_true (show decide (xs.getD (i : Int).toNat 0 ≤ xs.getD (IntKind.i64.wrap ((i : Int) - 1)).toNat 0) = true by with_reducible assumption)
             rw [hb.1, Int.toNat_natCast] at hm
             refine (passB_no ?_).symm
             rintro ⟨_, h2, _⟩
             have := h2 (i - 1) i (by omega) (by omega)
             omega)
          | (have hm := of_decide_eq_false (show decide (xs.getD (i : Int).toNat 0 ≤ xs.getD (IntKind.i64.wrap ((i : Int) - 1)).toNat 0) = false by with_reducible assumption)
             rw [hb.1, Int.toNat_natCast] at hm
             refine ⟨i + 1, ⟨by omega, .inr (by omega), fun t ht => ?_⟩, by show xs.length - (i + 1) < xs.length - i; omega, ?_⟩
             · rcases Nat.lt_or_eq_of_le (Nat.le_of_lt_succ ht) with h3 | h3
               · exact hi.2.2 t h3
               · rw [show t = i - 1 by omega, show i - 1 + 1 = i by omega]
                 omega
             · refine V1 ?_; constructor <;> (first | (with_reducible exact TT.i) | (intros; (repeat (apply Wk.mk; intro Kv hN hX hR)); apply Wr.mk))
               all_goals first
                | exact wrapI (by omega) (by omega)
                | rfl))
      | (have h := of_decide_eq_false (show decide ((i : Int) < (xs.length : Nat)) = false by with_reducible assumption)
         have h3 : Rising xs := rising_adj (fun t ht => hi.2.2 t (by omega))
         have h2 : xs.all placeB = true := by with_reducible assumption
         by_cases h4 : xs.length ≤ 16
         · rw [passB_iff.2 ⟨h4, h3, List.all_eq_true.1 h2⟩]
           exact decide_eq_true (by omega)
         · rw [passB_no (fun h => h4 h.1)]
           exact decide_eq_false (by omega))
      | (have h2 : xs.all placeB = false := by with_reducible assumption
         refine (passB_no ?_).symm
         rintro ⟨_, _, h3⟩
         rw [List.all_eq_true.2 h3] at h2
         simp at h2))
  | skip
def insP (l : List Int) (x : Int) : List Int := l.take (l.countP fun y => decide (y < x)) ++ [x] ++ l.drop (l.countP fun y => decide (y < x))
noncomputable def withP (l : List Int) (x : Int) : List Int × Int := Classical.choose (seal_ex (if passB l = true ∧ placeB x = true then (if hasI l x = true then (l, (0 : Int)) else if l.length = 16 then ([], 801) else (insP l x, 0)) else ([], 800)))
theorem withP_def (l : List Int) (x : Int) : withP l x = if passB l = true ∧ placeB x = true then (if hasI l x = true then (l, (0 : Int)) else if l.length = 16 then ([], 801) else (insP l x, 0)) else ([], 800) := Classical.choose_spec (seal_ex _)
noncomputable def oWith (l : List Int) (x : Int) : Out := .ok (.tup [.own 0, .int .i64 (withP l x).2]) [.ints (withP l x).1]
theorem withP_no {l : List Int} {x : Int} (h : passB l = false ∨ placeB x = false) : withP l x = ([], 800) := by
 rw [withP_def, if_neg]
 rintro ⟨h1, h2⟩
 rcases h with h | h <;> simp_all
theorem withP_has {l : List Int} {x : Int} (h1 : passB l = true) (h2 : placeB x = true) (h : hasI l x = true) : withP l x = (l, 0) := by
 rw [withP_def, if_pos ⟨h1, h2⟩, if_pos h]
theorem withP_full {l : List Int} {x : Int} (h1 : passB l = true) (h2 : placeB x = true) (h : hasI l x = false) (h3 : l.length = 16) : withP l x = ([], 801) := by
 rw [withP_def, if_pos ⟨h1, h2⟩, if_neg (by rw [h]; simp), if_pos h3]
theorem withP_yes {l : List Int} {x : Int} (h1 : passB l = true) (h2 : placeB x = true) (h : hasI l x = false) (h3 : ¬ l.length = 16) : withP l x = (insP l x, 0) := by
 rw [withP_def, if_pos ⟨h1, h2⟩, if_neg (by rw [h]; simp), if_neg h3]
theorem k_passWith : Known Tryz.prog tau 159 (S2 dInts dInt oWith) := by
 refine knownX2 hmix tau_ok (fn := Tryz.f159) (by kernel_rfl) [] (by kernel_rfl) _ _ _ fun xs x hfit => ⟨rfl, _, ctx_tr t_InsertInts (ctx_cons k_passMay (ctx_cons k_Place (ctx_cons k_search (ctx_cons k_CloneInts ctx_nil)))), [], ?_⟩
 clear hfit
 refine V1 ?_; constructor <;> (first | (with_reducible exact TT.i) | (intros; (repeat (apply Wk.mk; intro Kv hN hX hR)); apply Wr.mk))
 all_goals first
  | (rw [withP_no (.inl (nf aQ))] <;> rfl)
  | (rw [withP_no (.inr (nf aQ))] <;> rfl)
  | (have h1 := nt (show (!passB xs) = false by with_reducible assumption)
     have h2 := nt (show (!placeB x) = false by with_reducible assumption)
     have hp := passB_iff.1 h1
     have hc : xs.countP (fun y => decide (y < x)) ≤ xs.length := List.countP_le_length
     first
      | exact Ob.mk hp.2.1
      | (rw [withP_has h1 h2 aQ] <;> rfl)
      | (have h4 := of_decide_eq_true (show decide ((xs.length : Int) = 16) = true by with_reducible assumption)
         rw [withP_full h1 h2 aQ (by omega)] <;> rfl)
      | (have h4 := of_decide_eq_false (show decide ((xs.length : Int) = 16) = false by with_reducible assumption)
         refine Ob.mk ⟨by unfold cntI; omega, by unfold cntI; omega, ?_⟩
         simp only [Rw.bts, Rw.kd, kdBytes]
         omega)
      | (have h4 := of_decide_eq_false (show decide ((xs.length : Int) = 16) = false by with_reducible assumption)
         rw [withP_yes h1 h2 aQ (by omega)] <;> rfl))
theorem asc_ext : ∀ {l m : List Int}, l.Pairwise (· < ·) → m.Pairwise (· < ·) → (∀ x, x ∈ l ↔ x ∈ m) → l = m
 | [], [], _, _, _ => rfl
 | [], b :: m, _, _, h => absurd ((h b).2 (List.mem_cons_self ..)) (by simp)
 | a :: l, [], _, _, h => absurd ((h a).1 (List.mem_cons_self ..)) (by simp)
 | a :: l, b :: m, hl, hm, h => by
   rw [List.pairwise_cons] at hl hm
   have e : a = b := by
    rcases List.mem_cons.1 ((h a).1 (List.mem_cons_self ..)) with h1 | h1
    · exact h1
    · rcases List.mem_cons.1 ((h b).2 (List.mem_cons_self ..)) with h2 | h2
      · exact h2.symm
      · have := hm.1 a h1
        have := hl.1 b h2
        omega
   subst e
   refine congrArg (a :: ·) (asc_ext hl.2 hm.2 fun x => ?_)
   constructor
   · intro hx
     rcases List.mem_cons.1 ((h x).1 (List.mem_cons_of_mem _ hx)) with h2 | h2
     · subst h2; exact absurd (hl.1 x hx) (by omega)
     · exact h2
   · intro hx
     rcases List.mem_cons.1 ((h x).2 (List.mem_cons_of_mem _ hx)) with h2 | h2
     · subst h2; exact absurd (hm.1 x hx) (by omega)
     · exact h2
theorem cnt_split : ∀ {l : List Int} {x : Int}, l.Pairwise (· < ·) → (∀ y ∈ l.take (l.countP fun y => decide (y < x)), y < x) ∧ ∀ y ∈ l.drop (l.countP fun y => decide (y < x)), x ≤ y
 | [], _, _ => by simp
 | a :: l, x, h => by
   rw [List.pairwise_cons] at h
   have ih := cnt_split (x := x) h.2
   by_cases ha : a < x
   · have e : List.countP (fun y => decide (y < x)) (a :: l) = l.countP (fun y => decide (y < x)) + 1 := by simp [List.countP_cons, ha]
     rw [e]
     constructor
     · intro y hy
       rw [List.take_succ_cons] at hy
       rcases List.mem_cons.1 hy with rfl | hy
       · exact ha
       · exact ih.1 y hy
     · intro y hy
       rw [List.drop_succ_cons] at hy
       exact ih.2 y hy
   · have e : List.countP (fun y => decide (y < x)) (a :: l) = 0 := by
      rw [List.countP_eq_zero]
      intro y hy
      rcases List.mem_cons.1 hy with rfl | hy
      · simpa using ha
      · have := h.1 y hy
        simp; omega
     rw [e]
     constructor
     · intro y hy; simp at hy
     · intro y hy
       rcases List.mem_cons.1 hy with rfl | hy
       · omega
       · have := h.1 y hy
         omega
theorem mem_insP {l : List Int} {x y : Int} : y ∈ insP l x ↔ y = x ∨ y ∈ l := by
 unfold insP
 have e : l = l.take (l.countP fun y => decide (y < x)) ++ l.drop (l.countP fun y => decide (y < x)) := (List.take_append_drop ..).symm
 simp only [List.mem_append, List.mem_singleton]
 conv => rhs; rhs; rw [e, List.mem_append]
 constructor
 · rintro ((h | h) | h)
   · exact .inr (.inl h)
   · exact .inl h
   · exact .inr (.inr h)
 · rintro (h | h | h)
   · exact .inl (.inr h)
   · exact .inl (.inl h)
   · exact .inr h
theorem asc_insP {l : List Int} {x : Int} (h : l.Pairwise (· < ·)) (hx : x ∉ l) : (insP l x).Pairwise (· < ·) := by
 have hc := cnt_split (x := x) h
 unfold insP
 rw [List.append_assoc, List.pairwise_append]
 refine ⟨h.sublist (List.take_sublist ..), ?_, ?_⟩
 · rw [List.singleton_append, List.pairwise_cons]
   refine ⟨fun y hy => ?_, h.sublist (List.drop_sublist ..)⟩
   have := hc.2 y hy
   have : y ≠ x := fun e => hx (e ▸ List.mem_of_mem_drop hy)
   omega
 · intro a ha b hb
   have h1 := hc.1 a ha
   rcases List.mem_append.1 hb with hb | hb
   · simp at hb; omega
   · have := hc.2 b hb
     omega
def filtP (l : List Int) (x : Int) (i : Nat) : List Int := ((List.range i).map fun (t : Nat) => (t : Int)).filter fun y => decide (y = x) || hasI l y
theorem filtP_succ (l : List Int) (x : Int) (i : Nat) : filtP l x (i + 1) = filtP l x i ++ (if (decide ((i : Int) = x) || hasI l i) = true then [(i : Int)] else []) := by
 unfold filtP
 rw [List.range_succ, List.map_append, List.filter_append]
 congr 1
 simp [List.filter_cons]
theorem hasI_iff {l : List Int} {x : Int} : hasI l x = true ↔ x ∈ l := by
 simp only [hasI, List.any_eq_true, decide_eq_true_eq]
 exact ⟨fun ⟨y, h, e⟩ => e ▸ h, fun h => ⟨x, h, rfl⟩⟩
theorem mem_filtP {l : List Int} {x y : Int} (hl : ∀ z ∈ l, placeB z = true) (hx : placeB x = true) : y ∈ filtP l x 256 ↔ y = x ∨ y ∈ l := by
 unfold filtP
 rw [List.mem_filter, Bool.or_eq_true, decide_eq_true_eq, hasI_iff]
 constructor
 · exact fun h => h.2
 · intro h
   refine ⟨?_, h⟩
   have : placeB y = true := by
    rcases h with rfl | h
    · exact hx
    · exact hl y h
   simp only [placeB, Bool.and_eq_true, decide_eq_true_eq] at this
   rw [List.mem_map]
   exact ⟨y.toNat, by rw [List.mem_range]; omega, by omega⟩
theorem asc_filtP (l : List Int) (x : Int) (i : Nat) : (filtP l x i).Pairwise (· < ·) := by
 unfold filtP
 refine List.Pairwise.sublist List.filter_sublist ?_
 rw [List.pairwise_map]
 exact List.pairwise_lt_range.imp (fun h => by omega)
theorem filtP_has {l : List Int} {x : Int} (h1 : passB l = true) (h2 : placeB x = true) (h : hasI l x = true) : filtP l x 256 = l := by
 have hp := passB_iff.1 h1
 refine asc_ext (asc_filtP l x 256) (rising_iff.1 hp.2.1) fun y => ?_
 rw [mem_filtP hp.2.2 h2]
 exact ⟨fun h3 => h3.elim (fun e => e ▸ hasI_iff.1 h) id, .inr⟩
theorem filtP_not {l : List Int} {x : Int} (h1 : passB l = true) (h2 : placeB x = true) (h : hasI l x = false) : filtP l x 256 = insP l x := by
 have hp := passB_iff.1 h1
 have hx : x ∉ l := fun e => by rw [hasI_iff.2 e] at h; simp at h
 refine asc_ext (asc_filtP l x 256) (asc_insP (rising_iff.1 hp.2.1) hx) fun y => ?_
 rw [mem_filtP hp.2.2 h2, mem_insP]
theorem insP_len (l : List Int) (x : Int) : (insP l x).length = l.length + 1 := by
 have : l.countP (fun y => decide (y < x)) ≤ l.length := List.countP_le_length
 simp [insP]
 omega
theorem withP_filt {l : List Int} {x : Int} (h1 : passB l = true) (h2 : placeB x = true) : withP l x = if 16 < (filtP l x 256).length then ([], 801) else (filtP l x 256, 0) := by
 have hp := passB_iff.1 h1
 cases h : hasI l x with
 | true => rw [filtP_has h1 h2 h, withP_has h1 h2 h, if_neg (by omega)]
 | false =>
   rw [filtP_not h1 h2 h, insP_len]
   by_cases h3 : l.length = 16
   · rw [withP_full h1 h2 h h3, if_pos (by omega)]
   · rw [withP_yes h1 h2 h h3, if_neg (by omega)]
theorem filtP_len (l : List Int) (x : Int) (i : Nat) : (filtP l x i).length ≤ i := by
 unfold filtP
 refine Nat.le_trans (List.length_filter_le ..) ?_
 simp
set_option maxHeartbeats 1000000 in
theorem k_refWith : Known Tryz.prog tau 66 (S2 dInts dInt oWith) := by
 refine known2 hmix tau_ok (ctx_cons k_refPassMay (ctx_cons k_refPlace (ctx_cons k_has ctx_nil))) (fn := Tryz.f66) (by kernel_rfl) [] (by kernel_rfl) _ _ _ fun xs x hfit => ⟨rfl,
  [(5, invX (Nat × List Int) [6, 7, 16, 17, 18, 19, 20, 21, 22, 23, 24, 25, 26, 27, 28, 29, 30, 31] [31] (fun g => g.1 ≤ 256 ∧ filtP xs x g.1 = g.2) (fun g st => match g.2 with
    | [] => withS [(7, .int .i64 g.1), (6, .nilS (.ints []))] st
    | y :: ys => withS [(7, .int .i64 g.1), (6, .own 31)] (withR [(31, .own (.ints (y :: ys)))] st)) (fun g => 256 - g.1))], ?_⟩
 clear hfit
 refine V2 ?_; constructor <;> (first | (with_reducible exact TT.i) | (intros; (repeat (apply Wk.mk; intro Kv hN hX hR)); apply Wr.mk))
 all_goals first
  | (rw [withP_no (.inl (nf aQ))] <;> rfl)
  | (rw [withP_no (.inr (nf aQ))] <;> rfl)
  | (refine ⟨(0, []), ⟨by omega, rfl⟩, ?_⟩
     refine V1 ?_; constructor <;> (first | (with_reducible exact TT.i) | (intros; (repeat (apply Wk.mk; intro Kv hN hX hR)); apply Wr.mk))
     all_goals rfl)
  | (rintro ⟨i, ys⟩ ⟨hi, hf⟩
     dsimp only at hi hf
     rcases ys with _ | ⟨y, ys⟩
     all_goals
      refine V1 ?_; constructor <;> (first | (with_reducible exact TT.i) | (intros; (repeat (apply Wk.mk; intro Kv hN hX hR)); apply Wr.mk))
     all_goals (try dsimp only at *)
     all_goals first
      | (refine Ob.mk ?_
         simp only [Rw.len, Rw.bts, Rw.kd, kdBytes, List.length_cons, List.length_nil, List.length_append]
         have hl := filtP_len xs x i
         rw [hf] at hl
         simp only [List.length_cons, List.length_nil] at hl
         omega)
      | (have h := of_decide_eq_true (show decide ((i : Int) < 256) = true by with_reducible assumption)
         have hs := filtP_succ xs x i
         rw [hf] at hs
         first
          | (have h2 : decide ((i : Int) = x) = true := by with_reducible assumption
             rw [h2, Bool.true_or, if_pos rfl] at hs
             refine ⟨(i + 1, _), ⟨by show i + 1 ≤ 256; omega, hs⟩, by show 256 - (i + 1) < 256 - i; omega, ?_⟩
             refine V1 ?_; constructor <;> (first | (with_reducible exact TT.i) | (intros; (repeat (apply Wk.mk; intro Kv hN hX hR)); apply Wr.mk))
             all_goals first
              | exact wrapI (by omega) (by omega)
              | rfl)
          | (have h2 : decide ((i : Int) = x) = false := by with_reducible assumption
             have h3 : hasI xs i = true := by with_reducible assumption
             rw [h2, h3, Bool.false_or, if_pos rfl] at hs
             refine ⟨(i + 1, _), ⟨by show i + 1 ≤ 256; omega, hs⟩, by show 256 - (i + 1) < 256 - i; omega, ?_⟩
             refine V1 ?_; constructor <;> (first | (with_reducible exact TT.i) | (intros; (repeat (apply Wk.mk; intro Kv hN hX hR)); apply Wr.mk))
             all_goals first
              | exact wrapI (by omega) (by omega)
              | rfl)
          | (have h2 : decide ((i : Int) = x) = false := by with_reducible assumption
             have h3 : hasI xs i = false := by with_reducible assumption
             rw [h2, h3, Bool.false_or, if_neg (by simp), List.append_nil] at hs
             refine ⟨(i + 1, _), ⟨by show i + 1 ≤ 256; omega, hs⟩, by show 256 - (i + 1) < 256 - i; omega, ?_⟩
             refine V1 ?_; constructor <;> (first | (with_reducible exact TT.i) | (intros; (repeat (apply Wk.mk; intro Kv hN hX hR)); apply Wr.mk))
             all_goals first
              | exact wrapI (by omega) (by omega)
              | rfl))
      | (have h := of_decide_eq_false (show decide ((i : Int) < 256) = false by with_reducible assumption)
         obtain rfl : i = 256 := by omega
         have hw := withP_filt (nt (show (!passB xs) = false by with_reducible assumption)) (nt (show (!placeB x) = false by with_reducible assumption))
         rw [hf] at hw
         first
          | (have h4 := of_decide_eq_true (show decide ((16 : Int) < (((y :: ys).length : Nat) : Int)) = true by with_reducible assumption)
             rw [if_pos (by simp only [List.length_cons] at h4 ⊢; omega)] at hw
             rw [hw] <;> rfl)
          | (have h4 := of_decide_eq_false (show decide ((16 : Int) < (((y :: ys).length : Nat) : Int)) = false by with_reducible assumption)
             rw [if_neg (by simp only [List.length_cons] at h4 ⊢; omega)] at hw
             rw [hw] <;> rfl)
          | (rw [if_neg (by simp)] at hw
             rw [hw] <;> rfl)
          | (exfalso; simp_all; done)))
  | skip
end Go.Proofs.YtjjpakdlkjaigaaGreat
