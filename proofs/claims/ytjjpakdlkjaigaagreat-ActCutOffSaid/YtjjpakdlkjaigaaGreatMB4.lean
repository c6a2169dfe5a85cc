/- A part of the proof of a law: XC, VWb, VX, VY, VZ, VTy, VCx. -/
import Derived.Test.YtjjpakdlkjaigaaGreatMB3
import Derived.Laws.Sem
import Derived.KernelRfl
set_option linter.all false
set_option linter.unusedVariables false
set_option linter.unusedSimpArgs false
set_option linter.unusedSectionVars false
/- A symbolic executor for loaded Go code: drawn regions where one frame serves: every order. -/
namespace Go.Proofs.YtjjpakdlkjaigaaGreat
open Go.RowKit
section
variable {P : Program} {τ : Tys} {w0 : World} {base M nn : Nat} {aS : List (Array Value)} {ops : Array Oper} {tab : List (Nat × Nat)}
def Over (ops : Array Oper) : Prop := ∀ (i j : Nat) (o q : Oper) (t : Tmp), ops[j]? = some o → ops[i]? = some q → q.dst = some t → t ∈ looks ops.toList o → Waits ops i j
theorem overB_spec {b m : Nat} : ∀ {qs : List Oper} {t : List (Nat × Nat)}, overB b m qs t = true → t.length = qs.length → ∀ (i : Nat) q p d, qs[i]? = some q → t[i]? = some p → q.dst = some d → inM d m = true → inM p.1 b = true
 | [], t, _, _, i, q, p, d, hq, _, _, _ => by simp at hq
 | q' :: qs, (k, c) :: t, h, hl, i, q, p, d, hq, hp, hd, ht => by
   unfold overB at h
   cases i with
   | zero =>
     simp at hq hp
     subst hq; subst hp
     rw [hd] at h
     simp only [ht, Bool.not_true, Bool.false_or] at h
     split at h
     · assumption
     · simp at h
   | succ i =>
     refine overB_spec (qs := qs) (t := t) ?_ (by simpa using hl) i q p d (by simpa using hq) (by simpa using hp) hd ht
     split at h
     · exact h
     · split at h
       · exact h
       · simp at h
 | _ :: _, [], _, hl, i, q, p, d, _, _, _, _ => by simp at hl
theorem allOver_spec {all : List Oper} {T : List (Nat × Nat)} : ∀ {os : List Oper} {t : List (Nat × Nat)}, allOver all T os t = true → t.length = os.length → ∀ (j : Nat) o p, os[j]? = some o → t[j]? = some p → overB p.2 (slotsM (looks all o)) all T = true
 | [], t, _, _, i, q, p, hq, _ => by simp at hq
 | q' :: qs, (k, c) :: t, h, hl, i, q, p, hq, hp => by
   unfold allOver at h
   rw [forceN_eq] at h
   split at h
   · rename_i h1
     cases i with
     | zero => simp at hq hp; subst hq; subst hp; exact h1
     | succ i => exact allOver_spec h (by simpa using hl) i q p (by simpa using hq) (by simpa using hp)
   · simp at h
 | _ :: _, [], _, hl, i, q, p, hq, _ => by simp at hl
theorem allOver_over (D : DrawD ops tab) (h : allOver ops.toList tab ops.toList tab = true) : Over ops := by
 intro i j o q t ho hq hd ht
 have hl : tab.length = ops.toList.length := by rw [D.len]; simp
 have h1 := allOver_spec h hl j o _ (by simpa using ho) (D.tab j o ho)
 have h2 := overB_spec h1 hl i q _ t (by simpa using hq) (D.tab i q hq) hd ((inM_slotsM t _).2 ht)
 exact (waits_inM ho).1 h2
def Sees (ops : Array Oper) (z : Nat → Value) (a0 : Array Value) (o : Oper) (x : Array Value) : Prop :=
 x.size = a0.size ∧ ∀ t ∈ looks ops.toList o, (∀ (i : Nat) (q : Oper), ops[i]? = some q → q.dst = some t → x.getD t undef = z i) ∧ ((∀ (i : Nat) (q : Oper), ops[i]? = some q → q.dst ≠ some t) → x.getD t undef = a0.getD t undef)
variable {S S' : Nat → Prop} {z z' : Nat → Value} {a0 : Array Value} {x y : Act}
theorem Fills.sees (h : Fills ops S z a0 x.tmps) (D : DrawD ops tab) (V : Over ops) {j : Nat} {o : Oper} (ho : ops[j]? = some o) (hp : ∀ i, Waits ops i j → S i) : Sees ops z a0 o x.tmps := by
 refine ⟨h.size, fun t ht => ⟨fun i q hq hd => h.get D hq hd (hp i (V i j o q t ho hq hd ht)), fun hn => ?_⟩⟩
 rcases h.at_ t with ⟨i, q, hq, hqd, _, _⟩ | ⟨_, hv⟩
 · exact absurd hqd (hn i q hq)
 · exact hv
theorem Sees.agree {o : Oper} (h : Sees ops z a0 o x.tmps) (h' : Sees ops z a0 o y.tmps) : ∀ t ∈ looks ops.toList o, x.tmps.getD t undef = y.tmps.getD t undef := by
 intro t ht
 by_cases he : ∃ (i : Nat) (q : Oper), ops[i]? = some q ∧ q.dst = some t
 · obtain ⟨i, q, hq, hd⟩ := he
   rw [(h.2 t ht).1 i q hq hd, (h'.2 t ht).1 i q hq hd]
 · have hn : ∀ (i : Nat) (q : Oper), ops[i]? = some q → q.dst ≠ some t := fun i q hq hd => he ⟨i, q, hq, hd⟩
   rw [(h.2 t ht).2 hn, (h'.2 t ht).2 hn]
theorem Sees.congr (V : Over ops) {j : Nat} {o : Oper} (ho : ops[j]? = some o) (h : Sees ops z a0 o x.tmps) (hz : ∀ k, Waits ops k j → z' k = z k) : Sees ops z' a0 o x.tmps :=
 ⟨h.1, fun t ht => ⟨fun i q hq hd => by rw [hz i (V i j o q t ho hq hd ht)]; exact (h.2 t ht).1 i q hq hd, (h.2 t ht).2⟩⟩
theorem Fills.reput (h : Fills ops S z a0 x.tmps) {j : Nat} {o : Oper} (ho : ops[j]? = some o) (hlt : ∀ t, o.dst = some t → t < x.tmps.size) (hS : S j) (hz : ∀ k, k ≠ j → z' k = z k) : Fills ops S z' a0 (x.put o.dst (z' j)).tmps := by
 refine ⟨by rw [(put_size _ _ _).1]; exact h.size, fun t => ?_⟩
 rw [getD_put]
 by_cases hd : o.dst = some t
 · rw [if_pos ⟨hd, hlt t hd⟩]
   exact .inl ⟨j, o, ho, hd, hS, rfl⟩
 · rw [if_neg (fun h => hd h.1)]
   rcases h.at_ t with ⟨i, q, hq, hqd, hSi, hv⟩ | ⟨hn, hv⟩
   · refine .inl ⟨i, q, hq, hqd, hSi, ?_⟩
     rw [hz i (fun e => by subst e; rw [ho] at hq; injection hq with hq; subst hq; exact hd hqd)]
     exact hv
   · exact .inr ⟨hn, hv⟩
def RunFact2 (P : Program) (ops : Array Oper) (w : World) (z : Nat → Value) (a0 : Array Value) (j : Nat) (o : Oper) : Prop :=
 ∃ g : Act, Sees ops z a0 o g.tmps ∧ Comes' P ops w g o (z j)
theorem RunFact2.congr (V : Over ops) {w : World} {j : Nat} {o : Oper} (ho : ops[j]? = some o) (h : RunFact2 P ops w z a0 j o) (hz : ∀ k, Waits ops k j → z' k = z k) (hj : z' j = z j) : RunFact2 P ops w z' a0 j o := by
 obtain ⟨g, h1, h2⟩ := h
 exact ⟨g, h1.congr V ho hz, by rw [hj]; exact h2⟩
theorem At.first {s : St} {g : Act} {w : World} (h : At τ w0 base M nn aS s g w) (t : Nat) : AtV τ w0 base M nn aS s g w (lkv s.fr t) (g.tmps.getD t undef) := by
 obtain ⟨E, h0, h1, h2, h3, h4⟩ := h
 obtain ⟨b, hb, hf⟩ := h0.fr 0 s.fr (by simp)
 simp at hb
 subst hb
 exact ⟨E, h0, h1, h2, h3, h4, hf t⟩
variable (hτ : TysOk P τ)
include hτ
theorem fill2_sound (D : DrawD ops tab) (V : Over ops) {w : World} {p su av0 : Nat} {Dn : Nat → Prop} {z : Nat → Value} (hdst : dstOk nn ops.toList = true)
  (hR : ∀ (j : Nat) (o : Oper), ops[j]? = some o → isR o = true → Dn j → inM j av0 = true)
  (hW : ∀ (j : Nat) (o : Oper), ops[j]? = some o → isR o = false → (inM j av0 = true ↔ inM j p = true))
  (hsu : ∀ j, inM j su = true → Dn j)
  (hcl : ∀ (j : Nat) (o : Oper), ops[j]? = some o → isR o = true → inM j av0 = true → ∀ k, Waits ops k j → inM k av0 = true)
  {K : Nat → St → Prop} {G : Prop}
  (hK : ∀ (av : Nat) (s : St) (g : Act) (z' : Nat → Value), K av s → At τ w0 base M nn aS s g w → Fills ops (fun i => inM i av = true) z' a0 g.tmps → (∀ j, Dn j → z' j = z j) →
    (∀ (j : Nat) (o : Oper), ops[j]? = some o → (inM j av = true ↔ Avl ops p av j o)) → (∀ (j : Nat) (o : Oper), ops[j]? = some o → isR o = true → inM j av = true → ¬ Dn j → RunFact2 P ops w z' a0 j o) → G) :
  ∀ (os : List Oper) (tb : List (Nat × Nat)) (m av : Nat) (s : St) (g : Act) (z' : Nat → Value), ops.toList.drop m = os → tab.drop m = tb → fill2 τ ops.toList su os tb av s K → At τ w0 base M nn aS s g w →
   Fills ops (fun i => inM i av = true) z' a0 g.tmps → (∀ j, Dn j → z' j = z j) → (∀ (j : Nat) (o : Oper), ops[j]? = some o → j < m → (inM j av = true ↔ Avl ops p av j o)) → (∀ j, inM j av = true → j < m ∨ inM j av0 = true) → (∀ j, inM j av0 = true → inM j av = true) →
   (∀ (j : Nat) (o : Oper), ops[j]? = some o → j < m → isR o = true → inM j av = true → ¬ Dn j → RunFact2 P ops w z' a0 j o) → G := by
 intro os
 induction os with
 | nil =>
   intro tb m av s g z' hos htb hw hat hF hD hA hU hM hRun
   have h1 : ops.toList.length ≤ m := by simpa using List.drop_eq_nil_iff.1 hos
   have htn : tb = [] := by
    rw [← htb]
    exact List.drop_eq_nil_of_le (by rw [D.len]; simpa using h1)
   subst htn
   have hm : ∀ (j : Nat) (o : Oper), ops[j]? = some o → j < m := fun j o ho => by
    have h2 := (Array.getElem?_eq_some_iff.1 ho).1
    simp at h1
    omega
   exact hK av s g z' hw hat hF hD (fun j o ho => hA j o ho (hm j o ho)) fun j o ho => hRun j o ho (hm j o ho)
 | cons o os ih =>
   intro tb m av s g z' hos htb hw hat hF hD hA hU hM hRun
   have ho : ops[m]? = some o := by
    have : (ops.toList.drop m)[0]? = some o := by rw [hos]; rfl
    rw [List.getElem?_drop] at this
    simpa using this
   have hos' : ops.toList.drop (m + 1) = os := by
    have : (ops.toList.drop m).drop 1 = os := by rw [hos]; rfl
    simpa [List.drop_drop] using this
   have htab := D.tab m o ho
   have htb0 : tb = (m, edgeM o.after.toList 0) :: tab.drop (m + 1) := by
    rw [← htb]
    have hlt := (List.getElem?_eq_some_iff.1 htab).1
    rw [List.drop_eq_getElem_cons hlt]
    congr 1
    exact (List.getElem?_eq_some_iff.1 htab).2
   subst htb0
   have hdn : ∀ t, o.dst = some t → t < nn := dstOk_mem hdst o (by
    have : o ∈ ops.toList.drop m := by rw [hos]; simp
    exact List.mem_of_mem_drop this)
   have hnn : nn ≤ g.tmps.size := by obtain ⟨_, _, _, _, h, _⟩ := hat; exact h
   have hdl : ∀ t, o.dst = some t → t < g.tmps.size := fun t ht => Nat.lt_of_lt_of_le (hdn t ht) hnn
   have self : ∀ {q : Oper}, ops[m]? = some q → q = o := fun hq => by rw [ho] at hq; injection hq with hq; exact hq.symm
   -- nothing new
   have pass : (inM m av = true ↔ Avl ops p av m o) → (isR o = true → inM m av = true → ¬ Dn m → False) → fill2 τ ops.toList su os (tab.drop (m + 1)) av s K → G := by
    intro hiff hno hfill
    refine ih _ (m + 1) av s g z' hos' rfl hfill hat hF hD ?_ (fun j hj => (hU j hj).imp (fun h => by omega) id) hM ?_
    · intro j q hq hlt
      by_cases e : j = m
      · subst e; rw [self hq]; exact hiff
      · exact hA j q hq (by omega)
    · intro j q hq hlt hRq hj hnd
      by_cases e : j = m
      · subst e; rw [self hq] at hRq; exact (hno hRq hj hnd).elim
      · exact hRun j q hq (by omega) hRq hj hnd
   have hav : subM (edgeM o.after.toList 0) av = true ↔ ∀ k, Waits ops k m → inM k av = true := by
    rw [subM_iff]
    exact ⟨fun h k hk => h k ((waits_inM ho).2 hk), fun h k hk => h k ((waits_inM ho).1 hk)⟩
   have putD : ∀ {s1 : St} {x : SV} {v0 : Value} {d : Tmp}, o.dst = some d → AtV τ w0 base M nn aS s1 g w x v0 → At τ w0 base M nn aS (putS d x s1) (g.put o.dst v0) w := by
    intro s1 x v0 d hd h
    rw [hd]
    exact h.put (hdn d hd)
   simp only [fill2, forceSt_eq] at hw
   split at hw
   · rename_i d hr hd
     split at hw
     · rename_i hin
       have hin0 : inM m av0 = true := (hU m hin).resolve_left (Nat.lt_irrefl _)
       have hwt : ∀ k, Waits ops k m → inM k av = true := fun k hk => hM k (hcl m o ho hr hin0 k hk)
       have havl : Avl ops p av m o := .inl ⟨hr, hwt⟩
       split at hw
       · rename_i hs
         exact pass ⟨fun _ => havl, fun _ => hin⟩ (fun _ _ h => h (hsu m hs)) hw
       · rename_i hs
         -- found anew
         have next : ∀ (s1 : St) (v0 : Value), At τ w0 base M nn aS s1 (g.put o.dst v0) w → (Dn m → v0 = z' m) → (¬ Dn m → Comes' P ops w g o v0) → fill2 τ ops.toList su os (tab.drop (m + 1)) av s1 K → G := by
          intro s1 v0 hat1 hDm hcm hfill
          let z2 : Nat → Value := fun k => if k = m then v0 else z' k
          have hz2 : ∀ k, k ≠ m → z2 k = z' k := fun k hk => by simp [z2, hk]
          have hz2m : z2 m = v0 := by simp [z2]
          have hlow : ∀ j, j ≤ m → ∀ k, Waits ops k j → z2 k = z' k := fun j hj k hk => hz2 k (by have := D.back k j hk; omega)
          refine ih _ (m + 1) av s1 (g.put o.dst v0) z2 hos' rfl hfill hat1 ?_ ?_ ?_ (fun j hj => (hU j hj).imp (fun h => by omega) id) hM ?_
          · rw [← hz2m]
            exact hF.reput ho hdl hin hz2
          · intro j hj
            by_cases e : j = m
            · subst e; rw [hz2m, hDm hj]; exact hD j hj
            · rw [hz2 j e]; exact hD j hj
          · intro j q hq hlt
            by_cases e : j = m
            · subst e; rw [self hq]; exact ⟨fun _ => havl, fun _ => hin⟩
            · exact hA j q hq (by omega)
          · intro j q hq hlt hRq hj hnd
            by_cases e : j = m
            · subst e
              rw [self hq]
              exact ⟨g, (hF.sees D V ho hwt).congr V ho (hlow _ (Nat.le_refl _)), by rw [hz2m]; exact hcm hnd⟩
            · exact (hRun j q hq (by omega) hRq hj hnd).congr V hq (hlow j (by omega)) (hz2 j e)
         rcases guardO_sound hat hw with ⟨hwd, s1, g2, g3⟩ | ⟨hwd, s1, g2, g3⟩
         · obtain ⟨E, e0, e1, e2, e3, e4⟩ := id g3
           obtain ⟨v, hKv, zz, hrun, hvd⟩ := RV.wp_good g2 (evR_good (o := o) hτ e0)
           rw [SV.force_eq] at hKv
           obtain ⟨v', hfill, hx, hv⟩ := relV_spec hKv
           by_cases hDm : Dn m
           · have hv0 := g3.first d
             rw [hF.get D ho hd hin] at hv0
             exact next _ (z' m) (putD hd (hv0.conv fun E R h => hx E R w _ h)) (fun _ => rfl) (fun h => absurd hDm h) hfill
           · exact next _ zz (putD hd ⟨E, e0, e1, e2, e3, e4, hv _ _ _ _ hvd⟩) (fun h => absurd h hDm) (fun _ => .inl ⟨hwd, hrun⟩) hfill
         · rw [SV.force_eq] at g2
           by_cases hDm : Dn m
           · have hv0 := g3.first d
             rw [hF.get D ho hd hin] at hv0
             exact next _ (z' m) (putD hd (hv0.conv fun E R h => skipV_vd h)) (fun _ => rfl) (fun h => absurd hDm h) g2
           · exact next _ undef (putD hd (g3.skipped.conv fun E R h => skipV_undef _ h)) (fun h => absurd h hDm) (fun _ => .inr ⟨hwd, rfl⟩) g2
     · rename_i hin'
       have hin : ¬ inM m av = true := by rw [hin']; simp
       have hDm : ¬ Dn m := fun h => hin (hM m (hR m o ho hr h))
       split at hw
       · rename_i hsub
         have hwt := hav.1 hsub
         have hmin : ∀ i, inM i (addM m av) = true ↔ inM i av = true ∨ i = m := fun i => by rw [inM_add]; simp
         have hne : ∀ i, inM i av = true → i ≠ m := fun i hi e => by subst e; exact hin hi
         have next : ∀ (s1 : St) (v0 : Value), At τ w0 base M nn aS s1 (g.put o.dst v0) w → Comes' P ops w g o v0 → fill2 τ ops.toList su os (tab.drop (m + 1)) (addM m av) s1 K → G := by
          intro s1 v0 hat1 hcm hfill
          let z2 : Nat → Value := fun k => if k = m then v0 else z' k
          have hz2 : ∀ k, k ≠ m → z2 k = z' k := fun k hk => by simp [z2, hk]
          have hz2m : z2 m = v0 := by simp [z2]
          have hlow : ∀ j, j ≤ m → ∀ k, Waits ops k j → z2 k = z' k := fun j hj k hk => hz2 k (by have := D.back k j hk; omega)
          have hF2 : Fills ops (fun i => inM i av = true) z2 a0 g.tmps := hF.congr (fun _ => Iff.rfl) fun i hi => hz2 i (hne i hi)
          have hmono : ∀ (j : Nat) (q : Oper), ops[j]? = some q → j ≤ m → (Avl ops p (addM m av) j q ↔ Avl ops p av j q) := by
           intro j q hq hle
           unfold Avl
           constructor
           · rintro (⟨h1, h2⟩ | h)
             · exact .inl ⟨h1, fun k hk => ((hmin k).1 (h2 k hk)).resolve_right (fun e => by subst e; have := D.back _ _ hk; omega)⟩
             · exact .inr h
           · rintro (⟨h1, h2⟩ | h)
             · exact .inl ⟨h1, fun k hk => (hmin k).2 (.inl (h2 k hk))⟩
             · exact .inr h
          refine ih _ (m + 1) (addM m av) s1 (g.put o.dst v0) z2 hos' rfl hfill hat1 ?_ ?_ ?_ ?_ (fun j hj => (hmin j).2 (.inl (hM j hj))) ?_
          · rw [← hz2m]
            exact hF2.put D ho hdl hmin
          · intro j hj
            rw [hz2 j (fun e => by subst e; exact hDm hj)]
            exact hD j hj
          · intro j q hq hlt
            rw [hmin, hmono j q hq (by omega)]
            by_cases e : j = m
            · subst e; rw [self hq]; exact ⟨fun _ => .inl ⟨hr, hwt⟩, fun _ => .inr rfl⟩
            · rw [← hA j q hq (by omega)]
              exact ⟨fun h => h.resolve_right e, .inl⟩
          · intro j hj
            rcases (hmin j).1 hj with h | rfl
            · exact (hU j h).imp (fun h => by omega) id
            · exact .inl (by omega)
          · intro j q hq hlt hRq hj hnd
            by_cases e : j = m
            · subst e
              rw [self hq]
              exact ⟨g, (hF.sees D V ho hwt).congr V ho (hlow _ (Nat.le_refl _)), by rw [hz2m]; exact hcm⟩
            · exact (hRun j q hq (by omega) hRq (((hmin j).1 hj).resolve_right e) hnd).congr V hq (hlow j (by omega)) (hz2 j e)
         rw [forceN_eq] at hw
         rcases guardO_sound hat hw with ⟨hwd, s1, g2, g3⟩ | ⟨hwd, s1, g2, g3⟩
         · obtain ⟨E, e0, e1, e2, e3, e4⟩ := id g3
           obtain ⟨v, hKv, zz, hrun, hvd⟩ := RV.wp_good g2 (evR_good (o := o) hτ e0)
           exact next _ zz (putD hd ⟨E, e0, e1, e2, e3, e4, hvd⟩) (.inl ⟨hwd, hrun⟩) hKv
         · exact next _ undef (putD hd g3.skipped) (.inr ⟨hwd, rfl⟩) g2
       · rename_i hsub
         refine pass ⟨fun h => absurd h hin, ?_⟩ (fun _ h => absurd h hin) hw
         rintro (h | h)
         · rw [hav.2 h.2] at hsub; simp at hsub
         · rw [hr] at h; exact absurd h.1 (by simp)
   · exact hw.elim
   · rename_i d0 hr
     refine pass ⟨fun h => .inr ⟨hr, (hW m o ho hr).1 ((hU m h).resolve_left (Nat.lt_irrefl _))⟩, ?_⟩ (fun h => by rw [hr] at h; simp at h) hw
     rintro (h | h)
     · rw [hr] at h; exact absurd h.1 (by simp)
     · exact hM m ((hW m o ho hr).2 h.2)
variable {C : Ctx} (hC : CtxOk P τ C)
include hC
omit hτ hC in
theorem node2_fin (D : DrawD ops tab) {Q : Exit → Act → World → Prop} {K : St → Prop} (hK : ∀ s a w, K s → At τ w0 base M nn aS s a w → Q .normal a w) {listed : Array Bool} {a g : Act} {w : World} {f p av : Nat} {s : St}
  (hall : ∀ j, j < ops.size → listed.getD j false = true) (hcl : ∀ j, listed.getD j false = true → ∀ k, Waits ops k j → listed.getD k false = true)
  (hat : At τ w0 base M nn aS s g w) (hF : Fills ops (fun j => inM j av = true) z a0 g.tmps) (hL : Fills ops (fun j => listed.getD j false = true) z a0 a.tmps) (hdef : a.defers = [])
  (hW : ∀ (j : Nat) (o : Oper), ops[j]? = some o → isR o = false → (inM j p = true ↔ listed.getD j false = true)) (hA : ∀ (j : Nat) (o : Oper), ops[j]? = some o → (inM j av = true ↔ Avl ops p av j o))
  (hw : wpNode2 τ C ops.toList tab f p av s K) : Q .normal a w := by
 have hav := listed_av D hcl hW hA
 have heq : g.tmps = a.tmps := hF.same hL D fun j o ho => ⟨fun _ => hall j (opLt ho), fun h => hav j (opLt ho) h⟩
 have hga : g = a := by
  obtain ⟨_, _, _, _, _, hgd⟩ := id hat
  cases g; cases a
  simp_all
 subst hga
 cases f with
 | zero => exact hw.elim
 | succ f =>
   simp only [wpNode2] at hw
   have : allW p ops.toList tab = true := allW_true _ _ fun j o q ho hq hr => by
    have ho' : ops[j]? = some o := by simpa using ho
    rw [D.tab j o ho'] at hq
    injection hq with hq
    subst hq
    exact (hW j o ho' hr).2 (hall j (opLt ho'))
   rw [this] at hw
   exact hK _ _ _ hw hat
theorem node2_sound (D : DrawD ops tab) (V : Over ops) (hdst : dstOk nn ops.toList = true) {Q : Exit → Act → World → Prop} {K : St → Prop} (hK : ∀ s a w, K s → At τ w0 base M nn aS s a w → Q .normal a w) :
  ∀ (F : Nat) (listed : Array Bool) (a : Act) (w : World) (f p av : Nat) (s : St) (z : Nat → Value) (a0 : Array Value) (g : Act),
   listed.size = ops.size → (∀ l : List Nat, l.Nodup → (∀ j ∈ l, j < ops.size ∧ listed.getD j true = false) → l.length ≤ F) →
   (∀ j, listed.getD j false = true → ∀ k, Waits ops k j → listed.getD k false = true) →
   At τ w0 base M nn aS s g w → Fills ops (fun j => inM j av = true) z a0 g.tmps → Fills ops (fun j => listed.getD j false = true) z a0 a.tmps → a.defers = [] →
   (∀ (j : Nat) (o : Oper), ops[j]? = some o → isR o = false → (inM j p = true ↔ listed.getD j false = true)) →
   (∀ (j : Nat) (o : Oper), ops[j]? = some o → (inM j av = true ↔ Avl ops p av j o)) →
   (∀ (j : Nat) (o : Oper), ops[j]? = some o → isR o = true → inM j av = true → ¬ listed.getD j false = true → RunFact2 P ops w z a0 j o) →
   (∀ j, inM j p = true → ∃ o, ops[j]? = some o ∧ isR o = false) →
   wpNode2 τ C ops.toList tab f p av s K → wpAny P .any ops Q F listed a w := by
 intro F
 induction F with
 | zero =>
   intro listed a w f p av s z a0 g hsz hcnt hcl hat hF hL hdef hW hA hRun hP hw
   have hall : ∀ j, j < ops.size → listed.getD j false = true := by
    intro j hj
    cases h : listed.getD j false with
    | true => rfl
    | false =>
      have := hcnt [j] (by simp) (by
       intro k hk
       simp at hk
       subst hk
       exact ⟨hj, by rw [getD_tf (by rw [hsz]; exact hj)]; exact h⟩)
      simp at this
   refine ⟨?_, node2_fin D hK hall hcl hat hF hL hdef hW hA hw⟩
   apply List.eq_nil_iff_forall_not_mem.2
   intro j hj
   obtain ⟨h1, o, ho, _⟩ := mem_ready.1 hj
   have hlt := opLt ho
   rw [getD_tf (by rw [hsz]; exact hlt), hall j hlt] at h1
   simp at h1
 | succ F ih =>
   intro listed a w f p av s z a0 g hsz hcnt hcl hat hF hL hdef hW hA hRun hP hw
   refine ⟨fun hr => node2_fin D hK (all_listed D hsz hr) hcl hat hF hL hdef hW hA hw, fun i hi => ?_⟩
   obtain ⟨hun, o, ho, hall⟩ := mem_ready.1 hi
   have hlt := opLt ho
   have hnl : ¬ listed.getD i false = true := by rw [← getD_tf (by rw [hsz]; exact hlt), hun]; simp
   have hwait : ∀ k, Waits ops k i → listed.getD k false = true := by
    rintro k ⟨o', ho', e, he, hb, rfl⟩
    rw [ho] at ho'
    injection ho' with ho'
    subst ho'
    exact hall e he (by rw [← bindsB_eq]; exact hb)
   have hset := set_listed (listed := listed) (i := i) (by rw [hsz]; exact hlt)
   have hav := listed_av D hcl hW hA
   have hdn : ∀ t, o.dst = some t → t < nn := dstOk_mem hdst o (by
    have : ops.toList[i]? = some o := by simpa using ho
    exact List.mem_of_getElem? this)
   have hsz0 : g.tmps.size = a.tmps.size := hF.size.trans hL.size.symm
   have hnn : nn ≤ g.tmps.size := by obtain ⟨_, _, _, _, h, _⟩ := hat; exact h
   have hdl : ∀ t, o.dst = some t → t < a.tmps.size := fun t ht => hsz0 ▸ Nat.lt_of_lt_of_le (hdn t ht) hnn
   have hdlg : ∀ t, o.dst = some t → t < g.tmps.size := fun t ht => Nat.lt_of_lt_of_le (hdn t ht) hnn
   have hsz' : (listed.setIfInBounds i true).size = ops.size := by simp [hsz]
   have hcnt' : ∀ l : List Nat, l.Nodup → (∀ j ∈ l, j < ops.size ∧ (listed.setIfInBounds i true).getD j true = false) → l.length ≤ F := by
    intro l hn hl
    have := hcnt (i :: l) (List.nodup_cons.2 ⟨fun hm => by
      have := (hl i hm).2
      rw [getD_tf (by rw [hsz']; exact hlt), (hset i).2 (.inr rfl)] at this
      simp at this, hn⟩) (by
     intro j hj
     rcases List.mem_cons.1 hj with rfl | hj
     · exact ⟨hlt, hun⟩
     · obtain ⟨h1, h2⟩ := hl j hj
       refine ⟨h1, ?_⟩
       rw [getD_tf (by rw [hsz]; exact h1)]
       rw [getD_tf (by rw [hsz']; exact h1)] at h2
       cases h : listed.getD j false with
       | false => rfl
       | true => rw [(hset j).2 (.inl h)] at h2; exact h2)
    simpa using this
   have hcl' : ∀ j, (listed.setIfInBounds i true).getD j false = true → ∀ k, Waits ops k j → (listed.setIfInBounds i true).getD k false = true := by
    intro j hj k hk
    rcases (hset j).1 hj with h | rfl
    · exact (hset k).2 (.inl (hcl j h k hk))
    · exact (hset k).2 (.inl (hwait k hk))
   have havw : ∀ k, Waits ops k i → inM k av = true := fun k hk => hav k (Nat.lt_trans (D.back k i hk) hlt) (hwait k hk)
   have hreal : Sees ops z a0 o a.tmps := hL.sees D V ho hwait
   cases hr : isR o with
   | true =>
     have hi_av : inM i av = true := (hA i o ho).2 (.inl ⟨hr, havw⟩)
     obtain ⟨g', hS, hcm⟩ := hRun i o ho hr hi_av hnl
     obtain ⟨he, hwd⟩ := same_op D ho (hS.1.trans hL.size.symm) (hS.agree hreal)
     have go : wpAny P .any ops Q F (listed.setIfInBounds i true) (a.put o.dst (z i)) w := by
      refine ih _ _ w f p av s z a0 g hsz' hcnt' hcl' hat hF (hL.put D ho hdl hset) (by rw [(put_size _ _ _).2]; exact hdef) ?_ hA ?_ hP hw
      · intro j q hq hrq
        rw [hW j q hq hrq, hset]
        exact ⟨.inl, fun h => h.resolve_right fun e => by subst e; rw [ho] at hq; injection hq with hq; subst hq; rw [hr] at hrq; simp at hrq⟩
      · intro j q hq hrq hj hn
        exact hRun j q hq hrq hj fun h => hn ((hset j).2 (.inl h))
     unfold wpOp
     rw [ho]
     dsimp only
     rcases hcm with ⟨h1, h2⟩ | ⟨h1, h2⟩
     · rw [if_pos (hwd ▸ h1)]
       refine .inl ?_
       unfold Oper.wp
       rw [← he, h2]
       exact go
     · rw [if_neg (by rw [← hwd, h1]; simp), ← h2]
       exact go
   | false =>
     have hip : inM i p = false := by
      cases h : inM i p with
      | false => rfl
      | true => exact absurd ((hW i o ho hr).1 h) hnl
     cases f with
     | zero => exact hw.elim
     | succ f =>
       simp only [wpNode2] at hw
       split at hw
       · rename_i h
         have := allW_all _ _ h i o (i, edgeM o.after.toList 0) (by simpa using ho) (D.tab i o ho) hr
         rw [hip] at this
         exact absurd this (by simp)
       · have hcand := candO_get _ _ hw i o _ (by simpa using ho) (D.tab i o ho) hr hip ((subM_iff _ _).2 fun k hk => havw k ((waits_inM ho).1 hk))
         simp only [forceN_eq, forceSt_eq] at hcand
         have hiav : ¬ inM i av = true := fun h => by
          rcases (hA i o ho).1 h with h2 | h2
          · rw [hr] at h2; simp at h2
          · rw [hip] at h2; simp at h2
         have hsee : Sees ops z a0 o g.tmps := hF.sees D V ho havw
         obtain ⟨he, hwd⟩ := same_op D ho hsz0 (hsee.agree hreal)
         have go : ∀ (s' : St) (v : Value) (w' : World), fill2 τ ops.toList (sureM tab.reverse (addM i p)) ops.toList tab (addM i av) s' (fun av s => wpNode2 τ C ops.toList tab f (addM i p) av s K) → At τ w0 base M nn aS s' (g.put o.dst v) w' →
           wpAny P .any ops Q F (listed.setIfInBounds i true) (a.put o.dst v) w' := by
          intro s' v w' hrf hat'
          let z2 : Nat → Value := fun k => if k = i then v else z k
          have hz2 : ∀ k, k ≠ i → z2 k = z k := fun k hk => by simp [z2, hk]
          have hz2i : z2 i = v := by simp [z2]
          have hpin : ∀ j, inM j (addM i p) = true ↔ inM j p = true ∨ j = i := fun j => by rw [inM_add]; simp
          have hvin : ∀ j, inM j (addM i av) = true ↔ inM j av = true ∨ j = i := fun j => by rw [inM_add]; simp
          have hpW : ∀ (j : Nat) (q : Oper), ops[j]? = some q → isR q = false → (inM j (addM i p) = true ↔ (listed.setIfInBounds i true).getD j false = true) := by
           intro j q hq hrq
           rw [hpin, hset, hW j q hq hrq]
          have hL2 : Fills ops (fun j => (listed.setIfInBounds i true).getD j false = true) z2 a0 (a.put o.dst v).tmps := by
           have h1 : Fills ops (fun j => listed.getD j false = true) z2 a0 a.tmps := hL.congr (fun _ => Iff.rfl) fun j hj => hz2 j fun e => by subst e; exact hnl hj
           rw [← hz2i]
           exact h1.put D ho hdl hset
          have hG2 : Fills ops (fun j => inM j (addM i av) = true) z2 a0 (g.put o.dst v).tmps := by
           have h1 : Fills ops (fun j => inM j av = true) z2 a0 g.tmps := hF.congr (fun _ => Iff.rfl) fun j hj => hz2 j fun e => by subst e; exact hiav hj
           rw [← hz2i]
           exact h1.put D ho hdlg hvin
          refine fill2_sound hτ D V (w := w') (p := addM i p) (su := sureM tab.reverse (addM i p)) (av0 := addM i av) (Dn := fun j => (listed.setIfInBounds i true).getD j false = true) (z := z2) (a0 := a0) (aS := aS) (w0 := w0) (base := base) (M := M) (nn := nn) hdst
           ?_ ?_ ?_ ?_ ?_ ops.toList tab 0 (addM i av) s' (g.put o.dst v) z2 rfl rfl hrf hat' hG2 (fun _ _ => rfl) (fun j q _ hj => absurd hj (Nat.not_lt_zero _)) (fun j hj => .inr hj) (fun j hj => hj) (fun j q _ hj => absurd hj (Nat.not_lt_zero _))
          · intro j q hq hrq hj
            rcases (hset j).1 hj with h | rfl
            · exact (hvin j).2 (.inl (hav j (opLt hq) h))
            · exact (hvin j).2 (.inr rfl)
          · intro j q hq hrq
            rw [hvin, hpin]
            constructor
            · rintro (h | h)
              · rcases (hA j q hq).1 h with h2 | h2
                · rw [hrq] at h2; exact absurd h2.1 (by simp)
                · exact .inl h2.2
              · exact .inr h
            · rintro (h | h)
              · exact .inl ((hA j q hq).2 (.inr ⟨hrq, h⟩))
              · exact .inr h
          · refine sureM_sub _ _ ?_ ?_
            · intro j hj
              rcases (hpin j).1 hj with h | rfl
              · obtain ⟨q, hq, hrq⟩ := hP j h
                exact (hset j).2 (.inl ((hW j q hq hrq).1 h))
              · exact (hset _).2 (.inr rfl)
            · intro q hq hX k hk
              rw [List.mem_reverse] at hq
              obtain ⟨j, hj⟩ := List.mem_iff_getElem?.1 hq
              have hjl := (List.getElem?_eq_some_iff.1 hj).1
              rw [D.len] at hjl
              have hjo : ops[j]? = some ops[j] := Array.getElem?_eq_getElem hjl
              rw [D.tab j _ hjo] at hj
              injection hj with hj
              subst hj
              exact hcl' j hX k ((waits_inM hjo).1 hk)
          · intro j q hq hrq hj k hk
            rcases (hvin j).1 hj with h | rfl
            · rcases (hA j q hq).1 h with h2 | h2
              · exact (hvin k).2 (.inl (h2.2 k hk))
              · rw [hrq] at h2; exact absurd h2.1 (by simp)
            · rw [ho] at hq; injection hq with hq; subst hq; rw [hr] at hrq; simp at hrq
          · intro av' s'' g'' z3 hnode hat'' hF'' hz3 hA' hRun'
            exact ih _ _ w' f (addM i p) av' s'' z3 a0 g'' hsz' hcnt' hcl' hat'' hF'' (hL2.congr (fun _ => Iff.rfl) hz3) (by rw [(put_size _ _ _).2]; exact hdef) hpW hA' hRun' (fun j hj => ((hpin j).1 hj).elim (hP j) fun e => ⟨o, by rw [e]; exact ho, hr⟩) hnode
         unfold wpOp
         rw [ho]
         dsimp only
         rcases guardO_sound hat hcand with ⟨h1, s1, h2, h3⟩ | ⟨h1, s1, h2, h3⟩
         · rw [if_pos (hwd ▸ h1)]
           refine .inl (wp_transfer (Mx := fun g' w' => ∃ s', fill2 τ ops.toList (sureM tab.reverse (addM i p)) ops.toList tab (addM i av) s' (fun av s => wpNode2 τ C ops.toList tab f (addM i p) av s K) ∧ At τ w0 base M nn aS s' g' w') he (stepW_wp hτ hC h3 hdn h2 fun s' a' w' hk hat => ⟨s', hk, hat⟩) ?_ ?_)
           · rintro g' w' ⟨s', _, _, _, _, _, _, hgd⟩; exact hgd
           · rintro v w' ⟨s', hk, hat'⟩; exact go s' v w' hk hat'
         · rw [if_neg (by rw [← hwd, h1]; simp)]
           exact go _ undef w h2 (h3.skip hdn)
theorem draw2_sound (hm : P.follows .mixedOrders = true) {id : Nat} {Q : Exit → Act → World → Prop} {K : St → Prop} {s : St} {a : Act} {w : World} (hdst : dstOk nn ops.toList = true) (hdr : drawOk ops.toList tab = true) (hov : allOver ops.toList tab ops.toList tab = true)
  (hK : ∀ s a w, K s → At τ w0 base M nn aS s a w → Q .normal a w) (hw : wpDraw2 τ C ops.toList tab K s) (hat : At τ w0 base M nn aS s a w) : (Code.region id ops true).wp P Q a w := by
 refine wp_region_any hm ?_
 have D := drawOk_spec hdr
 have V := allOver_over D hov
 unfold wpDraw2 at hw
 split at hw
 rotate_left
 · exact hw.elim
 rename_i o1 os1 hall
 rw [← hall, forceN_eq] at hw
 have hw := hw.out
 rw [show (fun av s => Node2 τ C ops.toList tab (os1.length + 2) 0 av s K) = fun av s => wpNode2 τ C ops.toList tab (os1.length + 2) 0 av s K from funext fun av => funext fun s => propext ⟨fun h => h.out, fun h => ⟨h⟩⟩] at hw
 have hdef : a.defers = [] := by obtain ⟨_, _, _, _, _, h⟩ := hat; exact h
 have hemp : ∀ j, ¬ inM j 0 = true := fun j hj => by rw [inM_zero] at hj; simp at hj
 have hno : ∀ j, ¬ (Array.replicate ops.size false).getD j false = true := fun j => by
  rw [Array.getD_eq_getD_getElem?, Array.getElem?_replicate]
  split <;> simp
 refine fill2_sound hτ D V (w := { w with drawn := w.drawn + 1 }) (p := 0) (su := 0) (av0 := 0) (Dn := fun _ => False) (z := fun _ => undef) (a0 := a.tmps) (aS := aS) (w0 := w0) (base := base) (M := M) (nn := nn) hdst
  (fun j q hq hrq h => h.elim) (fun j q hq hrq => Iff.rfl) (fun j h => hemp j h) (fun j q _ _ h => absurd h (hemp j)) ?_ ops.toList tab 0 0 s a (fun _ => undef) rfl rfl hw hat.drew
  ⟨rfl, fun t => .inr ⟨fun j q _ _ hj => hemp j hj, rfl⟩⟩ (fun _ h => h.elim) (fun j q _ hj => absurd hj (Nat.not_lt_zero _)) (fun j hj => absurd hj (hemp j)) (fun j hj => hj) (fun j q _ hj => absurd hj (Nat.not_lt_zero _))
 intro av s'' g z' hnode hat'' hF _ hA hRun
 refine node2_sound hτ hC D V hdst hK ops.size _ a _ _ 0 av s'' z' a.tmps g (by simp) ?_ (fun j hj => absurd hj (hno j)) hat'' hF ⟨rfl, fun t => .inr ⟨fun j q _ _ hj => hno j hj, rfl⟩⟩ hdef ?_ hA (fun j q hq hrq hj _ => hRun j q hq hrq hj fun h => h) (fun j hj => absurd hj (hemp j)) hnode
 · intro l hn hl
   exact nodup_le _ l hn fun j hj => (hl j hj).1
 · intro j q hq hrq
   exact ⟨fun h => absurd h (hemp j), fun h => absurd h (hno j)⟩
end
end Go.Proofs.YtjjpakdlkjaigaaGreat

/- A symbolic executor for loaded Go code: code is sound. -/
namespace Go.Proofs.YtjjpakdlkjaigaaGreat
open Go.RowKit
section
variable {P : Program} {τ : Tys} {w0 : World} {base M nn : Nat} {aS : List (Array Value)}
variable (hτ : TysOk P τ) {C : Ctx} (hC : CtxOk P τ C)
include hτ hC
theorem wpC_sound (hm : P.follows .mixedOrders = true) {D : Draws} {L : List (Nat × Inv)} : ∀ (c : Code) (s : St) (K : KC) (Q : Exit → Act → World → Prop) (a : Act) (w : World), codeOk D nn c = true → wpC τ C D L c s K → At τ w0 base M nn aS s a w →
  (∀ e s a w, K e s → At τ w0 base M nn aS s a w → Q e.of a w) → c.wp P Q a w := by
 intro c
 induction c with
 | skip => intro s K Q a w _ hw hat hQ; exact wp_skip (hQ .normal s a w hw hat)
 | region id ops draw =>
   intro s K Q a w hok hw hat hQ
   cases draw with
   | true =>
     simp only [codeOk, Bool.and_eq_true] at hok
     simp only [wpC] at hw
     split at hw
     · rename_i tab htab
       rw [htab] at hok
       simp only [Bool.and_eq_true] at hok
       split at hw
       · rcases hw.out with hw | ⟨T, hw, hT⟩
         · exact draw_sound hτ hC hm hok.1 hok.2.1 (fun s a w h hat => hQ .normal s a w h hat) hw hat
         · exact draw_sound hτ hC hm hok.1 hok.2.1 (fun s a w h hat => hQ .normal T a w hT (hat.sub h.out)) hw hat
       · rename_i hg
         split at hw
         · rename_i hna
           rw [forceSp_eq] at hw
           have hgr := hok.2.2
           unfold growOk at hgr
           rw [hg, hna] at hgr
           exact draw2_sound hτ hC hm hok.1 hok.2.1 hgr (fun s a w h hat => hQ .normal s a w h hat) hw hat
         · exact draw_sound hτ hC hm hok.1 hok.2.1 (fun s a w h hat => hQ .normal s a w h hat) hw hat
     · exact hw.elim
   | false =>
     refine wp_region ?_
     have := opsL_sound hτ hC (Q := Q) hok (fun s a w h hat => hQ .normal s a w h hat) ops.toList 0 s a w rfl hw hat
     rwa [List.range_eq_range', ← Array.length_toList]
 | seq x y ihx ihy =>
   intro s K Q a w hok hw hat hQ
   simp only [codeOk] at hok
   split at hok
   · rename_i hx
     simp only [wpC] at hw
     split at hw
     · rename_i σ W X ok st mu fl ad hI
       rw [flatC_eq] at hw
       refine wp_seq (ihx s _ _ a w hx hw.1 hat ?_)
       intro e s' a' w' h hat'
       cases e with
       | normal =>
         obtain ⟨g, hg, hs⟩ := h
         rw [flatC_eq] at hs
         have h2 := hw.2 g hg
         rw [forceAll_eq] at h2
         exact ihy _ K Q a' w' hok h2.out (hat'.flat.sub hs) hQ
       | exit id => exact hQ _ s' a' w' h hat'
       | ret => exact hQ _ s' a' w' h hat'
     · refine wp_seq (ihx s _ _ a w hx hw hat ?_)
       intro e s a w h hat
       cases e with
       | normal => exact ihy s K Q a w hok h hat hQ
       | exit id => exact hQ _ s a w h hat
       | ret => exact hQ _ s a w h hat
   · simp at hok
 | cond c x y ihx ihy =>
   intro s K Q a w hok hw hat hQ
   simp only [codeOk] at hok
   split at hok
   · rename_i hx
     obtain ⟨E, hd, hrest⟩ := id hat
     have hc := hd.get c
     simp only [wpC] at hw
     split at hw
     · rename_i hl; rw [hl] at hc; exact wp_cond_true hc (ihx s K Q a w hx hw hat hQ)
     · rename_i hl; rw [hl] at hc; exact wp_cond_false hc (ihy s K Q a w hok hw hat hQ)
     · rename_i t hl
       rw [hl] at hc
       split at hw
       · rename_i n
         have hv : ∀ b, t = b → a.tmps.getD n undef = .bool b := fun b e => by rw [← e]; exact hc
         exact wp_cond_split hc (fun ht => ihx _ K Q a w hx (hw.1 ht) (hat.setLit (hv _ ht)) hQ) fun ht => ihy _ K Q a w hok (hw.2 ht) (hat.setLit (hv _ ht)) hQ
       · exact wp_cond_split hc (fun ht => ihx s K Q a w hx (hw.1 ht) hat hQ) fun ht => ihy s K Q a w hok (hw.2 ht) hat hQ
     · exact hw.elim
   · simp at hok
 | block id b ih =>
   intro s K Q a w hok hw hat hQ
   refine wp_block (ih s _ _ a w hok hw hat ?_)
   intro e s a w h hat
   cases e with
   | normal => exact hQ .normal s a w h hat
   | ret => exact hQ .ret s a w h hat
   | exit i =>
     simp only [Ex.of, Exit.inBlock]
     dsimp only at h
     split at h
     · rename_i hi
       rw [if_pos (Nat.eq_of_beq_eq_true hi)]
       exact hQ .normal s a w h hat
     · rename_i hi
       rw [if_neg (fun e => by subst e; simp at hi)]
       exact hQ (.exit i) s a w h hat
 | loop b ih =>
   intro s K Q a w hok hw hat hQ
   simp only [wpC] at hw
   split at hw
   · rename_i σ W X ok st mu ad hI
     obtain ⟨⟨g, hg, hsub⟩, hround⟩ := hw
     refine wp_loop_ghost (fun n a w => ∃ g, ok g ∧ mu g = n ∧ At τ w0 base M nn aS (st g (entry W X s.dep s)) a w) (mu g) ⟨g, hg, rfl, (hat.adopt ad).sub hsub⟩ ?_
     rintro n a w ⟨g, hg, rfl, hat⟩
     have hr := hround g hg
     rw [forceAll_eq] at hr
     refine ih _ _ _ a w hok hr.out hat ?_
     intro e s' a' w' h hat'
     cases e with
     | normal =>
       obtain ⟨g', hg', hmu, hs⟩ := h
       exact ⟨mu g', hmu, g', hg', rfl, hat'.sub hs⟩
     | exit id => exact hQ _ s' a' w' h hat'
     | ret => exact hQ _ s' a' w' h hat'
   · rename_i σ W X ok st mu keep ad hI
     rw [flatC_eq] at hw
     obtain ⟨⟨g, hg, hsub⟩, hround⟩ := hw
     rw [flatC_eq] at hsub
     refine wp_loop_ghost (fun n a w => ∃ g, ok g ∧ mu g = n ∧ At τ w0 base M nn aS (st g (flatSt keep (entry W X s.dep s))) a w) (mu g) ⟨g, hg, rfl, (hat.adopt ad).flat.sub hsub⟩ ?_
     rintro n a w ⟨g, hg, rfl, hat⟩
     have hr := hround g hg
     rw [forceAll_eq] at hr
     refine ih _ _ _ a w hok hr.out hat ?_
     intro e s' a' w' h hat'
     cases e with
     | normal =>
       obtain ⟨g', hg', hmu, hs⟩ := h
       rw [flatC_eq] at hs
       exact ⟨mu g', hmu, g', hg', rfl, hat'.flat.sub hs⟩
     | exit id => exact hQ _ s' a' w' h hat'
     | ret => exact hQ _ s' a' w' h hat'
   · exact hw.elim
 | exit id => intro s K Q a w _ hw hat hQ; exact wp_exit (hQ (.exit id) s a w hw hat)
 | ret => intro s K Q a w _ hw hat hQ; exact wp_ret (hQ .ret s a w hw hat)
 | rangeFunc f ps x y _ _ => intro s K Q a w _ hw; exact hw.elim
 | scope b _ => intro s K Q a w _ hw; exact hw.elim
 | label l => intro s K Q a w _ hw; exact hw.elim
 | goto l => intro s K Q a w _ hw; exact hw.elim
 | refuse y => intro s K Q a w _ hw; exact hw.elim
end
end Go.Proofs.YtjjpakdlkjaigaaGreat

/- A symbolic executor for loaded Go code: a function that meets its contract. -/
namespace Go.Proofs.YtjjpakdlkjaigaaGreat
open Go.RowKit
section
variable {P : Program} {τ : Tys} {w0 : World} {aS : List (Array Value)} {E : Env} {w : World} {s : St}
def Ein (w : World) : Env := { base := w.heap.size, M := w.heap.size, bs := fun _ => 0, hs := fun _ => undef, ow := fun _ => False }
theorem in_old {F : Nat → Prop} : ∀ g, F g → g < w.heap.size → w.heap[g]? = w.heap[g]? ∧ (Ein w).F w .old g := fun _ _ h => ⟨rfl, fun h => h, h⟩
theorem in_any {F : Nat → Prop} : ∀ g, F g → g < w.heap.size → w.heap[g]? = w.heap[g]? ∧ (Ein w).F w .any g := fun _ _ _ => ⟨rfl, fun h => h, trivial⟩
def argOk0 : SV → Bool
 | .row .any _ => true
 | .row _ _ => false
 | .pt .any _ => true
 | .pt _ _ => false
 | .pre _ _ _ => false
 | .own _ => false
 | .box _ _ => false
 | .oel _ _ _ => false
 | .agg _ => false
 | .tup _ => false
 | .clo _ _ _ => false
 | _ => true
def argOkF : SV → Bool
 | .agg cs => allB argOk0 cs
 | .tup _ => false
 | .clo _ a c => match allB argOkF' a with
   | true => allB argOk0 c
   | false => false
 | v => argOk0 v
where argOkF' : SV → Bool
 | .agg cs => allB argOk0 cs
 | v => argOk0 v
theorem allB_of_mem {p : SV → Bool} : ∀ {l : List SV}, allB p l = true → ∀ x ∈ l, p x = true
 | [], _, x, hx => by simp at hx
 | y :: l, h, x, hx => by
   simp only [allB] at h
   split at h
   · rename_i hy
     rcases List.mem_cons.1 hx with rfl | hx
     · exact hy
     · exact allB_of_mem h x hx
   · simp at h
theorem arg0 {x : SV} {u : Value} (ho : argOk0 x = true) (h : vd0 E0 [] w x u) : vd0 (Ein w) [] w x.old0 u := by
 cases x with
 | row t r => cases t <;> simp [argOk0] at ho; exact RowDen.mono h in_old
 | pt t cs =>
   cases t <;> simp [argOk0] at ho
   obtain ⟨ad, rfl, hs, hlt, hF, hc⟩ := h
   refine ⟨ad, rfl, hs, hlt, ⟨fun h => h, hlt⟩, fun j x hx => ?_⟩
   obtain ⟨u, hu, hd⟩ := hc j x hx
   exact ⟨u, hu, cd2.mono hd in_old⟩
 | pre t r n => simp [argOk0] at ho
 | own k => simp [argOk0] at ho
 | box k off => simp [argOk0] at ho
 | oel k i off => simp [argOk0] at ho
 | _ => exact h
theorem arg0k {x : SV} {u : Value} (ho : argOk0 x = true) (h : vd0 E0 [] w x u) : vd0 (Ein w) [] w x u := by
 cases x with
 | row t r => cases t <;> simp [argOk0] at ho; exact RowDen.mono h in_any
 | pt t cs =>
   cases t <;> simp [argOk0] at ho
   obtain ⟨ad, rfl, hs, hlt, hF, hc⟩ := h
   refine ⟨ad, rfl, hs, hlt, ⟨fun h => h, trivial⟩, fun j x hx => ?_⟩
   obtain ⟨u, hu, hd⟩ := hc j x hx
   exact ⟨u, hu, cd2.mono hd in_any⟩
 | pre t r n => simp [argOk0] at ho
 | own k => simp [argOk0] at ho
 | box k off => simp [argOk0] at ho
 | oel k i off => simp [argOk0] at ho
 | _ => exact h
theorem oldL_len : ∀ l : List SV, (oldL l).length = l.length
 | [] => rfl
 | x :: l => by simp [oldL, oldL_len l]
theorem oldL_get : ∀ (l : List SV) (j : Nat) (x : SV), (oldL l)[j]? = some x → ∃ y, l[j]? = some y ∧ x = y.old0
 | [], j, x, h => by simp [oldL] at h
 | y :: l, 0, x, h => by simp [oldL] at h; exact ⟨y, by simp, h.symm⟩
 | y :: l, j + 1, x, h => by simpa using oldL_get l j x (by simpa [oldL] using h)
theorem old0_vd1 {R : List (Nat × Ent)} {x : SV} {u : Value} (h : vd0 E R w x u) : vd1 E R w x u := by cases x <;> first | exact h | exact h.elim
theorem arg_in {x : SV} {u : Value} (ho : argOkF x = true) (h : vd3 E0 [] w x u) : vd3 (Ein w) [] w x.old u := by
 cases x with
 | tup cs => simp [argOkF] at ho
 | agg cs =>
   obtain ⟨us, rfl, hl⟩ := h
   refine ⟨us, rfl, by rw [oldL_len]; exact hl.1, fun j x hx => ?_⟩
   obtain ⟨y, hy, rfl⟩ := oldL_get cs j x hx
   obtain ⟨u, hu, hd⟩ := hl.2 j y hy
   have hok := allB_of_mem ho y (List.mem_of_getElem? hy)
   refine ⟨u, hu, old0_vd1 (arg0 hok ?_)⟩
   cases y <;> first | exact hd | (simp [argOk0] at hok; done)
 | clo f b c =>
   obtain ⟨us, vs, rfl, h1, h2⟩ := h
   simp only [argOkF] at ho
   split at ho
   · rename_i hb
     refine ⟨us, vs, rfl, h1.mono fun x u hx hp => ?_, h2.mono fun x u hx hp => arg0k (allB_of_mem ho x hx) hp⟩
     have hk := allB_of_mem hb x hx
     cases x with
     | agg cs => obtain ⟨us, rfl, hl⟩ := hp; exact ⟨us, rfl, hl.mono fun y u hy hp => arg0k (allB_of_mem hk y hy) hp⟩
     | row t r => exact arg0k (x := .row t r) hk hp
     | pt t r => exact arg0k (x := .pt t r) hk hp
     | pre t r n => simp [argOkF.argOkF', argOk0] at hk
     | own k => simp [argOkF.argOkF', argOk0] at hk
     | box k off => simp [argOkF.argOkF', argOk0] at hk
     | oel k i off => simp [argOkF.argOkF', argOk0] at hk
     | _ => exact hp
   · simp at ho
 | row t r => exact vd3_of_vd0 (arg0 (x := .row t r) ho h)
 | pt t r => exact vd3_of_vd0 (arg0 (x := .pt t r) ho h)
 | pre t r n => simp [argOkF, argOk0] at ho
 | own k => simp [argOkF, argOk0] at ho
 | box k off => simp [argOkF, argOk0] at ho
 | oel k i off => simp [argOkF, argOk0] at ho
 | _ => exact h
theorem enterF_lkv : ∀ (l : List SV) (us : List Value) (n t : Nat) (p : SV → Value → Prop), (∀ u, p .junk u) → L0 (fun x u => p x.old u) l us → p (lkv (enterF l n) t) (if n ≤ t then (us[t - n]?).getD undef else undef)
 | [], us, n, t, p, hj, _ => by simp only [enterF, lkv]; exact hj _
 | x :: l, us, n, t, p, hj, h => by
   obtain ⟨u, us', rfl, h1, h2⟩ := h.inv_cons
   simp only [enterF, lkv]
   split
   · rename_i hk
     obtain rfl := Nat.eq_of_beq_eq_true hk
     simpa using h1
   · rename_i hk
     have hne : n ≠ t := fun e => by subst e; simp at hk
     have := enterF_lkv l us' (n + 1) t p hj h2
     by_cases h3 : n + 1 ≤ t
     · rw [if_pos h3] at this
       rw [if_pos (by omega)]
       obtain ⟨j, rfl⟩ : ∃ j, t = n + 1 + j := ⟨t - (n + 1), by omega⟩
       rw [show n + 1 + j - (n + 1) = j by omega] at this
       rw [show n + 1 + j - n = j + 1 by omega]
       simpa using this
     · rw [if_neg h3] at this
       rw [if_neg (by omega)]
       exact this
theorem start_den {args : List SV} {vals : List Value} {n : Nat} (ho : allB argOkF args = true) (h : L0 (vd3 E0 [] w) args vals) :
  At τ w w.heap.size w.heap.size n [] (startSt args) { tmps := vals.toArray ++ Array.replicate (n - vals.toArray.size) undef, defers := [] } w := by
 refine ⟨Ein w, ⟨Below.refl _ _, Nat.le_refl _, Nat.le_refl _, fun g hg => hg.elim, ?_, ?_, ?_, ?_, ?_, ?_⟩, rfl, Nat.le_refl _, ?_, rfl⟩
 · intro i f hf
   cases i with
   | succ i => simp [startSt] at hf
   | zero =>
     simp [startSt] at hf
     subst hf
     refine ⟨_, rfl, fun t => ?_⟩
     have := enterF_lkv args vals 0 t (vd3 (Ein w) [] w) (fun u => trivial) (h.mono fun x u hx hp => arg_in (allB_of_mem ho x hx) hp)
     simp only [Nat.zero_le, if_true, Nat.sub_zero] at this
     have he : (vals.toArray ++ Array.replicate (n - vals.toArray.size) undef).getD t undef = (vals[t]?).getD undef := by
      rw [Array.getD_eq_getD_getElem?, Array.getElem?_append]
      split
      · simp
      · rename_i hlt
        have : vals[t]? = none := by simpa using hlt
        rw [this, Array.getElem?_replicate]
        split <;> rfl
     show vd3 (Ein w) [] w _ _
     dsimp only
     rw [he]
     exact this
 · intro k T cs hk; simp [startSt, lk] at hk
 · intro k e lo r hk; simp [startSt, lk] at hk
 · intro k k' b b' hk; simp [startSt, lk] at hk
 · intro k k' b e m hk; simp [startSt, lk] at hk
 · intro k k' e e' m m' g hk; simp [startSt, lk] at hk
 · simp; omega
theorem deep_of {F : Nat → Prop} {r : Rw} {v : Value} (h : RowDen w F r v) : r.deep := by
 have cell : ∀ (i j : Nat) (t : Tag) (r' : Rw), i < r.len → (r.cell .any i)[j]? = some (.row t r') → r'.len * r'.bts ≤ 140737488355328 := by
  intro i j t r' hi hx
  obtain ⟨_, A, c, _, _, hc⟩ := h
  obtain ⟨ad, _, _, _, hcell⟩ := hc (by omega)
  obtain ⟨u, _, hd⟩ := hcell i j _ hi hx
  exact hd.1
 have h0 := h.1
 cases r with
 | msgs l =>
   refine ⟨h0, fun m hm => ?_⟩
   obtain ⟨i, hi⟩ := List.mem_iff_getElem?.1 hm
   have hlt := (List.getElem?_eq_some_iff.1 hi).1
   exact cell i 3 .any (.ints m.ids) hlt (by simp [Rw.cell, List.getD_eq_getElem?_getD, hi, GMsg.cells])
 | acts l =>
   refine ⟨h0, fun m hm => ?_⟩
   obtain ⟨i, hi⟩ := List.mem_iff_getElem?.1 hm
   have hlt := (List.getElem?_eq_some_iff.1 hi).1
   exact cell i 4 .any (.ints m.ids) hlt (by simp [Rw.cell, List.getD_eq_getElem?_getD, hi, GAct.cells])
 | intss l =>
   refine ⟨h0, fun m hm => ?_⟩
   obtain ⟨i, hi⟩ := List.mem_iff_getElem?.1 hm
   have hlt := (List.getElem?_eq_some_iff.1 hi).1
   exact cell i 0 .any (.ints m) hlt (by simp [Rw.cell, List.getD_eq_getElem?_getD, hi])
 | nodes l =>
   refine ⟨h0, fun m hm => ?_⟩
   obtain ⟨i, hi⟩ := List.mem_iff_getElem?.1 hm
   have hlt := (List.getElem?_eq_some_iff.1 hi).1
   refine ⟨cell i 2 .any (.peers m.view.peers) hlt ?_, cell i 3 .any (.ints m.view.passive) hlt ?_, cell i 4 .any (.items m.items) hlt ?_, cell i 5 .any (.tolds m.log) hlt ?_⟩ <;>
    simp [Rw.cell, List.getD_eq_getElem?_getD, hi, GNode.cells]
 | _ => exact h0
theorem fitsL_of {p : SV → Value → Prop} (hp : ∀ x u, p x u → fits0 x) : ∀ {cs : List SV} {us : List Value}, L0 p cs us → fitsL cs
 | [], _, _ => trivial
 | x :: cs, _, h => by
   obtain ⟨u, us', rfl, h1, h2⟩ := h.inv_cons
   exact ⟨hp x u h1, fitsL_of hp h2⟩
theorem fitsL_get : ∀ {cs : List SV}, (∀ (j : Nat) x, cs[j]? = some x → fits0 x) → fitsL cs
 | [], _ => trivial
 | x :: cs, h => ⟨h 0 x (by simp), fitsL_get fun j y hy => h (j + 1) y (by simpa using hy)⟩
theorem fitsV_of {x : SV} {u : Value} (h : vd3 E0 [] w x u) : fitsV x := by
 cases x with
 | row t r => exact deep_of h
 | pt t cs =>
   obtain ⟨ad, _, _, _, _, hc⟩ := h
   refine fitsL_get fun j x hx => ?_
   obtain ⟨u, _, hd⟩ := hc j x hx
   cases x with
   | row t' r => exact deep_of hd
   | _ => trivial
 | agg cs =>
   obtain ⟨us, _, hl⟩ := h
   refine fitsL_of (fun x u hx => ?_) hl
   cases x with
   | row t' r => exact deep_of hx
   | _ => trivial
 | _ => trivial
theorem argFits_of : ∀ {args : List SV} {vals : List Value}, L0 (vd3 E0 [] w) args vals → argFits args
 | [], _, _ => trivial
 | x :: l, _, h => by
   obtain ⟨u, us', rfl, h1, h2⟩ := h.inv_cons
   exact ⟨fitsV_of h1, argFits_of h2⟩
end
end Go.Proofs.YtjjpakdlkjaigaaGreat

/- A symbolic executor for loaded Go code: a function's results. -/
namespace Go.Proofs.YtjjpakdlkjaigaaGreat
open Go.RowKit
section
variable {P : Program} {τ : Tys} {w0 : World} {aS : List (Array Value)} {E : Env} {w : World} {s : St}
def getR (tmps : Array Value) : ResultVar → Sem Value
 | .tmp t => pure (tmps.getD t undef)
 | .cell a t => do loadVar t (← asAddr (tmps.getD a undef))
theorem mapM_list {α : Type} (g : α → Sem Value) : ∀ (l : List α) (vs : List Value), l.length = vs.length → (∀ (j : Nat) x, l[j]? = some x → ∃ v, vs[j]? = some v ∧ (g x).run P w = .ok v w) → (l.mapM g).run P w = .ok vs w
 | [], vs, hl, _ => by
   have : vs = [] := List.eq_nil_of_length_eq_zero hl.symm
   subst this
   simp
 | x :: l, [], hl, _ => by simp at hl
 | x :: l, v :: vs, hl, h => by
   obtain ⟨v', hv', hr⟩ := h 0 x (by simp)
   simp at hv'
   subst hv'
   have ih := mapM_list g l vs (by simpa using hl) fun j y hy => by simpa using h (j + 1) y (by simpa using hy)
   simp [List.mapM_cons, hr, ih]
def oneV : List Value → Value
 | [v] => v
 | vs => .tuple vs.toArray
theorem results_list {fn : Func} {rs : List ResultVar} (hrs : fn.results.toList = rs) {tmps : Array Value} {vs : List Value} (hl : rs.length = vs.length)
  (h : ∀ (j : Nat) r, rs[j]? = some r → ∃ v, vs[j]? = some v ∧ (getR tmps r).run P w = .ok v w) : (results fn tmps).run P w = .ok (oneV vs) w := by
 have he : fn.results = rs.toArray := by rw [← hrs]
 have := mapM_list (P := P) (w := w) (getR tmps) rs vs hl h
 have h2 : (rs.toArray.mapM (getR tmps)).run P w = .ok vs.toArray w := by
  rw [List.mapM_toArray]
  simp [Sem.run_map, this]
 have hfun : results fn tmps = (do let vs ← rs.toArray.mapM (getR tmps); pure (if h : vs.size = 1 then vs[0] else .tuple vs)) := by
  unfold results
  rw [he]
  congr 2
 rw [hfun]
 simp only [Sem.run_bind, Sem.run_pure]
 rw [h2]
 simp only [Result.andThen_ok]
 congr 1
 cases vs with
 | nil => rfl
 | cons v vs => cases vs <;> rfl
theorem resVals_ok (hτ : TysOk P τ) {a : Act} {aS : List (Array Value)} (hd : Den τ w0 E s (a.tmps :: aS) w) {K : List SV → Prop} : ∀ (rs : List ResultVar) (acc : List SV) (us : List Value), resVals τ s rs acc K → L0 (vd3 E s.rows w) acc.reverse us →
  ∃ xs vs, K xs ∧ L0 (vd3 E s.rows w) xs (us ++ vs) ∧ rs.length = vs.length ∧ ∀ (j : Nat) r, rs[j]? = some r → ∃ v, vs[j]? = some v ∧ (getR a.tmps r).run P w = .ok v w
 | [], acc, us, h, ha => ⟨acc.reverse, [], h, by simpa using ha, rfl, fun j r h => by simp at h⟩
 | r :: rs, acc, us, h, ha => by
   have key : ∀ (x : SV) (v : Value), vd3 E s.rows w x v → (getR a.tmps r).run P w = .ok v w → resVals τ s rs (x :: acc) K →
     ∃ xs vs, K xs ∧ L0 (vd3 E s.rows w) xs (us ++ vs) ∧ (r :: rs).length = vs.length ∧ ∀ (j : Nat) r', (r :: rs)[j]? = some r' → ∃ v, vs[j]? = some v ∧ (getR a.tmps r').run P w = .ok v w := by
    intro x v hx hr h
    obtain ⟨xs, vs, h1, h2, h3, h4⟩ := resVals_ok hτ hd rs (x :: acc) (us ++ [v]) h (by
     rw [List.reverse_cons]
     exact ha.append (.cons hx .nil))
    refine ⟨xs, v :: vs, h1, by simpa using h2, by simp [h3], fun j r' hj => ?_⟩
    cases j with
    | zero => simp at hj; subst hj; exact ⟨v, by simp, hr⟩
    | succ j => simpa using h4 j r' (by simpa using hj)
   obtain ⟨b, hb, hfr⟩ := hd.fr 0 s.fr (by simp)
   simp at hb
   subst hb
   cases r with
   | tmp t =>
     simp only [resVals, SV.force_eq] at h
     exact key _ _ (hfr t) (by simp [getR]) h
   | cell c T =>
     simp only [resVals] at h
     obtain ⟨fr, stk, bx, rw', dep⟩ := s
     have hl := load_ok (P := P) hτ hd T (hfr c)
     split at h
     · rename_i v hv
       rw [SV.force_eq] at h
       rw [hv] at hl
       obtain ⟨z, hz, hvd⟩ := hl
       refine key v z hvd ?_ h
       -- an address, for sure
       have : ∃ ad, a.tmps.getD c undef = .pointer (some ad) := by
        cases hc : a.tmps.getD c undef with
        | pointer p =>
          cases p with
          | some ad => exact ⟨ad, rfl⟩
          | none => rw [hc] at hz; simp [Instr.loadAt, Instr.sureAddr] at hz
        | _ => rw [hc] at hz; simp [Instr.loadAt, Instr.sureAddr] at hz
       obtain ⟨ad, had⟩ := this
       rw [had] at hz
       simp only [getR, had, asAddr]
       simpa [Instr.loadAt, Instr.sureAddr] using hz
     · exact h.elim
theorem one_vd {xs : List SV} {vs : List Value} (h : L0 (vd3 E s.rows w) xs vs) (hno : xs.length = 1 ∨ ∀ x ∈ xs, ∀ c, x ≠ .tup c) : vd3 E s.rows w (oneOf xs) (oneV vs) := by
 have tup : (∀ x ∈ xs, ∀ c, x ≠ .tup c) → L0 (vd2 E s.rows w) xs vs := fun hno => h.mono fun x u hx hp => by
  cases x with
  | tup c => exact absurd rfl (hno _ hx c)
  | _ => exact hp
 cases xs with
 | nil => obtain rfl := h.inv_nil; exact ⟨[], rfl, L0.nil⟩
 | cons x xs =>
   obtain ⟨u, us, rfl, h1, h2⟩ := h.inv_cons
   cases xs with
   | nil => obtain rfl := h2.inv_nil; exact h1
   | cons y xs =>
     obtain ⟨u', us', rfl, h3, h4⟩ := h2.inv_cons
     exact ⟨_, rfl, tup (hno.resolve_left (by simp))⟩
end
end Go.Proofs.YtjjpakdlkjaigaaGreat

/- A symbolic executor for loaded Go code: a function that meets its contract, on. -/
namespace Go.Proofs.YtjjpakdlkjaigaaGreat
open Go.RowKit
section
variable {P : Program} {τ : Tys} {w0 : World} {aS : List (Array Value)} {E : Env} {w : World} {s : St}
def Eout (E : Env) (A : List (Nat × Option Nat)) : Env := ⟨E.base, E.base, fun _ => 0, fun i => match lk A i with
 | some (some k) => E.hs k
 | _ => .slice none 0 0, fun g => ∃ i k, lk A i = some (some k) ∧ (E.hs k).ownBlock = some g⟩
def PairOk (E : Env) (A : List (Nat × Option Nat)) (p : Nat × Option Nat) : Prop := match p.2 with
 | some k => (Eout E A).hs p.1 = E.hs k
 | none => (Eout E A).hs p.1 = .slice none 0 0
theorem lk_mem {α : Type} : ∀ {l : List (Nat × α)} {k : Nat} {v : α}, lk l k = some v → (k, v) ∈ l
 | [], k, v, h => by simp [lk] at h
 | (j, x) :: l, k, v, h => by
   simp only [lk] at h
   split at h
   · rename_i hj
     obtain rfl := Nat.eq_of_beq_eq_true hj
     simp at h
     subst h
     exact List.mem_cons_self
   · exact List.mem_cons_of_mem _ (lk_mem h)
theorem lk_of_mem {α : Type} : ∀ {l : List (Nat × α)} {k : Nat} {v : α}, (k, v) ∈ l → ∃ v', lk l k = some v'
 | [], k, v, h => by simp at h
 | (j, x) :: l, k, v, h => by
   simp only [lk]
   split
   · exact ⟨_, rfl⟩
   · rename_i hj
     rcases List.mem_cons.1 h with h | h
     · injection h with h1 h2; subst h1; simp at hj
     · exact lk_of_mem h
theorem beq_ff {a b : Nat} (h : Nat.beq a b = false) : a ≠ b := fun e => by subst e; simp at h
theorem soleK_spec {i k : Nat} : ∀ {A : List (Nat × Option Nat)}, soleK i k A = true → ∀ p ∈ A, match p.2 with
  | some k' => p.1 = i ↔ k = k'
  | none => p.1 ≠ i
 | [], _, p, hp => by simp at hp
 | (j, some k') :: A, h, p, hp => by
   simp only [soleK] at h
   split at h
   · rename_i h1 h2
     rcases List.mem_cons.1 hp with rfl | hp
     · exact ⟨fun _ => Nat.eq_of_beq_eq_true h2, fun _ => Nat.eq_of_beq_eq_true h1⟩
     · exact soleK_spec h p hp
   · rename_i h1 h2
     rcases List.mem_cons.1 hp with rfl | hp
     · exact ⟨fun e => absurd e (beq_ff h1), fun e => absurd e (beq_ff h2)⟩
     · exact soleK_spec h p hp
   · simp at h
 | (j, none) :: A, h, p, hp => by
   simp only [soleK] at h
   split at h
   · simp at h
   · rename_i h1
     rcases List.mem_cons.1 hp with rfl | hp
     · exact beq_ff h1
     · exact soleK_spec h p hp
theorem soleAll_spec {A : List (Nat × Option Nat)} : ∀ {B : List (Nat × Option Nat)}, soleAll A B = true → ∀ i k, (i, some k) ∈ B → soleK i k A = true
 | [], _, i, k, hp => by simp at hp
 | (j, some k') :: B, h, i, k, hp => by
   simp only [soleAll] at h
   split at h
   · rename_i h1
     rcases List.mem_cons.1 hp with hp | hp
     · injection hp with e1 e2; injection e2 with e2; subst e1; subst e2; exact h1
     · exact soleAll_spec h i k hp
   · simp at h
 | (j, none) :: B, h, i, k, hp => by
   simp only [soleAll] at h
   rcases List.mem_cons.1 hp with hp | hp
   · injection hp with e1 e2; simp at e2
   · exact soleAll_spec (B := B) h i k hp
theorem coverAll_spec {A : List (Nat × Option Nat)} : ∀ {n : Nat}, coverAll A n = true → ∀ i, i < n → ∃ o, lk A i = some o
 | 0, _, i, hi => by omega
 | n + 1, h, i, hi => by
   simp only [coverAll] at h
   split at h
   · rename_i o ho
     by_cases e : i = n
     · subst e; exact ⟨o, ho⟩
     · exact coverAll_spec h i (by omega)
   · simp at h
theorem pair_ok {A : List (Nat × Option Nat)} (hs : soleAll A A = true) : ∀ p ∈ A, PairOk E A p := by
 rintro ⟨i, o⟩ hp
 obtain ⟨o', ho'⟩ := lk_of_mem hp
 have hm := lk_mem ho'
 cases o with
 | some k =>
   have := soleK_spec (soleAll_spec hs i k hp) _ hm
   cases o' with
   | some k' => have e := this.1 rfl; subst e; simp [PairOk, Eout, ho']
   | none => exact absurd rfl this
 | none =>
   cases o' with
   | some k' => exact absurd rfl (soleK_spec (soleAll_spec hs i k' hm) _ hp)
   | none => simp [PairOk, Eout, ho']
def OutOk (E : Env) (A : List (Nat × Option Nat)) : Prop := (∀ g, (Eout E A).ow g → E.ow g) ∧ E.base ≤ E.M
theorem out_F {A : List (Nat × Option Nat)} (hA : OutOk E A) {w : World} {g : Nat} (h : E.F w .new g) : (Eout E A).F w .new g := ⟨fun e => h.1 (hA.1 g e), Nat.le_trans hA.2 h.2.1, h.2.2⟩
def OwnAll (R : List (Nat × Ent)) (k : Nat) (r : Rw) : Prop := ∃ e lo, lk R k = some e ∧ e.mine = some (lo, r) ∧ r.len ≤ lo
theorem matchV_vd {R : List (Nat × Ent)} {rows : List Rw} {A : List (Nat × Option Nat)} (hA : OutOk E A) {x v : SV} {u : Value} (hm : matchV R rows x v) (hp : ∀ p ∈ pairV x v, PairOk E A p) (h : vd0 E R w x u) :
  vd0 (Eout E A) (resRows rows 0) w v u := by
 unfold matchV at hm
 split at hm
 · obtain ⟨rfl, rfl⟩ := hm; exact h
 · subst hm; exact h
 · subst hm; exact h
 · subst hm; exact h
 · rename_i k i
   split at hm
   · rename_i r r' hk hi
     subst hm
     have := hp (i, some k) (by simp [pairV])
     simp only [vd0] at h ⊢
     rw [hk] at h
     rw [nth_eq] at hi
     rw [lk_resRows, if_pos (Nat.zero_le _), Nat.sub_zero, hi]
     exact h.trans (Eq.symm this)
   · rename_i lo r r' hk hi
     obtain ⟨rfl, _⟩ := hm
     have := hp (i, some k) (by simp [pairV])
     simp only [vd0] at h ⊢
     rw [hk] at h
     rw [nth_eq] at hi
     rw [lk_resRows, if_pos (Nat.zero_le _), Nat.sub_zero, hi]
     exact h.trans (Eq.symm this)
   · exact hm.elim
 · rename_i r i
   split at hm
   · rename_i r' hi
     subst hm
     have := hp (i, none) (by simp [pairV])
     obtain ⟨rfl, h0⟩ := h
     simp only [vd0]
     rw [nth_eq] at hi
     rw [lk_resRows, if_pos (Nat.zero_le _), Nat.sub_zero, hi]
     exact Eq.symm this
   · exact hm.elim
 · subst hm; exact RowDen.mono h fun g hg _ => ⟨rfl, out_F hA hg⟩
 · subst hm; obtain ⟨rfl, h0⟩ := h; exact empty_row h0 _
 · split at hm
   · rename_i r hk
     subst hm
     simp only [vd0] at h ⊢
     rw [hk] at h
     exact RowDen.mono h fun g hg _ => ⟨rfl, out_F hA hg⟩
   · exact hm.elim
 · exact hm.elim
theorem matchV_shape {R : List (Nat × Ent)} {rows : List Rw} {x v : SV} (hm : matchV R rows x v) : capOk x = true ∧ capOk v = true := by
 unfold matchV at hm
 split at hm <;> first | exact ⟨rfl, rfl⟩ | exact hm.elim
theorem vd0_of_cap {R : List (Nat × Ent)} {x : SV} {u : Value} (hc : capOk x = true) (h : vd3 E R w x u) : vd0 E R w x u := by cases x <;> first | exact h | (simp [capOk] at hc; done)
theorem vd1_of_cap {R : List (Nat × Ent)} {x : SV} {u : Value} (hc : capOk x = true) (h : vd1 E R w x u) : vd0 E R w x u := by cases x <;> first | exact h | (simp [capOk] at hc; done)
theorem matchL_vd {p : SV → SV → Prop} {q q' : SV → Value → Prop} {pr : SV → SV → List (Nat × Option Nat)} {A : List (Nat × Option Nat)}
  (hf : ∀ x v u, p x v → (∀ c ∈ pr x v, PairOk E A c) → q x u → q' v u) : ∀ (cs cs' : List SV) (us : List Value), matchL p cs cs' → (∀ c ∈ pairL pr cs cs', PairOk E A c) → L0 q cs us → L0 q' cs' us
 | [], [], us, _, _, h => by obtain rfl := h.inv_nil; exact L0.nil
 | x :: cs, y :: cs', us, hm, hp, h => by
   obtain ⟨u, us', rfl, h1, h2⟩ := h.inv_cons
   exact .cons (hf x y u hm.1 (fun c hc => hp c (by simp [pairL, hc])) h1) (matchL_vd hf cs cs' us' hm.2 (fun c hc => hp c (by simp [pairL, hc])) h2)
 | [], _ :: _, _, hm, _, _ => hm.elim
 | _ :: _, [], _, hm, _, _ => hm.elim
theorem matchA_vd {R : List (Nat × Ent)} {rows : List Rw} {A : List (Nat × Option Nat)} (hA : OutOk E A) {x v : SV} {u : Value} (hm : matchA R rows x v) (hp : ∀ p ∈ pairA x v, PairOk E A p) (h : vd2 E R w x u) :
  vd2 (Eout E A) (resRows rows 0) w v u := by
 unfold matchA at hm
 split at hm
 · rename_i cs cs'
   obtain ⟨us, rfl, hl⟩ := h
   refine ⟨us, rfl, matchL_vd (fun x v u h1 h2 h3 => ?_) cs cs' us hm hp hl⟩
   obtain ⟨c1, c2⟩ := matchV_shape h1
   exact old0_vd1 (matchV_vd hA h1 h2 (vd1_of_cap c1 h3))
 · rename_i hne
   obtain ⟨c1, c2⟩ := matchV_shape hm
   have hp' : ∀ p ∈ pairV x v, PairOk E A p := by
    intro p hpm
    refine hp p ?_
    unfold pairA
    split
    · rename_i cs cs'; exact absurd rfl (hne cs cs' rfl)
    · exact hpm
   have h3 : vd3 E R w x u := by cases x <;> first | exact h | (simp [capOk] at c1; done)
   have := matchV_vd hA hm hp' (vd0_of_cap c1 h3)
   cases v <;> first | exact this | (simp [capOk] at c2; done)
theorem matchA_shape {R : List (Nat × Ent)} {rows : List Rw} {x v : SV} (hm : matchA R rows x v) : (∀ c, x ≠ .tup c) ∧ ∀ c, v ≠ .tup c := by
 unfold matchA at hm
 split at hm
 · exact ⟨fun c => by simp, fun c => by simp⟩
 · obtain ⟨c1, c2⟩ := matchV_shape hm
   exact ⟨fun c e => by subst e; simp [capOk] at c1, fun c e => by subst e; simp [capOk] at c2⟩
theorem matchT_vd {R : List (Nat × Ent)} {rows : List Rw} {A : List (Nat × Option Nat)} (hA : OutOk E A) {x v : SV} {u : Value} (hm : matchT R rows x v) (hp : ∀ p ∈ pairT x v, PairOk E A p) (h : vd3 E R w x u) :
  vd3 (Eout E A) (resRows rows 0) w v u := by
 unfold matchT at hm
 split at hm
 · rename_i cs cs'
   obtain ⟨us, rfl, hl⟩ := h
   exact ⟨us, rfl, matchL_vd (q := vd2 E R w) (q' := vd2 (Eout E A) (resRows rows 0) w) (p := matchA R rows) (pr := pairA) (fun x v u h1 h2 h3 => matchA_vd hA h1 h2 h3) cs cs' us hm hp hl⟩
 · rename_i hne
   obtain ⟨c1, c2⟩ := matchA_shape hm
   have hp' : ∀ p ∈ pairA x v, PairOk E A p := by
    intro p hpm
    refine hp p ?_
    unfold pairT
    split
    · rename_i cs cs'; exact absurd rfl (c1 cs)
    · exact hpm
   have h2 : vd2 E R w x u := by
    cases x with
    | tup c => exact absurd rfl (c1 c)
    | _ => exact h
   have := matchA_vd hA hm hp' h2
   cases v with
   | tup c => exact absurd rfl (c2 c)
   | _ => exact this
theorem pairV_rows {R : List (Nat × Ent)} {rows : List Rw} {x v : SV} {u : Value} (hm : matchV R rows x v) (h : vd0 E R w x u) : ∀ p ∈ pairV x v, ∃ r, rows[p.1]? = some r ∧ match p.2 with
  | some k => OwnAll R k r
  | none => r.len = 0 := by
 intro p hp
 unfold pairV at hp
 split at hp
 · rename_i k i
   simp at hp
   subst hp
   simp only [matchV] at hm
   split at hm
   · rename_i r r' hk hi
     subst hm
     exact ⟨r, by rw [← nth_eq]; exact hi, _, _, hk, rfl, Nat.le_refl _⟩
   · rename_i lo r r' hk hi
     obtain ⟨rfl, hle⟩ := hm
     exact ⟨r, by rw [← nth_eq]; exact hi, _, _, hk, rfl, hle⟩
   · exact hm.elim
 · rename_i r i
   simp at hp
   subst hp
   simp only [matchV] at hm
   split at hm
   · rename_i r' hi
     subst hm
     exact ⟨r, by rw [← nth_eq]; exact hi, h.2⟩
   · exact hm.elim
 · simp at hp
theorem pairL_rows {R : List (Nat × Ent)} {rows : List Rw} {p : SV → SV → Prop} {q : SV → Value → Prop} {pr : SV → SV → List (Nat × Option Nat)}
  (hf : ∀ x v u, p x v → q x u → ∀ c ∈ pr x v, ∃ r, rows[c.1]? = some r ∧ match c.2 with
    | some k => OwnAll R k r
    | none => r.len = 0) : ∀ (cs cs' : List SV) (us : List Value), matchL p cs cs' → L0 q cs us → ∀ c ∈ pairL pr cs cs', ∃ r, rows[c.1]? = some r ∧ match c.2 with
    | some k => OwnAll R k r
    | none => r.len = 0
 | [], [], us, _, _, c, hc => by simp [pairL] at hc
 | x :: cs, y :: cs', us, hm, h, c, hc => by
   obtain ⟨u, us', rfl, h1, h2⟩ := h.inv_cons
   simp only [pairL, List.mem_append] at hc
   rcases hc with hc | hc
   · exact hf x y u hm.1 h1 c hc
   · exact pairL_rows hf cs cs' us' hm.2 h2 c hc
 | [], _ :: _, _, hm, _, _, _ => hm.elim
 | _ :: _, [], _, hm, _, _, _ => hm.elim
theorem pairA_rows {R : List (Nat × Ent)} {rows : List Rw} {x v : SV} {u : Value} (hm : matchA R rows x v) (h : vd2 E R w x u) : ∀ p ∈ pairA x v, ∃ r, rows[p.1]? = some r ∧ match p.2 with
  | some k => OwnAll R k r
  | none => r.len = 0 := by
 unfold matchA at hm
 split at hm
 · rename_i cs cs'
   obtain ⟨us, rfl, hl⟩ := h
   exact pairL_rows (q := vd1 E R w) (p := matchV R rows) (pr := pairV) (fun x v u h1 h2 => pairV_rows (E := E) (w := w) (u := u) h1 (vd1_of_cap (matchV_shape h1).1 h2)) cs cs' us hm hl
 · rename_i hne
   obtain ⟨c1, c2⟩ := matchV_shape hm
   intro p hp
   unfold pairA at hp
   split at hp
   · rename_i cs cs'; exact absurd rfl (hne cs cs' rfl)
   · have h3 : vd3 E R w x u := by cases x <;> first | exact h | (simp [capOk] at c1; done)
     exact pairV_rows hm (vd0_of_cap c1 h3) p hp
theorem pairT_rows {R : List (Nat × Ent)} {rows : List Rw} {x v : SV} {u : Value} (hm : matchT R rows x v) (h : vd3 E R w x u) : ∀ p ∈ pairT x v, ∃ r, rows[p.1]? = some r ∧ match p.2 with
  | some k => OwnAll R k r
  | none => r.len = 0 := by
 unfold matchT at hm
 split at hm
 · rename_i cs cs'
   obtain ⟨us, rfl, hl⟩ := h
   exact pairL_rows (q := vd2 E R w) (p := matchA R rows) (pr := pairA) (fun x v u h1 h2 => pairA_rows (E := E) (w := w) (u := u) h1 h2) cs cs' us hm hl
 · rename_i hne
   obtain ⟨c1, c2⟩ := matchA_shape hm
   intro p hp
   unfold pairT at hp
   split at hp
   · rename_i cs cs'; exact absurd rfl (c1 cs)
   · have h2 : vd2 E R w x u := by
      cases x with
      | tup c => exact absurd rfl (c1 c)
      | _ => exact h
     exact pairA_rows hm h2 p hp
theorem ownsRow_less {b b' : Nat} (h : b ≤ b') {e : TypeId} {sz : Nat} {v : Value} {n : Nat} {us : List Value} (ho : w.ownsRow b' e sz v n us) : w.ownsRow b e sz v n us := by
 refine ⟨ho.1, ?_⟩
 rcases ho.2 with h1 | ⟨g, cap, cur, hv, hg, h2⟩
 · exact .inl h1
 · exact .inr ⟨g, cap, cur, hv, Nat.le_trans h hg, h2⟩
theorem match_res {a : Act} (hd : Den τ w0 E s (a.tmps :: aS) w) (hb : E.base ≤ E.M) {x v : SV} {rows : List Rw} {u : Value} (hm : matchT s.rows rows x v) (hs : soleAll (pairT x v) (pairT x v) = true) (hc : coverAll (pairT x v) rows.length = true)
  (h : vd3 E s.rows w x u) : Res τ E.base w v rows u := by
 have hrows := pairT_rows hm h
 have hpo := pair_ok (E := E) hs
 have hown : ∀ i k, lk (pairT x v) i = some (some k) → ∃ r, rows[i]? = some r ∧ OwnAll s.rows k r := fun i k hk => hrows _ (lk_mem hk)
 have hA : OutOk E (pairT x v) := by
  refine ⟨?_, hb⟩
  rintro g ⟨i, k, hk, hg⟩
  obtain ⟨r, _, e, lo, hr, hm, _⟩ := hown i k hk
  exact (hd.own k _ _ _ hr hm).ow g hg
 refine ⟨Eout E (pairT x v), rfl, rfl, ?_, ?_, ?_, matchT_vd hA hm hpo h⟩
 · intro g hg
   exact hd.owb g (hA.1 g hg)
 · intro i r hi
   obtain ⟨o, ho⟩ := coverAll_spec hc i (List.getElem?_eq_some_iff.1 hi).1
   cases o with
   | some k =>
     obtain ⟨r', hr', hk⟩ := hown i k ho
     rw [hi] at hr'
     injection hr' with hr'
     subst hr'
     obtain ⟨e, lo, hk, hme, hle⟩ := hk
     have hO := hd.own k _ _ _ hk hme
     have hh : (Eout E (pairT x v)).hs i = E.hs k := by simp [Eout, ho]
     obtain ⟨us, h1, h2⟩ := hO.row
     refine ⟨fun g hg => ⟨i, k, ho, by rw [← hh]; exact hg⟩, hO.fits, us, by rw [hh]; exact ownsRow_less hb h1, fun i' j x' hi' hx' => ?_⟩
     obtain ⟨u, hu, hcd⟩ := h2 i' j x' hi' hx'
     rw [if_pos (by omega)] at hcd
     rw [if_pos hi']
     exact ⟨u, hu, cd1.mono hcd fun g hg _ => ⟨rfl, out_F hA hg⟩⟩
   | none =>
     obtain ⟨r', hr', h0⟩ := hrows _ (lk_mem ho)
     rw [hi] at hr'
     injection hr' with hr'
     subst hr'
     have h0 : r.len = 0 := h0
     have hh : (Eout E (pairT x v)).hs i = .slice none 0 0 := by simp [Eout, ho]
     refine ⟨fun g hg => by rw [hh] at hg; simp [Value.ownBlock] at hg, by rw [h0]; simp, [], ?_, fun i' j x' hi' => by omega⟩
     rw [hh, h0]
     exact ⟨by simp, .inl ⟨rfl, rfl⟩⟩
 · intro i j ri rj g hi hj hne hg hg'
   obtain ⟨o, ho⟩ := coverAll_spec hc i (List.getElem?_eq_some_iff.1 hi).1
   obtain ⟨o', ho'⟩ := coverAll_spec hc j (List.getElem?_eq_some_iff.1 hj).1
   cases o with
   | none => simp [Eout, ho, Value.ownBlock] at hg
   | some k =>
     cases o' with
     | none => simp [Eout, ho', Value.ownBlock] at hg'
     | some k' =>
       obtain ⟨r, _, e, lo, hr, hm, _⟩ := hown i k ho
       obtain ⟨r', _, e', lo', hr', hm', _⟩ := hown j k' ho'
       have hkk : k ≠ k' := fun e => by
        have := soleK_spec (soleAll_spec hs i k (lk_mem ho)) _ (lk_mem ho')
        exact hne (this.2 e).symm
       simp [Eout, ho] at hg
       simp [Eout, ho'] at hg'
       exact hd.rr k k' _ _ _ _ g hr hr' hm hm' hkk hg hg'
theorem valid_of_vc (hm : P.follows .mixedOrders = true) (hτ : TysOk P τ) {f : FuncId} {fn : Func} {code : Code} (hf : P.funcs[f]? = some fn) (hb : fn.body = some code) (D : Draws) (hok : codeOk D fn.ntmps code = true) (sp : Spec)
  (h : ∀ args, argFits args → (sp args).vc fun v rows => allB argOkF args = true ∧ ∃ C, CtxOk P τ C ∧ ∃ L, wpC τ C D L code (startSt args) (retK τ fn.results.toList v rows)) : Valid P τ f sp := by
 intro args vals w hargs
 have key : ∀ v rows, (allB argOkF args = true ∧ ∃ C, CtxOk P τ C ∧ ∃ L, wpC τ C D L code (startSt args) (retK τ fn.results.toList v rows)) → Calls P f vals.toArray w fun e w' => ∃ z, e = .returned z ∧ Below w.heap.size w w' ∧ Res τ w.heap.size w' v rows z := by
  rintro v rows ⟨ha, C, hC, L, hw⟩
  refine calls_of_wp hf hb (wpC_sound hτ hC hm code _ _ _ _ _ hok hw (start_den ha hargs) ?_)
  intro e s a w' hk hat
  obtain ⟨E, hd, h1, h2, h3, h4⟩ := hat
  have fin : resVals τ s fn.results.toList [] (fun vs => (oneOf vs).force fun x => match soleAll (pairT x v) (pairT x v), coverAll (pairT x v) rows.length with
    | true, true => forceR (demoteL (readT x v) s.rows) fun R => matchT R rows x v
    | _, _ => False) → a.defers = [] ∧ ∃ z, (results fn a.tmps).run P w' = .ok z w' ∧ ∃ z', Ending.returned z = .returned z' ∧ Below w.heap.size w w' ∧ Res τ w.heap.size w' v rows z' := by
   intro hr
   obtain ⟨xs, vs, hK, hl, hlen, hg⟩ := resVals_ok hτ hd fn.results.toList [] [] hr L0.nil
   rw [SV.force_eq] at hK
   split at hK
   · rename_i hs hc
     rw [forceR_eq] at hK
     simp only [List.nil_append] at hl
     have hno : xs.length = 1 ∨ ∀ x ∈ xs, ∀ c, x ≠ .tup c := by
      cases xs with
      | nil => exact .inr fun x hx => by simp at hx
      | cons x xs =>
        cases xs with
        | nil => exact .inl rfl
        | cons y xs =>
          refine .inr ?_
          have hm : matchT (demoteL (readT (.tup (x :: y :: xs)) v) s.rows) rows (.tup (x :: y :: xs)) v := hK
          generalize demoteL (readT (.tup (x :: y :: xs)) v) s.rows = R at hm
          unfold matchT at hm
          split at hm
          · rename_i cs cs' he
            injection he with he
            subst he
            have : ∀ (l l' : List SV), matchL (matchA R rows) l l' → ∀ x ∈ l, ∀ c, x ≠ .tup c := by
             intro l
             induction l with
             | nil => intro l' _ x hx; simp at hx
             | cons z l ih =>
               intro l' hm x hx
               cases l' with
               | nil => exact hm.elim
               | cons z' l' =>
                 rcases List.mem_cons.1 hx with rfl | hx
                 · exact (matchA_shape hm.1).1
                 · exact ih l' hm.2 x hx
            exact this _ _ hm
          · exact absurd rfl ((matchA_shape hm).1 _)
     have hz := one_vd hl hno
     refine ⟨h4, oneV vs, results_list rfl hlen hg, oneV vs, rfl, ?_, ?_⟩
     · have := hd.below; rw [h1] at this; exact this
     · obtain ⟨fr, stk, bx, rw', dep⟩ := s
       obtain ⟨E', g1, g2, _, _, _, hd', _, g8⟩ := hd.demoteL (readT (oneOf xs) v)
       have := match_res hd' (by rw [g1, g2, h1]; exact h2) hK hs hc (g8 _ _ hz)
       rw [g1, h1] at this
       exact this
   · exact hK.elim
  cases e with
  | exit id => exact hk.elim
  | normal => exact fin hk
  | ret => exact fin hk
 have hsp := h args (argFits_of hargs)
 cases hs : sp args with
 | ok v rows => rw [hs] at hsp; exact key v rows hsp
 | ob q v rows => rw [hs] at hsp; exact fun hq => key v rows (hsp hq)
 | bad => trivial
end
end Go.Proofs.YtjjpakdlkjaigaaGreat

/- A symbolic executor for loaded Go code: the type table, checked by computation. -/
namespace Go.Proofs.YtjjpakdlkjaigaaGreat
open Go.RowKit
inductive Tr (α : Type) where
 | nil
 | leaf (k : Nat) (v : α)
 | node (m : Nat) (l r : Tr α)
def Tr.get {α : Type} : Tr α → Nat → Option α
 | .nil, _ => none
 | .leaf k v, t => match Nat.beq k t with
   | true => some v
   | false => none
 | .node m l r, t => match Nat.blt t m with
   | true => l.get t
   | false => r.get t
def Tr.all {α : Type} (p : Nat → α → Bool) : Tr α → Bool
 | .nil => true
 | .leaf k v => p k v
 | .node _ l r => match l.all p with
   | true => r.all p
   | false => false
theorem Tr.get_all {α : Type} {p : Nat → α → Bool} : ∀ {t : Tr α}, t.all p = true → ∀ k v, t.get k = some v → p k v = true
 | .nil, _, k, v, h => by simp [Tr.get] at h
 | .leaf k' v', ha, k, v, h => by
   simp only [Tr.get] at h
   split at h
   · rename_i hk
     obtain rfl := Nat.eq_of_beq_eq_true hk
     simp at h
     subst h
     exact ha
   · simp at h
 | .node m l r, ha, k, v, h => by
   simp only [Tr.all] at ha
   split at ha
   · rename_i hl
     simp only [Tr.get] at h
     split at h
     · exact Tr.get_all hl k v h
     · exact Tr.get_all ha k v h
   · simp at ha
def zeroChk : List SV → List Value → Bool
 | [], [] => true
 | .int k n :: l, .int k' n' :: l' => sameK k k' && decide (n = n') && zeroChk l l'
 | .bool b :: l, .bool c :: l' => sameB b c && zeroChk l l'
 | .str s :: l, .string s' :: l' => decide (s.size = 0) && decide (s'.size = 0) && zeroChk l l'
 | .nilS r :: l, .slice none 0 0 :: l' => decide (r.len = 0) && zeroChk l l'
 | .junk :: l, _ :: l' => zeroChk l l'
 | _, _ => false
theorem bytes_empty {s t : ByteArray} (h : s.size = 0) (h' : t.size = 0) : t = s := by
 have key : ∀ {u : ByteArray}, u.size = 0 → u = ByteArray.empty := by
  intro u hu
  obtain ⟨d⟩ := u
  have : d.size = 0 := hu
  have : d = #[] := Array.eq_empty_of_size_eq_zero this
  subst this
  rfl
 rw [key h, key h']
theorem zeroChk_ok (E : Env) (R : List (Nat × Ent)) (w : World) : ∀ (l : List SV) (us : List Value), zeroChk l us = true → L0 (vd0 E R w) l us
 | [], [], _ => L0.nil
 | x :: l, u :: us, h => by
   unfold zeroChk at h
   split at h <;> (try simp only [Bool.and_eq_true, decide_eq_true_eq] at h)
   · rename_i h1 h2; simp at h1
   · rename_i k n l1 k' n' l1' h1 h2
     injection h1 with h1 h3; injection h2 with h2 h4; subst h1; subst h2; subst h3; subst h4
     obtain ⟨⟨h5, h6⟩, h7⟩ := h
     rw [sameK_eq h5, h6]
     exact .cons rfl (zeroChk_ok E R w _ _ h7)
   · rename_i b l1 c l1' h1 h2
     injection h1 with h1 h3; injection h2 with h2 h4; subst h1; subst h2; subst h3; subst h4
     obtain ⟨h5, h7⟩ := h
     rw [sameB_eq h5]
     exact .cons rfl (zeroChk_ok E R w _ _ h7)
   · rename_i s l1 t l1' h1 h2
     injection h1 with h1 h3; injection h2 with h2 h4; subst h1; subst h2; subst h3; subst h4
     obtain ⟨⟨h5, h6⟩, h7⟩ := h
     rw [bytes_empty h5 h6]
     exact .cons rfl (zeroChk_ok E R w _ _ h7)
   · rename_i r l1 l1' h1 h2
     injection h1 with h1 h3; injection h2 with h2 h4; subst h1; subst h2; subst h3; subst h4
     obtain ⟨h5, h7⟩ := h
     exact .cons ⟨rfl, h5⟩ (zeroChk_ok E R w _ _ h7)
   · rename_i l1 u1 l1' h1 h2
     injection h1 with h1 h3; injection h2 with h2 h4; subst h1; subst h3; subst h4
     exact .cons trivial (zeroChk_ok E R w _ _ h)
   · simp at h
 | [], _ :: _, h => by simp [zeroChk] at h
 | x :: l, [], h => by unfold zeroChk at h; split at h <;> first | (rename_i h1 h2; simp at h2; done) | (simp at h; done) | (rename_i h1 _; simp at h1)
def fldChk : List Field → List (Nat × TypeId) → Bool
 | [], [] => true
 | f :: l, (o, T) :: l' => Nat.beq f.offset o && Nat.beq f.type T && fldChk l l'
 | _, _ => false
theorem fldChk_ok : ∀ (l : List Field) (l' : List (Nat × TypeId)), fldChk l l' = true → l' = l.map fun f => (f.offset, f.type)
 | [], [], _ => rfl
 | f :: l, (o, T) :: l', h => by
   simp only [fldChk, Bool.and_eq_true] at h
   obtain ⟨⟨h1, h2⟩, h3⟩ := h
   rw [fldChk_ok l l' h3, ← Nat.eq_of_beq_eq_true h1, ← Nat.eq_of_beq_eq_true h2]
   rfl
 | [], _ :: _, h => by simp [fldChk] at h
 | _ :: _, [], h => by simp [fldChk] at h
def tdChk : TypeDesc → TD → Bool
 | .int k, .int k' => sameK k k'
 | .bool, .bool => true
 | .string, .str => true
 | .slice e, .slice e' => Nat.beq e e'
 | .struct fa, .struct fs => fldChk fa.toList fs
 | .array n e, .arr n' e' => Nat.beq n n' && Nat.beq e e'
 | d, .other => match d with
   | .struct _ => false
   | .array _ _ => false
   | _ => true
 | _, _ => false
theorem tdChk_ok {d : TypeDesc} {t : TD} (h : tdChk d t = true) : tdOk d t := by
 unfold tdChk at h
 split at h
 · rw [sameK_eq h]; rfl
 · rfl
 · rfl
 · rw [Nat.eq_of_beq_eq_true h]; rfl
 · rename_i fa fs
   refine ⟨fa, rfl, fun j => ?_⟩
   rw [nth_eq, fldChk_ok _ _ h]
   simp
 · simp only [Bool.and_eq_true] at h
   rw [Nat.eq_of_beq_eq_true h.1, Nat.eq_of_beq_eq_true h.2]
   rfl
 · split at h
   · simp at h
   · simp at h
   · unfold tdOk
     split <;> first | trivial | (simp_all; done)
 · simp at h
def isSomeB {α : Type} : Option α → Bool
 | some _ => true
 | none => false
theorem isSomeB_ok {α : Type} {o : Option α} (h : isSomeB o = true) : ∃ x, o = some x := by cases o with
 | none => simp [isSomeB] at h
 | some x => exact ⟨x, rfl⟩
def subChk (τ : Tys) : TD → Bool
 | .struct fs => fs.all fun p => isSomeB (τ.ti p.2)
 | .arr _ e => isSomeB (τ.ti e)
 | _ => true
def tiChk (P : Program) (τ : Tys) (T : TypeId) (i : TI) : Bool := match P.info? T, P.underlying T with
 | some x, some d => match x.zero with
   | some z => Nat.beq x.size i.sz && Nat.beq x.bytes i.bytes && Nat.beq z.cells.size i.sz && zeroChk i.zero z.cells.toList && tdChk d i.td && subChk τ i.td
   | none => false
 | _, _ => false
theorem tiChk_ok {P : Program} {τ : Tys} {T : TypeId} {i : TI} (h : tiChk P τ T i = true) : TiOk P τ T i := by
 unfold tiChk at h
 split at h
 · rename_i x d hx hd
   split at h
   · rename_i z hz
     simp only [Bool.and_eq_true] at h
     obtain ⟨⟨⟨⟨⟨h1, h2⟩, h3⟩, h4⟩, h5⟩, h6⟩ := h
     refine ⟨?_, ?_, ⟨x, z, hx, Nat.eq_of_beq_eq_true h1, Nat.eq_of_beq_eq_true h2, hz, Nat.eq_of_beq_eq_true h3, fun E R w => zeroChk_ok E R w _ _ h4⟩, ⟨d, hd, tdChk_ok h5⟩⟩
     · intro fs hfs j p hp
       rw [hfs] at h6
       simp only [subChk, List.all_eq_true] at h6
       rw [nth_eq] at hp
       exact isSomeB_ok (h6 p (List.mem_of_getElem? hp))
     · intro n e he
       rw [he] at h6
       exact isSomeB_ok h6
   · simp at h
 · simp at h
def fitB : SV → SV → Bool
 | .int k n, .int k' n' => sameK k k' && decide (n = n')
 | .bool b, .bool c => sameB b c
 | .str s, .str t => decide (s.size = 0) && decide (t.size = 0)
 | .nilS (.ints []), .row _ (.ints []) => true
 | .nilS (.peers []), .row _ (.peers []) => true
 | .nilS (.items []), .row _ (.items []) => true
 | .nilS (.tolds []), .row _ (.tolds []) => true
 | .nilS (.cuts []), .row _ (.cuts []) => true
 | _, _ => false
def fitLB : List SV → List SV → Bool
 | [], [] => true
 | x :: l, y :: l' => fitB x y && fitLB l l'
 | _, _ => false
theorem fitB_ok {x y : SV} (h : fitB x y = true) : Fit x y := by
 unfold fitB at h
 split at h <;> (try simp only [Bool.and_eq_true, decide_eq_true_eq] at h)
 · exact ⟨sameK_eq h.1, h.2⟩
 · exact sameB_eq h
 · exact (bytes_empty h.1 h.2).symm
 · exact ⟨rfl, rfl⟩
 · exact ⟨rfl, rfl⟩
 · exact ⟨rfl, rfl⟩
 · exact ⟨rfl, rfl⟩
 · exact ⟨rfl, rfl⟩
 · simp at h
theorem fitLB_ok : ∀ {l l' : List SV}, fitLB l l' = true → FitL l l'
 | [], [], _ => FitL.nil
 | x :: l, y :: l', h => by
   simp only [fitLB, Bool.and_eq_true] at h
   exact FitL.cons (fitB_ok h.1) (fitLB_ok h.2)
 | [], _ :: _, h => by simp [fitLB] at h
 | _ :: _, [], h => by simp [fitLB] at h
def noRowB : List SV → Bool
 | [] => true
 | .row _ _ :: _ => false
 | _ :: l => noRowB l
theorem noRowB_ok : ∀ {l : List SV}, noRowB l = true → ∀ t r, SV.row t r ∉ l
 | [], _, t, r, h => by simp at h
 | x :: l, h, t, r, hm => by
   unfold noRowB at h
   split at h
   · rename_i h1; simp at h1
   · simp at h
   · rename_i x' l' hne h1
     injection h1 with h1 h2
     subst h1; subst h2
     rcases List.mem_cons.1 hm with e | hm
     · exact hne t r e.symm
     · exact noRowB_ok h t r hm
def rkChk (τ : Tys) (e k : Nat) : Bool := Nat.blt k 12 && Nat.beq (τ.et k) e && match τ.ti e with
 | some i => Nat.beq i.sz (kdSz k) && Nat.beq i.bytes (kdBytes k) && fitLB i.zero ((Rw.zeros k 1).cell .any 0) && noRowB i.zero
 | none => false
theorem rkChk_ok {τ : Tys} {e k : Nat} (h : rkChk τ e k = true) : k < 12 ∧ τ.et k = e ∧ ∃ i, τ.ti e = some i ∧ i.sz = kdSz k ∧ i.bytes = kdBytes k ∧ FitL i.zero ((Rw.zeros k 1).cell .any 0) ∧ ∀ t r, SV.row t r ∉ i.zero := by
 unfold rkChk at h
 simp only [Bool.and_eq_true] at h
 obtain ⟨⟨h1, h2⟩, h3⟩ := h
 split at h3
 · rename_i i hi
   simp only [Bool.and_eq_true] at h3
   obtain ⟨⟨⟨h4, h5⟩, h6⟩, h7⟩ := h3
   exact ⟨Nat.lt_of_succ_le (Nat.le_of_ble_eq_true h1), Nat.eq_of_beq_eq_true h2, i, hi, Nat.eq_of_beq_eq_true h4, Nat.eq_of_beq_eq_true h5, fitLB_ok h6, noRowB_ok h7⟩
 · simp at h3
def mkTys (I : Tr TI) (K : Tr Nat) (Et : Tr Nat) (S : Tr (List Nat)) : Tys := ⟨I.get, K.get, fun k => match Et.get k with
 | some e => e
 | none => 0, S.get⟩
theorem tys_ok {P : Program} {I : Tr TI} {K Et : Tr Nat} {S : Tr (List Nat)} (h1 : I.all (tiChk P (mkTys I K Et S)) = true) (h2 : K.all (rkChk (mkTys I K Et S)) = true) (h3 : ∀ T sh, S.get T = some sh → EqOk P T sh) : TysOk P (mkTys I K Et S) :=
 ⟨fun T i h => tiChk_ok (Tr.get_all h1 T i h), h3, fun e k h => rkChk_ok (Tr.get_all h2 e k h)⟩
theorem eqCells_int {sh : List Nat} {a b : List SV} {e : Bool} (h : eqCells (0 :: sh) a b = some e) : ∃ x y a' b' e', a = .int .i64 x :: a' ∧ b = .int .i64 y :: b' ∧ eqCells sh a' b' = some e' ∧ e = (decide (x = y) && e') := by
 unfold eqCells at h
 split at h
 · rename_i h1; simp at h1
 · rename_i sh' x a' y b' h1
   injection h1 with _ h1
   subst h1
   split at h
   · rename_i e' he
     simp at h
     subst h
     refine ⟨x, y, a', b', true, rfl, rfl, ?_, by simp⟩
     cases a' <;> cases b' <;> simp [eqCells] at he ⊢
   · rename_i e' hne he
     simp at h
     subst h
     exact ⟨x, y, a', b', e', rfl, rfl, he, rfl⟩
   · simp at h
 · rename_i h1; simp at h1
 · simp at h
theorem eqCells_bool {sh : List Nat} {n : Nat} {a b : List SV} {e : Bool} (h : eqCells ((n + 1) :: sh) a b = some e) : ∃ sx sy x y a' b' e', a = sx :: a' ∧ b = sy :: b' ∧ sx.asBool = some x ∧ sy.asBool = some y ∧ eqCells sh a' b' = some e' ∧ e = ((x == y) && e') := by
 unfold eqCells at h
 split at h
 · rename_i h1; simp at h1
 · rename_i h1; simp at h1
 · rename_i n' sh' x a' y b' h1
   injection h1 with _ h1
   subst h1
   split at h
   · rename_i p q e' hp hq he
     simp at h
     subst h
     refine ⟨x, y, p, q, a', b', true, rfl, rfl, hp, hq, ?_, by simp⟩
     cases a' <;> cases b' <;> simp [eqCells] at he ⊢
   · rename_i p q e' hne hp hq he
     simp at h
     subst h
     exact ⟨x, y, p, q, a', b', e', rfl, rfl, hp, hq, he, rfl⟩
   · simp at h
 · simp at h
theorem eqCells_nil {a b : List SV} {e : Bool} (h : eqCells [] a b = some e) : a = [] ∧ b = [] ∧ e = true := by
 cases a <;> cases b <;> simp [eqCells] at h
 exact ⟨rfl, rfl, h⟩
end Go.Proofs.YtjjpakdlkjaigaaGreat

/- A symbolic executor for loaded Go code: contexts, functions by their facts. -/
namespace Go.Proofs.YtjjpakdlkjaigaaGreat
open Go.RowKit
def mkCtx (l : List (FuncId × Spec)) : Ctx := ⟨fun f => lk l f, fun _ => none⟩
structure Known (P : Program) (τ : Tys) (f : FuncId) (sp : Spec) : Prop where
 enters : Enters P f
 valid : Valid P τ f sp
theorem ctx_nil {P : Program} {τ : Tys} : CtxOk P τ (mkCtx []) := ⟨fun f sp h => by simp [mkCtx, lk] at h, fun f sp h => by simp [mkCtx, lk] at h, fun f T h => by simp [mkCtx] at h, fun f T h => by simp [mkCtx] at h⟩
theorem ctx_cons {P : Program} {τ : Tys} {f : FuncId} {sp : Spec} {l : List (FuncId × Spec)} (h : Known P τ f sp) (hl : CtxOk P τ (mkCtx l)) : CtxOk P τ (mkCtx ((f, sp) :: l)) := by
 refine ⟨?_, ?_, fun f T h => by simp [mkCtx] at h, fun f T h => by simp [mkCtx] at h⟩
 · intro g sp' hg
   simp only [mkCtx, lk] at hg
   split at hg
   · rename_i hk
     obtain rfl := Nat.eq_of_beq_eq_true hk
     exact h.enters
   · exact hl.enters g sp' hg
 · intro g sp' hg
   simp only [mkCtx, lk] at hg
   split at hg
   · rename_i hk
     obtain rfl := Nat.eq_of_beq_eq_true hk
     simp at hg
     subst hg
     exact h.valid
   · exact hl.valid g sp' hg
def addTr (f : FuncId) (T : CallT) (C : Ctx) : Ctx := ⟨C.spec, fun g => match Nat.beq f g with
 | true => some T
 | false => C.tr g⟩
structure TrKnown (P : Program) (τ : Tys) (f : FuncId) (T : CallT) : Prop where
 enters : Enters P f
 ok : TrOk P τ f T
theorem ctx_tr {P : Program} {τ : Tys} {f : FuncId} {T : CallT} {C : Ctx} (h : TrKnown P τ f T) (hC : CtxOk P τ C) : CtxOk P τ (addTr f T C) := by
 refine ⟨hC.enters, hC.valid, ?_, ?_⟩
 · intro g T' hg
   simp only [addTr] at hg
   split at hg
   · rename_i hk
     obtain rfl := Nat.eq_of_beq_eq_true hk
     exact h.enters
   · exact hC.trEnters g T' hg
 · intro g T' hg
   simp only [addTr] at hg
   split at hg
   · rename_i hk
     obtain rfl := Nat.eq_of_beq_eq_true hk
     simp at hg
     subst hg
     exact h.ok
   · exact hC.trOk g T' hg
def fbody (fn : Func) : Code := match fn.body with
 | some c => c
 | none => .skip
def isSome' {α : Type} : Option α → Bool
 | some _ => true
 | none => false
def fnOk (D : Draws) (fn : Func) : Bool := isSome' fn.body && !(fn.name == "runtime.NumGoroutine") && codeOk D fn.ntmps (fbody fn)
theorem fnOk_enters {P : Program} {f : FuncId} {fn : Func} {D : Draws} (hf : P.funcs[f]? = some fn) (h : fnOk D fn = true) : Enters P f := by
 simp only [fnOk, Bool.and_eq_true, Bool.not_eq_true'] at h
 intro args w
 have hb : fn.body.isNone = false := by
  cases hb : fn.body with
  | none => rw [hb] at h; simp [isSome'] at h
  | some c => rfl
 have hn : ¬ fn.name = "runtime.NumGoroutine" := by simpa using h.1.2
 have hb' : ¬ fn.body = none := fun e => by rw [e] at hb; simp at hb
 simp [callFunc, hf, hb, hb', hn]
theorem known {P : Program} {τ : Tys} (hm : P.follows .mixedOrders = true) (hτ : TysOk P τ) {f : FuncId} {fn : Func} (hf : P.funcs[f]? = some fn) (D : Draws) (hok : fnOk D fn = true) (sp : Spec)
  (h : ∀ args, argFits args → (sp args).vc fun v rows => allB argOkF args = true ∧ ∃ C, CtxOk P τ C ∧ ∃ L, wpC τ C D L (fbody fn) (startSt args) (retK τ fn.results.toList v rows)) : Known P τ f sp := by
 refine ⟨fnOk_enters hf hok, ?_⟩
 simp only [fnOk, Bool.and_eq_true] at hok
 have hb : fn.body = some (fbody fn) := by
  cases hb : fn.body with
  | none => have := hok.1.1; rw [hb] at this; simp [isSome'] at this
  | some c => simp [fbody, hb]
 exact valid_of_vc hm hτ hf hb D hok.2 sp h
def withS (l : List (Nat × SV)) : St → St
 | ⟨fr, stk, bx, rw, dep⟩ => ⟨l ++ fr, stk, bx, rw, dep⟩
def withR (l : List (Nat × Ent)) : St → St
 | ⟨fr, stk, bx, rw, dep⟩ => ⟨fr, stk, bx, l ++ rw, dep⟩
def withB (l : List (Nat × (TypeId × List SV))) : St → St
 | ⟨fr, stk, bx, rw, dep⟩ => ⟨fr, stk, l ++ bx, rw, dep⟩
end Go.Proofs.YtjjpakdlkjaigaaGreat
