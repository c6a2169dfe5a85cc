/- A symbolic executor for loaded Go code: code is sound. -/
import Derived.Test.YtmgccphapkmmeaaXB
namespace Go.Proofs.Ytmgccphapkmmeaa
open Go.RowKit

section
variable {P : Program} {τ : Tys} {w0 : World} {base M nn : Nat} {as : List (Array Value)}
variable (hτ : TysOk P τ) {C : Ctx} (hC : CtxOk P τ C)
include hτ hC
theorem wpC_sound (hm : P.follows .mixedOrders = true) {D : Draws} {L : List (Nat × Inv)} : ∀ (c : Code) (s : St) (K : KC) (Q : Exit → Act → World → Prop) (a : Act) (w : World), codeOk D nn c = true → wpC τ C D L c s K → At τ w0 base M nn as s a w →
    (∀ e s a w, K e s → At τ w0 base M nn as s a w → Q e.of a w) → c.wp P Q a w := by
  intro c
  induction c with
  | skip => intro s K Q a w _ hw hat hQ; exact wp_skip (hQ .normal s a w hw hat)
  | region id ops draw =>
    intro s K Q a w hok hw hat hQ
    cases draw with
    | true =>
      simp only [codeOk, Bool.and_eq_true] at hok
      simp only [wpC] at hw
      split at hw
      · rename_i tab htab
        rw [htab] at hok
        exact draw_sound hτ hC hm hok.1 hok.2 (fun s a w h hat => hQ .normal s a w h hat) hw hat
      · exact hw.elim
    | false =>
      refine wp_region ?_
      have := opsL_sound hτ hC (Q := Q) hok (fun s a w h hat => hQ .normal s a w h hat) ops.toList 0 s a w rfl hw hat
      rwa [List.range_eq_range', ← Array.length_toList]
  | seq x y ihx ihy =>
    intro s K Q a w hok hw hat hQ
    simp only [codeOk] at hok
    split at hok
    · rename_i hx
      refine wp_seq (ihx s _ _ a w hx hw hat ?_)
      intro e s a w h hat
      cases e with
      | normal => exact ihy s K Q a w hok h hat hQ
      | exit id => exact hQ _ s a w h hat
      | ret => exact hQ _ s a w h hat
    · simp at hok
  | cond c x y ihx ihy =>
    intro s K Q a w hok hw hat hQ
    simp only [codeOk] at hok
    split at hok
    · rename_i hx
      obtain ⟨E, hd, hrest⟩ := id hat
      have hc := hd.get c
      simp only [wpC] at hw
      split at hw
      · rename_i hl; rw [hl] at hc; exact wp_cond_true hc (ihx s K Q a w hx hw hat hQ)
      · rename_i hl; rw [hl] at hc; exact wp_cond_false hc (ihy s K Q a w hok hw hat hQ)
      · rename_i t hl
        rw [hl] at hc
        split at hw
        · rename_i n
          have hv : ∀ b, t = b → a.tmps.getD n undef = .bool b := fun b e => by rw [← e]; exact hc
          exact wp_cond_split hc (fun ht => ihx _ K Q a w hx (hw.1 ht) (hat.setLit (hv _ ht)) hQ) fun ht => ihy _ K Q a w hok (hw.2 ht) (hat.setLit (hv _ ht)) hQ
        · exact wp_cond_split hc (fun ht => ihx s K Q a w hx (hw.1 ht) hat hQ) fun ht => ihy s K Q a w hok (hw.2 ht) hat hQ
      · exact hw.elim
    · simp at hok
  | block id b ih =>
    intro s K Q a w hok hw hat hQ
    refine wp_block (ih s _ _ a w hok hw hat ?_)
    intro e s a w h hat
    cases e with
    | normal => exact hQ .normal s a w h hat
    | ret => exact hQ .ret s a w h hat
    | exit i =>
      simp only [Ex.of, Exit.inBlock]
      dsimp only at h
      split at h
      · rename_i hi
        rw [if_pos (Nat.eq_of_beq_eq_true hi)]
        exact hQ .normal s a w h hat
      · rename_i hi
        rw [if_neg (fun e => by subst e; simp at hi)]
        exact hQ (.exit i) s a w h hat
  | loop b ih =>
    intro s K Q a w hok hw hat hQ
    simp only [wpC] at hw
    split at hw
    · rename_i σ W X ok st mu hI
      obtain ⟨⟨g, hg, hsub⟩, hround⟩ := hw
      refine wp_loop_ghost (fun n a w => ∃ g, ok g ∧ mu g = n ∧ At τ w0 base M nn as (st g (entry W X s.dep s)) a w) (mu g) ⟨g, hg, rfl, hat.sub hsub⟩ ?_
      rintro n a w ⟨g, hg, rfl, hat⟩
      refine ih _ _ _ a w hok (hround g hg) hat ?_
      intro e s' a' w' h hat'
      cases e with
      | normal =>
        obtain ⟨g', hg', hmu, hs⟩ := h
        exact ⟨mu g', hmu, g', hg', rfl, hat'.sub hs⟩
      | exit id => exact hQ _ s' a' w' h hat'
      | ret => exact hQ _ s' a' w' h hat'
    · exact hw.elim
  | exit id => intro s K Q a w _ hw hat hQ; exact wp_exit (hQ (.exit id) s a w hw hat)
  | ret => intro s K Q a w _ hw hat hQ; exact wp_ret (hQ .ret s a w hw hat)
  | rangeFunc f ps x y _ _ => intro s K Q a w _ hw; exact hw.elim
  | scope b _ => intro s K Q a w _ hw; exact hw.elim
  | label l => intro s K Q a w _ hw; exact hw.elim
  | goto l => intro s K Q a w _ hw; exact hw.elim
  | refuse y => intro s K Q a w _ hw; exact hw.elim
end
end Go.Proofs.Ytmgccphapkmmeaa
