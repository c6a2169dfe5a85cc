/- A part of the proof of a law: VN, VP, VQ, VR, VT, VUa, VU, VO, VV. -/
import Derived.Test.YtjjpakdlkjaigaaGreatMB1
import Derived.Maps.AppendAt
import Derived.Laws.IdiomStrings
set_option linter.all false
set_option linter.unusedVariables false
set_option linter.unusedSimpArgs false
set_option linter.unusedSectionVars false
/- A symbolic executor for loaded Go code: each step is the machine's: conversions, functions, make, slices, append. -/
namespace Go.Proofs.YtjjpakdlkjaigaaGreat
open Go.RowKit
section
variable {P : Program} {τ : Tys} {w0 : World} {E : Env} {aS : List (Array Value)} {a : Act} {w : World}
variable {s : St} {bs : List (Array Value)} {o : Oper}
variable {fr : List (Nat × SV)} {stk : List (List (Nat × SV))} {bx : List (Nat × (TypeId × List SV))} {rw' : List (Nat × Ent)} {dep : Nat}
theorem bytesOf_eq (xs : List Int) : (⟨(bytesOf xs).toArray⟩ : ByteArray) = strOfNums xs := by
 have : bytesOf xs = xs.map fun n => UInt8.ofNat n.toNat := by
  induction xs with
  | nil => rfl
  | cons x xs ih => simp [bytesOf, ih]
 rw [this]; rfl
theorem toStr_run {F : Nat → Prop} {xs : List Int} {v : Value} {src dst e : TypeId} (hs : P.underlying src = some (.slice e)) (he : P.underlying e = some (.int .u8)) (hd : P.underlying dst = some .string) (h : RowDen w F (.bytes xs) v) :
  (convert src dst v).run P w = .ok (.string ⟨(bytesOf xs).toArray⟩) w := by
 rw [bytesOf_eq]
 obtain ⟨h0, A, c, rfl, hn, h⟩ := h
 simp only [Rw.len] at hn h
 by_cases hp : 0 < xs.length
 · obtain ⟨ad, rfl, hsp, hF, hc⟩ := h hp
   obtain ⟨b, off, sp⟩ := ad
   simp at hsp
   subst hsp
   refine run_convert_bytes_arg w src e hs he b off _ c xs rfl (fun i hi => ?_) dst hd
   obtain ⟨u, hu, hcd⟩ := hc i 0 _ hi rfl
   obtain rfl : u = _ := hcd
   rw [Addr.add_lit] at hu
   simpa [Rw.sz, Rw.kd, kdSz] using hu
 · have : xs = [] := List.eq_nil_of_length_eq_zero (by omega)
   subst this
   cases A with
   | none => exact run_convert_bytes_nil w src e hs he 0 c dst hd
   | some ad =>
     rw [show (Rw.bytes []).len = 0 from rfl]
     have hr := run_convert_bytes_arg w src e hs he ad.block ad.off 0 c [] rfl (fun i hi => by omega) dst hd
     rw [run_convert_bytes_string w src dst e _ 0 c hs he hd, run_bytesToString w ad 0 c [] (by simp [loadCells, loadCellsFrom])]
     rfl
theorem own_read (hd : Den τ w0 E s bs w) {k : Nat} {e : Ent} (hk : lk s.rows k = some e) {v : Value} (hv : vd3 E s.rows w (.own k) v) : RowDen w (fun _ => True) e.row.2 v := by
 simp only [vd3, vd2, vd1, vd0] at hv
 rw [hk] at hv
 cases e with
 | own r => obtain rfl : v = _ := hv; exact (hd.own k _ _ r hk rfl).read (fun _ _ => trivial) fun _ _ _ _ => trivial
 | part lo r => obtain rfl : v = _ := hv; exact (hd.own k _ _ r hk rfl).read (fun _ _ => trivial) fun _ _ _ _ => trivial
 | shared t r => exact RowDen.mono hv fun _ _ _ => ⟨rfl, trivial⟩
theorem conv_ok (hτ : TysOk P τ) (hd : Den τ w0 E ⟨fr, stk, bx, rw', dep⟩ (a.tmps :: aS) w) (src dst : TypeId) (x : Operand) (ho : o.op = .convert src dst x) :
  (evConv τ ⟨fr, stk, bx, rw', dep⟩ src dst (St.get ⟨fr, stk, bx, rw', dep⟩ x)).good (Yld P o a w E rw') := by
 have hx := hd.get x
 refine RV.ok_of (c := convert src dst (a.eval x)) (fun z hz => by simp only [execOp, ho, Sem.run_bind, hz]; rfl) ?_
 unfold evConv
 split
 · rename_i k' hdd
   split
   · rename_i k n k1 hn hsd
     rw [hn] at hx
     obtain hx : a.eval x = .int k n := hx
     obtain ⟨d, hu, hd1⟩ := hτ.td hdd (by simp)
     obtain rfl : d = _ := hd1
     obtain ⟨d2, hu2, hd2⟩ := hτ.td hsd (by simp)
     obtain rfl : d2 = _ := hd2
     rw [hx]
     exact ⟨.int k' (k'.wrap n), by simp [convert, run_underlying hu, run_underlying hu2, Conv.intToInt], rfl⟩
   · trivial
 · rename_i hdd
   obtain ⟨d, hu, hd1⟩ := hτ.td hdd (by simp)
   obtain rfl : d = _ := hd1
   split
   · rename_i hsd
     obtain ⟨d2, hu2, hd2⟩ := hτ.td hsd (by simp)
     obtain rfl : d2 = _ := hd2
     split
     · rename_i b hb
       rw [hb] at hx
       obtain hx : a.eval x = .string b := hx
       rw [hx]
       exact ⟨.string b, by simp [convert, run_underlying hu, run_underlying hu2], rfl⟩
     · trivial
   · rename_i e hsd
     split
     · rename_i hed
       obtain ⟨d3, hu3, hd3⟩ := hτ.td hed (by simp)
       obtain rfl : d3 = _ := hd3
       split
       · rename_i k hxk
         rw [hxk] at hx
         split
         · rename_i e' hk
           split
           · rename_i t xs hrow
             have := own_read hd hk hx
             rw [hrow] at this
             exact ⟨_, toStr_run (hτ.slice hsd) hu3 hu this, rfl⟩
           · trivial
         · trivial
       · rename_i t xs hxr
         rw [hxr] at hx
         exact ⟨_, toStr_run (hτ.slice hsd) hu3 hu hx, rfl⟩
       · trivial
     · trivial
   · trivial
 · trivial
theorem conv_good (hτ : TysOk P τ) (hd : Den τ w0 E ⟨fr, stk, bx, rw', dep⟩ (a.tmps :: aS) w) (hdst : ∀ t, o.dst = some t → t < a.tmps.size) (src dst : TypeId) (x : Operand) (ho : o.op = .convert src dst x) :
  ((evConv τ ⟨fr, stk, bx, rw', dep⟩ src dst (St.get ⟨fr, stk, bx, rw', dep⟩ x)).to o.dst ⟨fr, stk, bx, rw', dep⟩).good (OpGood P τ w0 E aS o a w) :=
 RV.to_good' hd hdst (conv_ok hτ hd src dst x ho)
theorem getN_vd (hd : Den τ w0 E s (a.tmps :: aS) w) : ∀ (xs : List Operand) (Ts : List TypeId), L0 (vd3 E s.rows w) (getN τ s xs Ts) (xs.map a.eval)
 | [], _ => by simpa [getN] using L0.nil
 | x :: xs, T :: Ts => .cons (hd.getT T x) (getN_vd hd xs Ts)
 | x :: xs, [] => .cons (hd.get x) (getN_vd hd xs [])
theorem rawN_vd (hd : Den τ w0 E s (a.tmps :: aS) w) : ∀ (xs : List Operand) (Ts : List TypeId), L0 (vd3 E s.rows w) (rawN τ s xs Ts) (xs.map a.eval)
 | [], _ => by simpa [rawN] using L0.nil
 | x :: xs, T :: Ts => .cons (hd.rawT T x) (rawN_vd hd xs Ts)
 | x :: xs, [] => .cons (hd.raw x) (rawN_vd hd xs [])
theorem allB_mem {p : SV → Bool} {l : List SV} (h : allB p l = true) {x : SV} (hx : x ∈ l) : p x = true := by
 induction l with
 | nil => simp at hx
 | cons y l ih =>
   simp only [allB] at h
   split at h
   · rcases List.mem_cons.1 hx with rfl | hx
     · assumption
     · exact ih h hx
   · simp at h
theorem capOk_vd {x : SV} {u : Value} (h : vd3 E rw' w x u) (ho : capOk x = true) : vd0 E rw' w x u := by
 cases x <;> first | exact h | (simp [capOk] at ho; done)
theorem goOk_mem {l : List SV} (h : firstOk.go l = true) {x : SV} (hx : x ∈ l) : capOk x = true := by
 induction l with
 | nil => simp at hx
 | cons y l ih =>
   simp only [firstOk.go] at h
   split at h
   · rcases List.mem_cons.1 hx with rfl | hx
     · assumption
     · exact ih h hx
   · simp at h
theorem firstOk_vd {x : SV} {u : Value} (h : vd3 E rw' w x u) (ho : firstOk x = true) : vdf E rw' w x u := by
 cases x with
 | agg cs =>
   obtain ⟨us, hv, hl⟩ := h
   exact ⟨us, hv, hl.mono fun y v hy hp => capOk_vd (vd_of_vd1 hp) (goOk_mem ho hy)⟩
 | tup vs => simp [firstOk, capOk] at ho
 | clo f b c => simp [firstOk, capOk] at ho
 | _ => exact h
theorem func_ok (hd : Den τ w0 E ⟨fr, stk, bx, rw', dep⟩ (a.tmps :: aS) w) (fn : Fn) (b c : Array Operand) (ho : o.op = .makeFunc fn b c) :
  (evFunc fn (getN τ ⟨fr, stk, bx, rw', dep⟩ b.toList []) (getN τ ⟨fr, stk, bx, rw', dep⟩ c.toList [])).good (Yld P o a w E rw') := by
 refine RV.ok_of (c := Instr.makeFunc fn (b.map a.eval) (c.map a.eval)) (fun z hz => by simp only [execOp, ho, Sem.run_bind, hz]; rfl) ?_
 unfold evFunc
 split
 rotate_left
 · trivial
 rename_i f
 split
 rotate_left
 · trivial
 rename_i h1 h2
 simp only [forceL_eq]
 refine ⟨_, rfl, b.toList.map a.eval, c.toList.map a.eval, ?_, (getN_vd hd b.toList []).mono fun x u hx hp => firstOk_vd hp (allB_mem h1 hx), (getN_vd hd c.toList []).mono fun x u hx hp => capOk_vd hp (allB_mem h2 hx)⟩
 congr 1 <;> apply Array.ext' <;> simp
theorem func_good (hd : Den τ w0 E ⟨fr, stk, bx, rw', dep⟩ (a.tmps :: aS) w) (hdst : ∀ t, o.dst = some t → t < a.tmps.size) (fn : Fn) (b c : Array Operand) (ho : o.op = .makeFunc fn b c) :
  ((evFunc fn (getN τ ⟨fr, stk, bx, rw', dep⟩ b.toList []) (getN τ ⟨fr, stk, bx, rw', dep⟩ c.toList [])).to o.dst ⟨fr, stk, bx, rw', dep⟩).good (OpGood P τ w0 E aS o a w) :=
 RV.to_good' hd hdst (func_ok hd fn b c ho)
theorem lenOf_ok (hd : Den τ w0 E s bs w) {x : SV} {v : Value} {n : Nat} (hx : vd3 E s.rows w x v) (h : lenOf s.rows x = some n) : (∃ b, v = .string b ∧ n = b.size ∧ x = .str b) ∨ ∃ A c, v = .slice A n c ∧ n ≤ c ∧ ∀ b, x ≠ .str b := by
 unfold lenOf at h
 simp only [Rw.lenK_eq] at h
 split at h
 · injection h with h
   subst h
   exact .inl ⟨_, hx, rfl, rfl⟩
 · injection h with h
   subst h
   obtain ⟨_, A, c, hv, hn, _⟩ := hx
   exact .inr ⟨A, c, hv, hn, by simp⟩
 · injection h with h
   subst h
   obtain ⟨hv, _⟩ := hx
   exact .inr ⟨none, 0, hv, by omega, by simp⟩
 · injection h with h
   subst h
   obtain ⟨A, c, hv, hn, _, A', c', hv', hc, _⟩ := hx
   injection hv' with _ _ hv'
   subst hv'
   exact .inr ⟨A, c, hv, by omega, by simp⟩
 · split at h
   · rename_i k e hk
     injection h with h
     subst h
     obtain ⟨_, A, c, hv, hn, _⟩ := own_read hd hk hx
     exact .inr ⟨A, c, hv, hn, by simp⟩
   · simp at h
 · simp at h
theorem len_ok (hτ : TysOk P τ) (hd : Den τ w0 E ⟨fr, stk, bx, rw', dep⟩ (a.tmps :: aS) w) (c : Call) (x : Operand) (T : TypeId) (ho : o.op = .call c) (hb : c.callee = .builtin .len) (hx : c.args.toList = [x]) (hT : c.argTypes.toList = [T])
  {n : Nat} (hn : lenOf rw' (St.get ⟨fr, stk, bx, rw', dep⟩ x) = some n) (htd : (τ.td T = .str ∧ ∃ b, St.get ⟨fr, stk, bx, rw', dep⟩ x = .str b) ∨ ((∃ e, τ.td T = .slice e) ∧ ∀ b, St.get ⟨fr, stk, bx, rw', dep⟩ x ≠ .str b)) :
  Yld P o a w E rw' (.int .i64 n) := by
 have hargs : c.args = #[x] := by rw [← Array.toArray_toList (xs := c.args), hx]
 have hts : c.argTypes = #[T] := by rw [← Array.toArray_toList (xs := c.argTypes), hT]
 refine ⟨.int .i64 n, ?_, rfl⟩
 have hl := lenOf_ok hd (hd.get x) hn
 simp only [execOp, ho, resolve, hb, hargs, hts, invoke, builtin, Sem.run_bind, Sem.run_pure, Result.andThen_ok]
 rcases hl with ⟨b, hv, hnb, hxb⟩ | ⟨A, c', hv, _, hne⟩
 · rcases htd with ⟨h1, _⟩ | ⟨_, h2⟩
   · obtain ⟨d, hu, hd1⟩ := hτ.td h1 (by simp)
     obtain rfl : d = _ := hd1
     simp [hv, Builtin.len_, run_underlying hu, goInt, hnb]
   · exact absurd hxb (h2 b)
 · rcases htd with ⟨_, b, h2⟩ | ⟨⟨e, h1⟩, _⟩
   · exact absurd h2 (hne b)
   · have hu := hτ.slice h1
     simp [hv, Builtin.len_, run_underlying hu, goInt]
theorem len_good (hτ : TysOk P τ) (hd : Den τ w0 E ⟨fr, stk, bx, rw', dep⟩ (a.tmps :: aS) w) (hdst : ∀ t, o.dst = some t → t < a.tmps.size) (c : Call) (x : Operand) (T : TypeId) (ho : o.op = .call c) (hb : c.callee = .builtin .len) (hx : c.args.toList = [x]) (hT : c.argTypes.toList = [T])
  {n : Nat} (hn : lenOf rw' (St.get ⟨fr, stk, bx, rw', dep⟩ x) = some n) (htd : (τ.td T = .str ∧ ∃ b, St.get ⟨fr, stk, bx, rw', dep⟩ x = .str b) ∨ ((∃ e, τ.td T = .slice e) ∧ ∀ b, St.get ⟨fr, stk, bx, rw', dep⟩ x ≠ .str b)) :
  OpGood P τ w0 E aS o a w (putv o.dst (.int .i64 n) ⟨fr, stk, bx, rw', dep⟩) := by
 obtain ⟨z, hz, hv⟩ := len_ok hτ hd c x T ho hb hx hT hn htd
 exact opGood_value hz (hd.put hv hdst) rfl rfl
theorem min_ok (hd : Den τ w0 E ⟨fr, stk, bx, rw', dep⟩ (a.tmps :: aS) w) (c : Call) (x y : Operand) (op : Builtin) (hop : op = .min ∨ op = .max) (ho : o.op = .call c) (hb : c.callee = .builtin op) (hx : c.args.toList = [x, y]) :
  (evMin op (St.get ⟨fr, stk, bx, rw', dep⟩ x) (St.get ⟨fr, stk, bx, rw', dep⟩ y)).good (Yld P o a w E rw') := by
 have hargs : c.args = #[x, y] := by rw [← Array.toArray_toList (xs := c.args), hx]
 have h1 := hd.get x
 have h2 := hd.get y
 unfold evMin
 split
 · rename_i k p k' q hp hq
   rw [hp] at h1
   rw [hq] at h2
   obtain h1 : a.eval x = _ := h1
   obtain h2 : a.eval y = _ := h2
   refine ⟨_, ?_, rfl⟩
   simp only [execOp, ho, resolve, hb, hargs, invoke, builtin, Sem.run_bind, Sem.run_pure, Result.andThen_ok]
   simp [h1, h2, run_min_int2]
 · rename_i k p k' q hp hq
   rw [hp] at h1
   rw [hq] at h2
   obtain h1 : a.eval x = _ := h1
   obtain h2 : a.eval y = _ := h2
   refine ⟨_, ?_, rfl⟩
   simp only [execOp, ho, resolve, hb, hargs, invoke, builtin, Sem.run_bind, Sem.run_pure, Result.andThen_ok]
   simp [h1, h2, run_max_int2]
 · trivial
theorem min_good (hd : Den τ w0 E ⟨fr, stk, bx, rw', dep⟩ (a.tmps :: aS) w) (hdst : ∀ t, o.dst = some t → t < a.tmps.size) (c : Call) (x y : Operand) (op : Builtin) (hop : op = .min ∨ op = .max) (ho : o.op = .call c) (hb : c.callee = .builtin op) (hx : c.args.toList = [x, y]) :
  ((evMin op (St.get ⟨fr, stk, bx, rw', dep⟩ x) (St.get ⟨fr, stk, bx, rw', dep⟩ y)).to o.dst ⟨fr, stk, bx, rw', dep⟩).good (OpGood P τ w0 E aS o a w) :=
 RV.to_good' hd hdst (min_ok hd c x y op hop ho hb hx)
end
end Go.Proofs.YtjjpakdlkjaigaaGreat

/- A symbolic executor for loaded Go code: each step is the machine's: make, slices, append. -/
namespace Go.Proofs.YtjjpakdlkjaigaaGreat
open Go.RowKit
set_option maxRecDepth 20000
section
variable {P : Program} {τ : Tys} {w0 : World} {E : Env} {aS : List (Array Value)} {a : Act} {w : World}
variable {s : St} {bs : List (Array Value)} {o : Oper}
variable {fr : List (Nat × SV)} {stk : List (List (Nat × SV))} {bx : List (Nat × (TypeId × List SV))} {rw' : List (Nat × Ent)} {dep : Nat}
theorem bounds_run (b : Bool) (n cap : Nat) (lo hi : Option Value) (l h : Int) (hl : (lo = none ∧ l = 0) ∨ ∃ k, lo = some (.int k l)) (hh : (hi = none ∧ h = n) ∨ ∃ k, hi = some (.int k h)) (h0 : 0 ≤ l) (h1 : l ≤ h) (h2 : h ≤ n) (h3 : n ≤ cap) :
  (Instr.sliceBounds b n cap lo hi none).run P w = .ok (l.toNat, h.toNat, cap) w := by
 have ehn : (h.toNat : Int) = h := Int.toNat_of_nonneg (by omega)
 have h4 : 0 ≤ h := by omega
 have h5 : h ≤ cap := by omega
 rcases hl with ⟨rfl, rfl⟩ | ⟨k, rfl⟩ <;> rcases hh with ⟨rfl, rfl⟩ | ⟨k', rfl⟩ <;>
  simp [Instr.sliceBounds, Instr.sliceBound, asIntOf, h0, ehn, h1, h4, h5]
theorem bound_ok (hd : Den τ w0 E s (a.tmps :: aS) w) {d : Int} {x : Option Operand} {n : Int} (h : bound τ s d x = some n) : (x.map a.eval = none ∧ n = d) ∨ ∃ k, x.map a.eval = some (.int k n) := by
 unfold bound at h
 split at h
 · injection h with h; exact .inl ⟨rfl, h.symm⟩
 · rename_i y
   split at h
   · rename_i k m hm
     injection h with h
     subst h
     have := hd.get y
     rw [hm] at this
     exact .inr ⟨k, congrArg some this⟩
   · simp at h
theorem sub_den {F : Nat → Prop} {r : Rw} {v : Value} (hv : RowDen w F r v) (l h : Nat) (hl : l ≤ h) (hh : h ≤ r.len) : ∃ A c, v = .slice A r.len c ∧ r.len ≤ c ∧
  RowDen w F (r.sub l h) (.slice (if c = l then A else A.map (·.add (l * r.sz))) (h - l) (c - l)) := by
 obtain ⟨hkd, hlen, hcell⟩ := sub_cell l h r hl hh
 obtain ⟨h0, A, c, rfl, hn, hc⟩ := hv
 have hsz : (r.sub l h).sz = r.sz := Rw.sz_of_kd hkd
 refine ⟨A, c, rfl, hn, ?_, _, c - l, by rw [hlen], by rw [hlen]; omega, fun hp => ?_⟩
 · have : (r.sub l h).bts = r.bts := by unfold Rw.bts; rw [hkd]
   rw [this, hlen]
   exact Nat.le_trans (Nat.mul_le_mul_right _ (by omega)) h0
 · rw [hlen] at hp
   obtain ⟨ad, rfl, hs, hF, hcd⟩ := hc (by omega)
   have hne : c ≠ l := by omega
   have hb : (ad.add (l * r.sz)).block = ad.block := by unfold Addr.add; split <;> rfl
   refine ⟨ad.add (l * r.sz), by simp [hne], ?_, by rw [hb]; exact hF, fun i j x hi hx => ?_⟩
   · unfold Addr.add; split <;> simp [hs]
   · rw [hlen] at hi
     rw [hcell _ i hi] at hx
     obtain ⟨u, hu, hd⟩ := hcd (l + i) j x (by omega) hx
     refine ⟨u, ?_, hd⟩
     rw [add_add hs, hsz]
     rw [show l * r.sz + (i * r.sz + j) = (l + i) * r.sz + j by rw [Nat.add_mul]; omega]
     exact hu
theorem slice_run (hτ : TysOk P τ) {T e : TypeId} (htd : τ.td T = .slice e) {sz : Nat} (hsz : (sizeOf e).run P w = .ok sz w) {A : Option Addr} {n c : Nat} {lo hi : Option Value} {l h : Int}
  (hl : (lo = none ∧ l = 0) ∨ ∃ k, lo = some (.int k l)) (hh : (hi = none ∧ h = n) ∨ ∃ k, hi = some (.int k h)) (h0 : 0 ≤ l) (h1 : l ≤ h) (h2 : h ≤ n) (h3 : n ≤ c) :
  (Instr.sliceAt T (.slice A n c) lo hi none).run P w = .ok (.slice (if c = l.toNat then A else A.map (·.add (l.toNat * sz))) (h.toNat - l.toNat) (c - l.toNat)) w := by
 have hs := hτ.slice htd
 have hb := bounds_run (P := P) (w := w) true n c lo hi l h hl hh h0 h1 h2 h3
 simp [Instr.sliceAt, Instr.slice, run_underlying hs, hb, hsz]
theorem size_of_beq (hτ : TysOk P τ) {e : TypeId} {r : Rw} (h : Nat.beq (τ.sz e) r.sz = true) : (sizeOf e).run P w = .ok r.sz w := by
 have hsz' : τ.sz e = r.sz := Nat.eq_of_beq_eq_true h
 cases hc : τ.ti e with
 | none => have := sz_pos r; simp [Tys.sz, hc] at hsz'; omega
 | some i => rw [← hsz']; exact hτ.szOf hc w
theorem slice_run2 (hτ : TysOk P τ) {T e : TypeId} (htd : τ.td T = .slice e) {sz : Nat} (hsz : (sizeOf e).run P w = .ok sz w) {A : Option Addr} {n c : Nat} {lo hi : Option Value} {l h : Int}
  (hl : (lo = none ∧ l = 0) ∨ ∃ k, lo = some (.int k l)) (hh : (hi = none ∧ h = n) ∨ ∃ k, hi = some (.int k h)) (h0 : 0 ≤ l) (h1 : l ≤ h) (h2 : h ≤ c) :
  (Instr.sliceAt T (.slice A n c) lo hi none).run P w = .ok (.slice (if c = l.toNat then A else A.map (·.add (l.toNat * sz))) (h.toNat - l.toNat) (c - l.toNat)) w := by
 have hs := hτ.slice htd
 have hb : (Instr.sliceBounds true n c lo hi none).run P w = .ok (l.toNat, h.toNat, c) w := by
  have ehn : (h.toNat : Int) = h := Int.toNat_of_nonneg (by omega)
  have h4 : 0 ≤ h := by omega
  have h5 : h ≤ c := by omega
  rcases hl with ⟨rfl, rfl⟩ | ⟨k, rfl⟩ <;> rcases hh with ⟨rfl, rfl⟩ | ⟨k', rfl⟩ <;>
   simp [Instr.sliceBounds, Instr.sliceBound, asIntOf, h0, ehn, h1, h4, h5, h2]
 simp [Instr.sliceAt, Instr.slice, run_underlying hs, hb, hsz]
theorem pre_len {R : List (Nat × Ent)} {k n : Nat} {t : Tag} {r : Rw} (hn : lenOf R (.own k) = some n) (hR : lk (demote1 R k) k = some (.shared t r)) : n = r.len := by
 simp only [lenOf] at hn
 cases hk0 : lk R k with
 | none => rw [hk0] at hn; simp at hn
 | some e0 =>
   rw [hk0] at hn
   simp only [Rw.lenK_eq] at hn
   injection hn with hn
   simp only [demote1, hk0, lk_upd, if_true] at hR
   injection hR with hR
   injection hR with _ hR
   rw [← hR]
   exact hn.symm
theorem slice_good (hτ : TysOk P τ) (hd : Den τ w0 E ⟨fr, stk, bx, rw', dep⟩ (a.tmps :: aS) w) (hdst : ∀ t, o.dst = some t → t < a.tmps.size) (T : TypeId) (x : Operand) (lo hi mx : Option Operand) (ho : o.op = .slice T x lo hi mx) :
  (stepSlice τ T x lo hi mx o.dst ⟨fr, stk, bx, rw', dep⟩).good (OpGood P τ w0 E aS o a w) := by
 unfold stepSlice
 split
 · trivial
 simp only [SV.force_eq]
 have hx := hd.raw x
 split
 rotate_left
 · trivial
 rename_i n hn
 split
 rotate_left
 · trivial
 rename_i l h hl hh
 have hlo := bound_ok hd hl
 have hhi := bound_ok hd hh
 split
 · -- a string
   rename_i b htd hb
   rw [hb] at hx hn
   obtain hx : a.eval x = .string b := hx
   injection hn with hn
   intro hp
   obtain ⟨d, hu, hd1⟩ := hτ.td htd (by simp)
   obtain rfl : d = _ := hd1
   have hbr := bounds_run (P := P) (w := w) false b.size b.size (lo.map a.eval) (hi.map a.eval) l h hlo (by rw [hn]; exact hhi) hp.1 hp.2.1 (by rw [hn]; exact hp.2.2) (Nat.le_refl _)
   refine opGood_value (v := .string (b.extract l.toNat h.toNat)) (w' := w) ?_ (hd.put rfl hdst) rfl rfl
   simp only [execOp, ho, Option.map_none, hx, Instr.sliceAt, Instr.slice, Sem.run_bind, run_underlying hu, Result.andThen_ok, Option.isSome_none, Bool.false_eq_true, if_false, hbr, Sem.run_pure]
 · -- a row
   rename_i e t r htd hr
   rw [hr] at hx hn
   simp only [lenOf, Rw.lenK_eq] at hn
   injection hn with hn
   subst hn
   split
   rotate_left
   · trivial
   rename_i hsz
   intro hp
   obtain ⟨A, c, hv, hc, hden⟩ := sub_den (show RowDen w (E.F w t) r (a.eval x) from hx) l.toNat h.toNat (by omega) (by omega)
   refine opGood_value (w' := w) ?_ (hd.put (show vd3 E rw' w (.row t (r.sub l.toNat h.toNat)) _ from hden) hdst) rfl rfl
   simp only [execOp, ho, Option.map_none, hv, Sem.run_bind, slice_run hτ htd (size_of_beq hτ hsz) hlo hhi hp.1 hp.2.1 hp.2.2 hc, Result.andThen_ok]
   rfl
 · -- a row with room behind it
   rename_i e t r m htd hr
   rw [hr] at hx hn
   simp only [lenOf] at hn
   injection hn with hn
   subst hn
   obtain ⟨A, c, hv, hmr, hx⟩ := hx
   split
   rotate_left
   · trivial
   rename_i hsz
   intro hp
   obtain ⟨A', c', hv', hc', hden⟩ := sub_den hx l.toNat h.toNat (by omega) (by omega)
   injection hv' with h1 h2 h3
   subst h1
   subst h3
   have hhc : h ≤ (c : Int) := by omega
   refine opGood_value (w' := w) ?_ (hd.put (show vd3 E rw' w (.row t (r.sub l.toNat h.toNat)) _ from hden) hdst) rfl rfl
   simp only [execOp, ho, Option.map_none, hv, Sem.run_bind, slice_run2 hτ htd (size_of_beq hτ hsz) hlo hhi hp.1 hp.2.1 hhc, Result.andThen_ok]
   rfl
 · -- an own row
   rename_i e k htd hk
   rw [hk] at hx hn
   obtain ⟨E', g1, g2, g3, g4, hkp, hs, h7, hd1⟩ := hd.demote k
   have hx' : vd3 E' (demote1 rw' k) w (.own k) (a.eval x) := vd3.keeps hkp ⟨fun j _ => ⟨by rw [g4], h7 j⟩, fun j _ => by rw [g3]⟩ hx
   split
   rotate_left
   · trivial
   rename_i t r hR
   simp only [vd3, vd2, vd1, vd0] at hx'
   rw [hR] at hx'
   split
   rotate_left
   · trivial
   rename_i hsz
   have hgo : RS.good (.ob (0 ≤ l ∧ l ≤ h ∧ h ≤ n) (putv o.dst (.row t (r.sub l.toNat h.toNat)) ⟨fr, stk, bx, demote1 rw' k, dep⟩)) (OpGood P τ w0 E aS o a w) := by
    intro hp
    obtain ⟨A, c, hv, hc, hden⟩ := sub_den (show RowDen w (E'.F w t) r (a.eval x) from hx') l.toNat h.toNat (by omega) (by
     -- the length is the entry's
     have hnr : n = r.len := by
      simp only [lenOf] at hn
      cases hk0 : lk rw' k with
      | none => rw [hk0] at hn; simp at hn
      | some e0 =>
        rw [hk0] at hn
        simp only [Rw.lenK_eq] at hn
        injection hn with hn
        simp only [demote1, hk0, lk_upd, if_true] at hR
        injection hR with hR
        injection hR with _ hR
        rw [← hR]
        exact hn.symm
     omega)
    have hnr : n = r.len := by
     simp only [lenOf] at hn
     cases hk0 : lk rw' k with
     | none => rw [hk0] at hn; simp at hn
     | some e0 =>
       rw [hk0] at hn
       simp only [Rw.lenK_eq] at hn
       injection hn with hn
       simp only [demote1, hk0, lk_upd, if_true] at hR
       injection hR with hR
       injection hR with _ hR
       rw [← hR]
       exact hn.symm
    subst hnr
    refine opGood_value (w' := w) ?_ (hd1.put (show vd3 E' (demote1 rw' k) w (.row t (r.sub l.toNat h.toNat)) _ from hden) hdst) g1 g2
    simp only [execOp, ho, Option.map_none, hv, Sem.run_bind, slice_run hτ htd (size_of_beq hτ hsz) hlo hhi hp.1 hp.2.1 hp.2.2 hc, Result.andThen_ok]
    rfl
   split
   · rename_i hd0 tl hstk
     intro hp
     have hl0 : l = 0 := by simp only [bound] at hl; injection hl with hl; exact hl.symm
     subst hl0
     have hx2 : RowDen w (E'.F w t) r (a.eval x) := hx'
     obtain ⟨A, c, hv, hc, hden⟩ := sub_den hx2 0 h.toNat (by omega) (by rw [← pre_len hn hR]; omega)
     have hnr := pre_len hn hR
     subst hnr
     have hA : (if c = 0 then A else A.map (·.add (0 * r.sz))) = A := by
      split
      · rfl
      · rw [Nat.zero_mul]
        cases A <;> simp [Addr.add]
     refine opGood_value (w' := w) ?_ (hd1.put (show vd3 E' (demote1 rw' k) w (.pre t r h.toNat) (.slice A h.toNat c) from ⟨A, c, rfl, by omega, by rw [← hv]; exact hx2⟩) hdst) g1 g2
     have hlo2 : ((none : Option Value) = none ∧ (0 : Int) = 0) ∨ ∃ k, (none : Option Value) = some (.int k 0) := .inl ⟨rfl, rfl⟩
     simp only [execOp, ho, Option.map_none, hv, Sem.run_bind, slice_run hτ htd (size_of_beq hτ hsz) hlo2 hhi hp.1 hp.2.1 hp.2.2 hc, Result.andThen_ok]
     have e2 : h.toNat - (0 : Int).toNat = h.toNat := rfl
     have e3 : c - (0 : Int).toNat = c := rfl
     have e4 : (if c = (0 : Int).toNat then A else A.map (·.add ((0 : Int).toNat * r.sz))) = A := hA
     rw [e2, e3, e4]
     rfl
   · exact hgo
 · trivial
theorem src_ok (hd : Den τ w0 E s bs w) {x : SV} {v : Value} {t : Tag} {r : Rw} (hx : vd3 E s.rows w x v) (h : srcOf s.rows x = some (t, r)) :
  ∃ A c news, v = .slice A r.len c ∧ r.len ≤ c ∧ r.len * r.bts ≤ 140737488355328 ∧ (news : List Value).length = r.len * r.sz ∧ (0 < r.len → ∃ ad, A = some ad ∧ ∀ (j : Nat) u, news[j]? = some u → w.cell? (ad.add j) = some u) ∧
   ∀ i j x, i < r.len → (r.cell .any i)[j]? = some x → ∃ u, news[i * r.sz + j]? = some u ∧ cd1 w (E.F w t) x u := by
 have rowCase : ∀ v, RowDen w (E.F w t) r v → ∃ A c news, v = .slice A r.len c ∧ r.len ≤ c ∧ r.len * r.bts ≤ 140737488355328 ∧ (news : List Value).length = r.len * r.sz ∧ (0 < r.len → ∃ ad, A = some ad ∧ ∀ (j : Nat) u, news[j]? = some u → w.cell? (ad.add j) = some u) ∧
   ∀ i j x, i < r.len → (r.cell .any i)[j]? = some x → ∃ u, news[i * r.sz + j]? = some u ∧ cd1 w (E.F w t) x u := by
  rintro v ⟨h0, A, c, hv, hn, hc⟩
  by_cases hp : 0 < r.len
  · obtain ⟨ad, hA, hs, hF, hcd⟩ := hc hp
    have hsp := sz_pos r
    obtain ⟨news, hl, hnews⟩ := exists_list (p := fun (_ : Nat) (j : Nat) u => w.cell? (ad.add j) = some u ∧ ∀ y, (r.cell .any (j / r.sz))[j % r.sz]? = some y → cd1 w (E.F w t) y u) (List.range (r.len * r.sz)) fun j x hj => by
     have hjx : x < r.len * r.sz := by
      have := List.mem_of_getElem? hj
      simpa using this
     have h1 : x / r.sz < r.len := Nat.div_lt_of_lt_mul (by rw [Nat.mul_comm]; exact hjx)
     have h2 : x % r.sz < (r.cell .any (x / r.sz)).length := by rw [cell_len]; exact Nat.mod_lt _ hsp
     obtain ⟨u, hu, hd⟩ := hcd (x / r.sz) (x % r.sz) _ h1 (List.getElem?_eq_getElem h2)
     rw [show x / r.sz * r.sz + x % r.sz = x by rw [Nat.mul_comm]; exact Nat.div_add_mod x r.sz] at hu
     refine ⟨u, hu, fun y hy => ?_⟩
     rw [List.getElem?_eq_getElem h2] at hy
     injection hy with hy
     rw [← hy]
     exact hd
    have hll : news.length = r.len * r.sz := by rw [← hl]; simp
    refine ⟨A, c, news, hv, hn, h0, hll, fun _ => ⟨ad, hA, fun j u hu => ?_⟩, fun i j x hi hx => ?_⟩
    · have hj : j < r.len * r.sz := by rw [← hll]; exact (List.getElem?_eq_some_iff.1 hu).1
      obtain ⟨u', hu', h1, _⟩ := hnews j j (by simp [hj])
      rw [hu] at hu'
      injection hu' with hu'
      rw [hu']
      exact h1
    · have hj : j < r.sz := by
       have := (List.getElem?_eq_some_iff.1 hx).1
       rwa [cell_len] at this
      have hlt : i * r.sz + j < r.len * r.sz := by
       have : (i + 1) * r.sz ≤ r.len * r.sz := Nat.mul_le_mul_right _ hi
       rw [Nat.succ_mul] at this
       omega
      obtain ⟨u, hu, _, h2⟩ := hnews (i * r.sz + j) (i * r.sz + j) (by simp [hlt])
      have hdiv : (i * r.sz + j) / r.sz = i := by
       rw [Nat.mul_comm, Nat.mul_add_div hsp, Nat.div_eq_of_lt hj]
       omega
      have hmod : (i * r.sz + j) % r.sz = j := by rw [Nat.mul_comm, Nat.mul_add_mod, Nat.mod_eq_of_lt hj]
      exact ⟨u, hu, h2 x (by rw [hdiv, hmod]; exact hx)⟩
  · have : r.len = 0 := by omega
    exact ⟨A, c, [], hv, hn, h0, by simp [this], fun h => absurd h hp, fun i j x hi => by omega⟩
 have ownCase : ∀ k lo, OwnD τ E w k lo r → (t = .any ∨ (t = .new ∧ (r.len ≤ lo ∨ r.flat = true))) → ∃ A c news, E.hs k = .slice A r.len c ∧ r.len ≤ c ∧ r.len * r.bts ≤ 140737488355328 ∧ (news : List Value).length = r.len * r.sz ∧ (0 < r.len → ∃ ad, A = some ad ∧ ∀ (j : Nat) u, news[j]? = some u → w.cell? (ad.add j) = some u) ∧
   ∀ i j x, i < r.len → (r.cell .any i)[j]? = some x → ∃ u, news[i * r.sz + j]? = some u ∧ cd1 w (E.F w t) x u := by
  intro k lo hO ht
  obtain ⟨us, hrow, hcell⟩ := hO.row
  have hcd : ∀ i j x, i < r.len → (r.cell .any i)[j]? = some x → ∃ u, us[i * r.sz + j]? = some u ∧ cd1 w (E.F w t) x u := by
   intro i j x hi hx
   obtain ⟨u, hu, hd⟩ := hcell i j x hi hx
   refine ⟨u, hu, ?_⟩
   rcases ht with rfl | ⟨rfl, ht | ht⟩
   · exact cd1.any hd
   · rw [if_pos (by omega)] at hd; exact hd
   · exact (flat_sc ht hx _ _ _ _ u).1 hd
  rcases hrow.2 with ⟨hv, h0⟩ | ⟨g, cap, cur, hv, hg, hheap, hnc, _⟩
  · exact ⟨none, 0, us, by rw [hv, h0], by omega, hO.fits, hrow.1, fun h => by omega, hcd⟩
  · exact ⟨some ⟨g, 0, none⟩, cap, us, hv, hnc, hO.fits, hrow.1, fun _ => ⟨_, rfl, hrow.cells (g := g) (by rw [hv]; rfl)⟩, hcd⟩
 unfold srcOf at h
 split at h
 · injection h with h
   simp only [Prod.mk.injEq] at h
   obtain ⟨rfl, rfl⟩ := h
   exact rowCase v hx
 · injection h with h
   simp only [Prod.mk.injEq] at h
   obtain ⟨rfl, rfl⟩ := h
   obtain ⟨rfl, h0⟩ := hx
   exact rowCase _ (empty_row h0 _)
 · rename_i k
   split at h
   rotate_left
   · simp at h
   rename_i e hk
   injection h with h
   simp only [vd3, vd2, vd1, vd0] at hx
   rw [hk] at hx
   cases e with
   | own r' =>
     simp only [Ent.row, Prod.mk.injEq] at h
     obtain ⟨rfl, rfl⟩ := h
     obtain rfl : v = _ := hx
     exact ownCase k _ (hd.own k _ _ r' hk rfl) (.inr ⟨rfl, .inl (Nat.le_refl _)⟩)
   | part lo r' =>
     obtain rfl : v = _ := hx
     simp only [Ent.row, Prod.mk.injEq] at h
     obtain ⟨h1, rfl⟩ := h
     refine ownCase k lo (hd.own k _ _ r' hk rfl) ?_
     split at h1
     · rename_i hf; exact .inr ⟨h1.symm, .inr hf⟩
     · exact .inl h1.symm
   | shared t' r' =>
     simp only [Ent.row, Prod.mk.injEq] at h
     obtain ⟨rfl, rfl⟩ := h
     exact rowCase v hx
 · simp at h
theorem run_append_zero {T e : TypeId} (ht : P.underlying T = some (.slice e)) {i : TypeInfo} (hi : P.info? e = some i) (ty : TypeId) {base : Nat} {size n : Nat} {v : Value} {xs : List Value} (hown : w.ownsRow base e size v n xs) (A : Option Addr) (c : Nat) :
  (Builtin.append_ #[T, T] ty #[v, .slice A 0 c]).run P w = .ok v w := by
 have hf : (Builtin.firstCells i.size 0 (.slice A 0 c)).run P w = .ok #[] w := by cases A <;> simp [Builtin.firstCells, loadCells, loadCellsFrom]
 rcases hown.2 with ⟨rfl, rfl⟩ | ⟨g, cap, cur, rfl, _, _, hnc, _⟩
 · simp [Builtin.append_, run_underlying ht, sizeOf, typeInfo, hi, Builtin.lenOf, hf]
 · simp [Builtin.append_, run_underlying ht, sizeOf, typeInfo, hi, Builtin.lenOf, hf, hnc, storeCells]
theorem append_run (hτ : TysOk P τ) (hd : Den τ w0 E s bs w) {T e : TypeId} (htd : τ.td T = .slice e) {kd : Nat} (hrk : τ.rk e = some kd) (ty : TypeId) {r1 r2 r : Rw} (h1 : r1.kd = kd) (h2 : r2.kd = kd) (happ : r1.app r2 = some r)
  {v : Value} {us : List Value} (hown : w.ownsRow E.M (τ.et r1.kd) r1.sz v r1.len us) {y : SV} {vy : Value} (hy : vd3 E s.rows w y vy) {t : Tag} (hsrc : srcOf s.rows y = some (t, r2)) (hbytes : (r1.len + r2.len) * r2.bts ≤ 140737488355328) :
  ∃ v' w' us', (Builtin.append_ #[T, T] ty #[v, vy]).run P w = .ok v' w' ∧ w'.ownsRow E.M (τ.et r.kd) r.sz v' r.len us' ∧ w.grownBy w' v.ownBlock ∧ (v'.ownBlock = v.ownBlock ∨ v'.ownBlock = some w.heap.size) ∧
   (∀ i j, i < r1.len → j < r1.sz → us'[i * r.sz + j]? = us[i * r1.sz + j]?) ∧
   ∀ i j x, i < r2.len → (r2.cell .any i)[j]? = some x → ∃ u, us'[(r1.len + i) * r.sz + j]? = some u ∧ cd1 w (E.F w t) x u := by
 obtain ⟨hk10, het, ti, hti, hsz, hby, _⟩ := hτ.rk e kd hrk
 obtain ⟨x, z, g1, g2, g3, g4, g5, g6⟩ := (hτ.ti e ti hti).info
 have hs := hτ.slice htd
 obtain ⟨hkd1, hkd2, hlen, hc1, hc2⟩ := app_cell happ
 have e1 : r1.sz = kdSz kd := by unfold Rw.sz; rw [h1]
 have e2 : r2.sz = kdSz kd := by unfold Rw.sz; rw [h2]
 have e3 : r.sz = kdSz kd := by unfold Rw.sz; rw [hkd1, h1]
 have e4 : r.kd = kd := by rw [hkd1, h1]
 have e5 : r2.bts = kdBytes kd := by unfold Rw.bts; rw [h2]
 obtain ⟨A, c, news, rfl, hnc, hfit, hnl, hcell, hcd⟩ := src_ok hd hy hsrc
 have hone : ∀ u ∈ news, u.oneCell' = true := by
  intro u hu
  obtain ⟨m, hm, rfl⟩ := List.getElem_of_mem hu
  have hsp := sz_pos r2
  have hm' : m < r2.len * r2.sz := by rw [← hnl]; exact hm
  have hi : m / r2.sz < r2.len := Nat.div_lt_of_lt_mul (by rw [Nat.mul_comm]; exact hm')
  have hj : m % r2.sz < (r2.cell .any (m / r2.sz)).length := by rw [cell_len]; exact Nat.mod_lt _ hsp
  obtain ⟨u, hu, hd⟩ := hcd _ _ _ hi (List.getElem?_eq_getElem hj)
  rw [show m / r2.sz * r2.sz + m % r2.sz = m by rw [Nat.mul_comm]; exact Nat.div_add_mod m r2.sz, List.getElem?_eq_getElem hm] at hu
  injection hu with hu
  rw [hu]
  generalize (r2.cell .any (m / r2.sz))[m % r2.sz] = q at hd
  cases q <;> first
   | exact hd.elim
   | (obtain rfl : u = _ := hd; rfl)
   | (obtain ⟨_, A, c, rfl, _⟩ := hd; rfl)
 have hcells : ∀ us0 : List Value, us0.length = r1.len * r1.sz → (∀ i j, i < r1.len → j < r1.sz → (us0 ++ news)[i * r.sz + j]? = us0[i * r1.sz + j]?) ∧ ∀ i j x, i < r2.len → (r2.cell .any i)[j]? = some x → ∃ u, (us0 ++ news)[(r1.len + i) * r.sz + j]? = some u ∧ cd1 w (E.F w t) x u := by
  intro us0 hul
  refine ⟨fun i j hi hj => ?_, fun i j x hi hx => ?_⟩
  · rw [e3, e1]
    have : (i + 1) * kdSz kd ≤ r1.len * kdSz kd := Nat.mul_le_mul_right _ hi
    rw [Nat.succ_mul] at this
    rw [e1] at hj hul
    rw [List.getElem?_append_left (by omega)]
  · obtain ⟨u, hu, hd⟩ := hcd i j x hi hx
    refine ⟨u, ?_, hd⟩
    rw [e1] at hul
    rw [e3, Nat.add_mul, List.getElem?_append_right (by omega)]
    rw [show r1.len * kdSz kd + i * kdSz kd + j - us0.length = i * kdSz kd + j by omega, ← e2]
    exact hu
 by_cases hp : 0 < r2.len
 · obtain ⟨ad, rfl, hnews⟩ := hcell hp
   have h63 : r1.len + r2.len ≤ maxLen := by
    have hb : 1 ≤ r2.bts := by rw [e5]; unfold kdBytes; split <;> omega
    have : (r1.len + r2.len) * 1 ≤ (r1.len + r2.len) * r2.bts := Nat.mul_le_mul_left _ hb
    unfold maxLen
    omega
   obtain ⟨v', w', hr, ho, hg, _, hat⟩ := run_append_own_at (P := P) w E.M T ty e x z r1.sz r2.bts hs g1 g4 (by rw [g2, hsz, e1]) (by rw [g3, hby, e5]) (by rw [g5, hsz, e1]) (sz_pos r1) v r1.len us
    (by rw [← het, ← h1]; exact hown) ad r2.len c news (by rw [hnl, e1, e2]) hnews hone h63 hbytes hd.Mh
   have hc := hcells us hown.1
   exact ⟨v', w', us ++ news, hr, by rw [e4, het, e3, ← e1, hlen]; exact ho, hg, hat, hc.1, hc.2⟩
 · have h0 : r2.len = 0 := by omega
   have hr := run_append_zero (P := P) (w := w) hs g1 ty (by rw [← het, ← h1]; exact hown) A c
   refine ⟨v, w, us, by rw [h0]; exact hr, by rw [e4, e3, ← e1, hlen, h0, ← h1]; exact hown, ⟨rfl, rfl, rfl, Nat.le_refl _, fun _ _ _ => rfl⟩, .inl rfl, fun i j _ _ => by rw [e3, e1], fun i j x hi => by omega⟩
end
end Go.Proofs.YtjjpakdlkjaigaaGreat

/- A symbolic executor for loaded Go code: each step is the machine's: append, make; one step. -/
namespace Go.Proofs.YtjjpakdlkjaigaaGreat
open Go.RowKit
section
variable {P : Program} {τ : Tys} {w0 : World} {E : Env} {aS : List (Array Value)} {a : Act} {w : World}
variable {s : St} {bs : List (Array Value)} {o : Oper}
variable {fr : List (Nat × SV)} {stk : List (List (Nat × SV))} {bx : List (Nat × (TypeId × List SV))} {rw' : List (Nat × Ent)} {dep : Nat}
theorem tag_up {t : Tag} {r : Rw} {i j : Nat} {x : SV} {u : Value} (hx : (r.cell .any i)[j]? = some x) (h : cd1 w (E.F w t) x u) (ht : tagOk t r = true) : cd1 w (E.F w .new) x u := by
 unfold tagOk at ht
 split at ht
 · rename_i hf; exact (flat_sc hf hx _ _ _ _ u).1 h
 · cases t with
   | new => exact h
   | _ => simp [Tag.isNew] at ht
theorem kd_flat {r r' : Rw} (h : r.kd = r'.kd) : r.flat = r'.flat := by cases r <;> cases r' <;> first | rfl | simp [Rw.kd] at h
theorem append_good (hτ : TysOk P τ) (hd : Den τ w0 E ⟨fr, stk, bx, rw', dep⟩ (a.tmps :: aS) w) (hdst : ∀ t, o.dst = some t → t < a.tmps.size) (c : Call) (T : TypeId) (x y : Operand) (ho : o.op = .call c) (hb : c.callee = .builtin .append) (hx : c.args.toList = [x, y]) (hT : c.argTypes.toList = [T, T]) :
  (stepAppend τ T x y o.dst ⟨fr, stk, bx, rw', dep⟩).good (OpGood P τ w0 E aS o a w) := by
 have hargs : c.args = #[x, y] := by rw [← Array.toArray_toList (xs := c.args), hx]
 have hts : c.argTypes = #[T, T] := by rw [← Array.toArray_toList (xs := c.argTypes), hT]
 have hrun : ∀ v' w', (Builtin.append_ #[T, T] o.type #[a.eval x, a.eval y]).run P w = .ok v' w' → (execOp a.eval o).run P w = .ok (.value v') w' := by
  intro v' w' h
  simp only [execOp, ho, resolve, hb, hargs, hts, invoke, builtin, Sem.run_bind, Sem.run_pure, Result.andThen_ok]
  simp [h]
 unfold stepAppend
 dsimp only
 split
 rotate_left
 · trivial
 rename_i e d htd hdd
 simp only [SV.force_eq]
 have hvx := hd.getT T x
 have hvy := hd.getT T y
 split
 rotate_left
 · trivial
 rename_i t r2 kd hsrc hrk
 split
 rotate_left
 · trivial
 rename_i hk2
 have hk2 := Nat.eq_of_beq_eq_true hk2
 split
 · -- onto nil
   rename_i r1 hr1
   rw [hr1] at hvx
   obtain ⟨hvx, h0⟩ := hvx
   split
   rotate_left
   · trivial
   rename_i r hk1 happ hno
   have hk1 := Nat.eq_of_beq_eq_true hk1
   have key : ∀ ent lo, ent.mine = some (lo, r) → (lo = 0 ∨ tagOk t r2 = true) → r2.len * r2.bts ≤ 140737488355328 → OpGood P τ w0 E aS o a w ⟨(d, .own (dep + d)) :: fr, stk, bx, upd rw' (dep + d) ent, dep⟩ := by
    intro ent lo hm hlo hbytes
    obtain ⟨v', w', us', hr, hown, hg, hat, _, hc2⟩ := append_run hτ hd htd hrk o.type hk1 hk2 happ (v := .slice none 0 0) (us := []) (by rw [h0]; exact World.ownsRow_nil w _ _ _) hvy hsrc (by rw [h0, Nat.zero_add]; exact hbytes)
    obtain ⟨e1, e2, hlen, _, hcr⟩ := app_cell happ
    have hbts : r.bts = r2.bts := by unfold Rw.bts; rw [e2]
    have hblk : ∀ g, v'.ownBlock = some g → w.heap.size ≤ g ∧ g < w'.heap.size := by
     intro g hg'
     refine ⟨?_, (hown.lt g hg').2⟩
     rcases hat with hat | hat
     · rw [hat] at hg'; simp [Value.ownBlock] at hg'
     · rw [hat] at hg'; injection hg' with hg'; omega
    have hd2 := hd.newRow (dep + d) hno w' (by simpa [Value.ownBlock] using hg) v' ent lo r hm us' hblk (by rw [hbts, hlen, h0, Nat.zero_add]; exact hbytes) hown (fun i j x hi hx => by
     rw [hlen, h0, Nat.zero_add] at hi
     have hcell := hcr .any i
     rw [h0, Nat.zero_add] at hcell
     rw [hcell] at hx
     obtain ⟨u, hu, hcd⟩ := hc2 i j x hi hx
     rw [h0, Nat.zero_add] at hu
     refine ⟨u, hu, cd1_add (w := w) ?_ (fun g _ hlt => hg.block g hlt (by simp [Value.ownBlock])) (fun g hg' => .inl (hblk g hg').1)⟩
     split
     · rename_i hi2
       rcases hlo with rfl | hlo
       · omega
       · exact tag_up hx hcd hlo
     · exact cd1.any hcd)
    refine opGood_value (E' := E.add (dep + d) v') (hrun _ _ (by rw [hvx]; exact hr)) ?_ rfl rfl
    rw [hdd]
    refine put_ptr d hd2 ?_ (hdst d hdd)
    simp only [vd3, vd2, vd1, vd0, lk_upd, if_true]
    cases ent with
    | own r => simp [Env.add]
    | part lo r => simp [Env.add]
    | shared t r => simp [Ent.mine] at hm
   split
   · rename_i htag; exact key (.own r) r.len rfl (.inr htag)
   · exact key (.part 0 r) 0 rfl (.inl rfl)
 · -- onto an own row
   rename_i k hxk
   rw [hxk] at hvx
   simp only [vd3, vd2, vd1, vd0] at hvx
   have key : ∀ ent lo r1 ent' lo' r, lk rw' k = some ent → ent.mine = some (lo, r1) → r1.kd = kd → r1.app r2 = some r → ent'.mine = some (lo', r) → (∀ i, i < r1.len → i < lo' → i < lo) → (∀ i, r1.len ≤ i → i < lo' → tagOk t r2 = true) → a.eval x = E.hs k → (r1.len + r2.len) * r2.bts ≤ 140737488355328 →
     OpGood P τ w0 E aS o a w ⟨(d, .own k) :: killF k fr, killS k stk, killB k bx, upd rw' k ent', dep⟩ := by
    intro ent lo r1 ent' lo' r hk hm hk1 happ hm' hold hnew hvx hbytes
    have hO := hd.own k ent lo r1 hk hm
    obtain ⟨us, hrow, hcell⟩ := hO.row
    obtain ⟨v', w', us', hr, hown, hg, hat, hc1, hc2⟩ := append_run hτ hd htd hrk o.type hk1 hk2 happ hrow hvy hsrc hbytes
    obtain ⟨e1, e2, hlen, hcl, hcr⟩ := app_cell happ
    have hbts : r.bts = r2.bts := by unfold Rw.bts; rw [e2]
    have hsz : r.sz = r1.sz := Rw.sz_of_kd e1
    have hblk : ∀ g, v'.ownBlock = some g → (w.heap.size ≤ g ∨ some g = (E.hs k).ownBlock) ∧ g < w'.heap.size := by
     intro g hg'
     refine ⟨?_, (hown.lt g hg').2⟩
     rcases hat with hat | hat
     · rw [hat] at hg'; exact .inr hg'.symm
     · rw [hat] at hg'; injection hg' with hg'; exact .inl (by omega)
    have hheap : ∀ g, ¬ E.ow g → g < w.heap.size → w'.heap[g]? = w.heap[g]? := fun g hg' hlt => hg.block g hlt fun e => hg' (hO.ow g e.symm)
    have hnb : ∀ g, v'.ownBlock = some g → w.heap.size ≤ g ∨ E.ow g := fun g hg' => (hblk g hg').1.imp id fun e => hO.ow g e.symm
    have hd2 := hd.growRow k w' hg hk hm v' ent' lo' r hm' us' hblk (by rw [hbts, hlen]; exact hbytes) hown (fun i j x hi hx => by
     by_cases h1 : i < r1.len
     · rw [hcl .any i h1] at hx
       obtain ⟨u, hu, hcd⟩ := hcell i j x h1 hx
       have hj : j < r1.sz := by
        have := (List.getElem?_eq_some_iff.1 hx).1
        rwa [cell_len] at this
       refine ⟨u, by rw [hc1 i j h1 hj]; exact hu, cd1_add (w := w) ?_ hheap hnb⟩
       split
       · rename_i hlo
         rw [if_pos (hold i h1 hlo)] at hcd
         exact hcd
       · exact cd1.any hcd
     · have hi2 : i = r1.len + (i - r1.len) := by omega
       rw [hi2, hcr .any (i - r1.len)] at hx
       obtain ⟨u, hu, hcd⟩ := hc2 (i - r1.len) j x (by omega) hx
       rw [← hi2] at hu
       refine ⟨u, hu, cd1_add (w := w) ?_ hheap hnb⟩
       split
       · rename_i hlo
         exact tag_up hx hcd (hnew i (by omega) hlo)
       · exact cd1.any hcd)
    refine opGood_value (E' := E.add k v') (hrun _ _ (by rw [hvx]; exact hr)) ?_ rfl rfl
    rw [hdd]
    refine put_ptr d hd2 ?_ (hdst d hdd)
    simp only [vd3, vd2, vd1, vd0, lk_upd, if_true]
    cases ent' with
    | own r => simp [Env.add]
    | part lo r => simp [Env.add]
    | shared t r => simp [Ent.mine] at hm'
   split
   · rename_i r1 hk
     rw [hk] at hvx
     split
     · rename_i r hk1 happ htag
       simp only [forceF_eq, forceS_eq, forceB_eq]
       intro hbytes
       exact key (.own r1) r1.len r1 (.own r) r.len r hk rfl (Nat.eq_of_beq_eq_true hk1) happ rfl (fun i h _ => h) (fun _ _ _ => htag) hvx hbytes
     rotate_left
     · trivial
     rename_i r hk1 happ htag
     simp only [forceF_eq, forceS_eq, forceB_eq]
     intro hbytes
     exact key (.own r1) r1.len r1 (.part r1.len r) r1.len r hk rfl (Nat.eq_of_beq_eq_true hk1) happ rfl (fun i h _ => h) (fun i h1 h2 => by omega) hvx hbytes
   · rename_i lo r1 hk
     rw [hk] at hvx
     split
     rotate_left
     · trivial
     rename_i r hk1 happ
     simp only [forceF_eq, forceS_eq, forceB_eq]
     rintro ⟨hbytes, hlo⟩
     exact key (.part lo r1) lo r1 (.part lo r) lo r hk rfl (Nat.eq_of_beq_eq_true hk1) happ rfl (fun i _ h => h) (fun i h1 h2 => by omega) hvx hbytes
   · trivial
 · trivial
theorem zeros_cell_at (k n i : Nat) (t : Tag) (hi : i < n) : (Rw.zeros k n).cell t i = (Rw.zeros k 1).cell t 0 := by
 unfold Rw.zeros
 split <;> simp [Rw.cell, List.getD_eq_getElem?_getD, List.getElem?_replicate, hi]
theorem make_good (hτ : TysOk P τ) (hd : Den τ w0 E ⟨fr, stk, bx, rw', dep⟩ (a.tmps :: aS) w) (hdst : ∀ t, o.dst = some t → t < a.tmps.size) (T : TypeId) (x : Operand) (ho : o.op = .makeSlice T x x) :
  (stepMake τ T x o.dst ⟨fr, stk, bx, rw', dep⟩).good (OpGood P τ w0 E aS o a w) := by
 unfold stepMake
 dsimp only
 split
 rotate_left
 · trivial
 rename_i e d htd hdd
 split
 rotate_left
 · trivial
 rename_i kd n hrk hn hno
 rintro ⟨h0, hbytes⟩
 have hx := hd.get x
 rw [hn] at hx
 obtain hx : a.eval x = .int .i64 n := hx
 obtain ⟨hk10, het, ti, hti, hsz, hby, hfit, hnorow⟩ := hτ.rk e kd hrk
 obtain ⟨y, z, g1, g2, g3, g4, g5, g6⟩ := (hτ.ti e ti hti).info
 have hs := hτ.slice htd
 obtain ⟨hzk, hzl⟩ := zeros_cell kd n.toNat hk10
 obtain ⟨m, rfl⟩ := Int.eq_ofNat_of_zero_le h0
 simp only [Int.toNat_natCast] at hzk hzl ⊢
 have hbm' : ((m * kdBytes kd : Nat) : Int) ≤ 140737488355328 := by rw [Int.natCast_mul]; exact hbytes
 have hbm : m * kdBytes kd ≤ 140737488355328 := by omega
 have hpos : 1 ≤ kdBytes kd := by unfold kdBytes; split <;> omega
 have hm1 : m * 1 ≤ m * kdBytes kd := Nat.mul_le_mul_left _ hpos
 obtain ⟨w', hr, hown, hg⟩ := run_make_full (P := P) w E.M T e y z (kdSz kd) hs g1 g4 (by rw [g2, hsz]) .i64 .i64 m (by rw [g3, hby, Nat.mul_comm]; omega) (by unfold maxLen; omega) hd.Mh
 have hzsz : (Rw.zeros kd m).sz = kdSz kd := by unfold Rw.sz; rw [hzk]
 have hblk : ∀ g, (Value.slice (some ⟨w.heap.size, 0, none⟩) m m).ownBlock = some g → w.heap.size ≤ g ∧ g < w'.heap.size := by
  intro g hg'
  refine ⟨?_, (hown.lt g hg').2⟩
  simp [Value.ownBlock] at hg'
  omega
 have hd2 := hd.newRow (dep + d) hno w' hg (.slice (some ⟨w.heap.size, 0, none⟩) m m) (.own (Rw.zeros kd m)) (Rw.zeros kd m).len (Rw.zeros kd m) rfl (madeCells z.cells (m * kdSz kd)).toList hblk
  (by unfold Rw.bts; rw [hzk, hzl]; exact hbm) (by rw [hzk, hzl, hzsz, het]; exact hown) (fun i j x hi hx => by
    rw [hzl] at hi
    rw [zeros_cell_at kd m i .any hi] at hx
    obtain ⟨y', hy', hfx⟩ := hfit.2 j x hx
    obtain ⟨u, hu, hv⟩ := (g6 E rw' w).2 j y' hy'
    have hj : j < kdSz kd := by
     have := (List.getElem?_eq_some_iff.1 hx).1
     rw [cell_len] at this
     have h1 := (zeros_cell kd 1 hk10).1
     unfold Rw.sz at this
     rw [h1] at this
     exact this
    have hlt : i * kdSz kd + j < m * kdSz kd := by
     have : (i + 1) * kdSz kd ≤ m * kdSz kd := Nat.mul_le_mul_right _ hi
     rw [Nat.succ_mul] at this
     omega
    refine ⟨u, ?_, ?_⟩
    · rw [hzsz]
      have hmod : (i * kdSz kd + j) % z.cells.size = j := by
       rw [g5, hsz, Nat.mul_comm, Nat.mul_add_mod, Nat.mod_eq_of_lt hj]
      have hz : z.cells[(i * kdSz kd + j) % z.cells.size]! = u := by
       rw [hmod]
       have hj2 : j < z.cells.size := by rw [g5, hsz]; exact hj
       rw [getElem!_pos z.cells j hj2]
       simpa [Array.getElem?_eq_getElem hj2] using hu
      simp only [madeCells, Array.toList_map, Array.toList_range, List.getElem?_map, List.getElem?_range hlt, Option.map_some]
      exact congrArg some hz
    · rw [if_pos (by omega)]
      have hvd1 : vd1 E rw' w y' u := by cases y' <;> first | exact hv | exact hv.elim
      have hcd : cd1 w (E.F w .new) x u := hfx.cd hvd1 (by
       cases y' with
       | row t r => exact absurd (List.mem_of_getElem? hy') (hnorow t r)
       | _ => trivial)
      exact cd1_add (w := w) hcd (fun g _ hlt => hg.block g hlt (by simp)) (fun g hg' => .inl (hblk g hg').1))
 refine opGood_value (v := .slice (some ⟨w.heap.size, 0, none⟩) m m) (E' := E.add (dep + d) (.slice (some ⟨w.heap.size, 0, none⟩) m m)) (w' := w') ?_ ?_ rfl rfl
 · simp only [execOp, ho, hx, Sem.run_bind]
   rw [show (Instr.makeSlice T (.int .i64 ((m : Nat) : Int)) (.int .i64 ((m : Nat) : Int))).run P w = _ from hr]
   rfl
 · rw [hdd]
   refine put_ptr d hd2 ?_ (hdst d hdd)
   simp [vd3, vd2, vd1, vd0, lk_upd, Env.add]
end
end Go.Proofs.YtjjpakdlkjaigaaGreat

/- A symbolic executor for loaded Go code: calls by contract. -/
namespace Go.Proofs.YtjjpakdlkjaigaaGreat
open Go.RowKit
def E0 : Env := { base := 0, M := 0, bs := fun _ => 0, hs := fun _ => undef, ow := fun _ => False }
def Out.good (r : Out) (p : SV → List Rw → Prop) : Prop := match r with
 | .ok v rows => p v rows
 | .ob q v rows => q → p v rows
 | .bad => True
def resRows : List Rw → Nat → List (Nat × Ent)
 | [], _ => []
 | r :: l, n => (n, .own r) :: resRows l (n + 1)
structure Res (τ : Tys) (B : Nat) (w : World) (v : SV) (rows : List Rw) (z : Value) : Prop where
 ex : ∃ E : Env, E.base = B ∧ E.M = B ∧ (∀ g, E.ow g → B ≤ g ∧ g < w.heap.size) ∧ (∀ i r, rows[i]? = some r → OwnD τ E w i r.len r) ∧
  (∀ i j ri rj g, rows[i]? = some ri → rows[j]? = some rj → i ≠ j → (E.hs i).ownBlock = some g → (E.hs j).ownBlock ≠ some g) ∧ vd3 E (resRows rows 0) w v z
def Valid (P : Program) (τ : Tys) (f : FuncId) (C : Spec) : Prop := ∀ (args : List SV) (vals : List Value) (w : World), L0 (vd3 E0 [] w) args vals →
 (C args).good fun v rows => Calls P f vals.toArray w fun e w' => ∃ z, e = .returned z ∧ Below w.heap.size w w' ∧ Res τ w.heap.size w' v rows z
def Enters (P : Program) (f : FuncId) : Prop := ∀ args w, (callFunc f args).run P w = .ok (.enter f args) w
def TrOk (P : Program) (τ : Tys) (f : FuncId) (T : CallT) : Prop :=
 ∀ (w0 : World) (E : Env) (s : St) (aS : List (Array Value)) (w : World) (args : List SV) (vals : List Value) (K : SV → St → Prop), Den τ w0 E s aS w → L0 (vd3 E s.rows w) args vals → T args s K →
  Calls P f vals.toArray w fun e w' => ∃ z v s' E', e = .returned z ∧ K v s' ∧ Den τ w0 E' s' aS w' ∧ E'.base = E.base ∧ E.M ≤ E'.M ∧ vd3 E' s'.rows w' v z
structure CtxOk (P : Program) (τ : Tys) (C : Ctx) : Prop where
 enters : ∀ f sp, C.spec f = some sp → Enters P f
 valid : ∀ f sp, C.spec f = some sp → Valid P τ f sp
 trEnters : ∀ f T, C.tr f = some T → Enters P f
 trOk : ∀ f T, C.tr f = some T → TrOk P τ f T
section
variable {P : Program} {τ : Tys} {w0 : World} {E : Env} {aS : List (Array Value)} {a : Act} {w : World}
variable {s : St} {bs : List (Array Value)} {o : Oper}
variable {fr : List (Nat × SV)} {stk : List (List (Nat × SV))} {bx : List (Nat × (TypeId × List SV))} {rw' : List (Nat × Ent)} {dep : Nat}
theorem E0_F {w : World} (t : Tag) (h : t = .any) (g : Nat) : E0.F w t g := by subst h; exact ⟨fun h => h, trivial⟩
theorem row0 {F : Nat → Prop} {r : Rw} {u : Value} (h : RowDen w F r u) : RowDen w (E0.F w .any) r u := h.mono fun g _ _ => ⟨rfl, E0_F _ rfl g⟩
theorem plain_vd (hd : Den τ w0 E s bs w) {x : SV} {u : Value} (h : vd3 E s.rows w x u) : vd0 E0 [] w (res1 s.rows x).plain u := by
 cases x with
 | own k =>
   simp only [res1]
   split
   · rename_i e hk
     have := own_read hd hk h
     exact row0 this
   · trivial
 | row t r => exact row0 h
 | nilS r =>
   obtain ⟨rfl, h0⟩ := h
   exact empty_row h0 _
 | int k n => exact h
 | bool b => exact h
 | lit b => exact h
 | str s => exact h
 | _ => trivial
theorem plainL_vd (hd : Den τ w0 E s bs w) {cs : List SV} {us : List Value} (h : L0 (vd1 E s.rows w) cs us) : L0 (vd0 E0 [] w) (plainL s.rows cs) us := by
 induction cs generalizing us with
 | nil => obtain rfl := h.inv_nil; exact L0.nil
 | cons x cs ih =>
   obtain ⟨u, us', rfl, h1, h2⟩ := h.inv_cons
   exact .cons (plain_vd hd (vd_of_vd1 h1)) (ih h2)
theorem plain_cd {R : List (Nat × Ent)} {x : SV} {u : Value} (h : vd0 E0 [] w (res1 R x).plain u) (hj : (res1 R x).plain ≠ .junk) : cd2 w (E0.F w .any) (res1 R x).plain u := by
 cases hx : res1 R x <;> rw [hx] at h hj <;> first
  | exact h
  | exact absurd rfl hj
theorem noJunk_mem {l : List SV} (h : noJunk l = true) {x : SV} (hx : x ∈ l) : x ≠ .junk := by
 induction l with
 | nil => simp at hx
 | cons y l ih =>
   rcases List.mem_cons.1 hx with rfl | hx
   · rintro rfl; simp [noJunk] at h
   · have : noJunk l = true := by cases y <;> first | exact h | (simp [noJunk] at h; done)
     exact ih this hx
theorem plainL_get {R : List (Nat × Ent)} : ∀ (cs : List SV) (j : Nat) (x : SV), (plainL R cs)[j]? = some x → ∃ y, cs[j]? = some y ∧ x = (res1 R y).plain
 | [], j, x, h => by simp [plainL] at h
 | c :: cs, 0, x, h => by simp [plainL] at h; exact ⟨c, by simp, h.symm⟩
 | c :: cs, j + 1, x, h => by
   simp only [plainL, List.getElem?_cons_succ] at h
   simpa using plainL_get cs j x h
theorem ptOf_vd {cs : List SV} {ad : Addr} (hs : ad.spot = none) (hlt : ad.block < w.heap.size) (hc : ∀ (j : Nat) x, cs[j]? = some x → x ≠ .junk → ∃ u, w.cell? (ad.add j) = some u ∧ cd2 w (E0.F w .any) x u) : vd0 E0 [] w (ptOf cs) (.pointer (some ad)) := by
 unfold ptOf
 split
 · rename_i hn
   exact ⟨ad, rfl, hs, hlt, E0_F _ rfl _, fun j x hx => hc j x hx (noJunk_mem hn (List.mem_of_getElem? hx))⟩
 · trivial
theorem resP_vd (hd : Den τ w0 E s bs w) {x : SV} {u : Value} (h : vd3 E s.rows w x u) : vd0 E0 [] w (resP s x) u := by
 cases x with
 | pt t cs =>
   obtain ⟨ad, rfl, hs, hlt, hF, hc⟩ := h
   simp only [resP, forceL_eq]
   refine ptOf_vd hs hlt fun j x hx hj => ?_
   obtain ⟨y, hy, rfl⟩ := plainL_get cs j x hx
   obtain ⟨v, hv, hd'⟩ := hc j y hy
   refine ⟨v, hv, ?_⟩
   cases y with
   | row t' r => exact row0 hd'
   | int k n => exact hd'
   | bool b => exact hd'
   | lit b => exact hd'
   | str s => exact hd'
   | _ => exact hd'.elim
 | box k off =>
   obtain rfl : u = _ := h
   simp only [resP]
   split
   · rename_i T cs hk
     obtain ⟨how, us, hheap, hcs⟩ := hd.box k T cs hk
     rw [forceL_eq]
     refine ptOf_vd rfl (hd.owb _ how).2 fun j x hx hj => ?_
     obtain ⟨y, hy, rfl⟩ := plainL_get _ j x hx
     obtain ⟨v, hv, hvd⟩ := (hcs.drop off).2 j y hy
     refine ⟨v, ?_, plain_cd (plain_vd hd (vd_of_vd1 hvd)) hj⟩
     rw [Addr.add_lit, cell_of_row w _ _ _ _ _ hheap]
     rw [List.getElem?_drop] at hv
     simpa using hv
   · trivial
 | oel k i off =>
   simp only [vd3, vd2, vd1, vd0] at h
   have fin : ∀ e lo r g n c, lk s.rows k = some e → e.mine = some (lo, r) → E.hs k = .slice (some ⟨g, 0, none⟩) n c → 0 ≤ i → i < r.len → vd0 E0 [] w (.pt .any ((r.cell .any i.toNat).drop off)) (.pointer (some ⟨g, i.toNat * r.sz + off, none⟩)) := by
    intro e lo r g n c hk hm hh h0 h1
    have hO := hd.own k e lo r hk hm
    obtain ⟨us, hcs, hcell⟩ := hO.elem (rw' := s.rows) hh (i := i.toNat) (by omega) (t := .any) (fun h => by simp at h) (by simp)
    refine ⟨_, rfl, rfl, (hd.owb _ (hO.ow g (by rw [hh]; rfl))).2, E0_F _ rfl _, fun j x hx => ?_⟩
    rw [List.getElem?_drop] at hx
    obtain ⟨v, hv, hvd⟩ := hcs.2 (off + j) x hx
    refine ⟨v, ?_, ?_⟩
    · have := hcell (off + j) v hv
      rw [Addr.add_lit] at this ⊢
      rw [Nat.add_assoc]
      exact this
    · have ht := cell_retag .any r i.toNat (off + j) x hx
      cases x with
      | row t' r' => obtain rfl := ht t' r' rfl; exact row0 hvd
      | int k n => exact hvd
      | bool b => exact hvd
      | lit b => exact hvd
      | str s => exact hvd
      | _ =>
        have := List.mem_of_getElem? hx
        cases r <;> simp [Rw.cell, GItem.cells, GPeer.cells, GTold.cells, GCut.cells, GMsg.cells, GNode.cells, GAct.cells] at this
   simp only [resP]
   split
   · rename_i r hk
     rw [hk] at h
     obtain ⟨g, n, c, hh, h0, h1, rfl⟩ := h
     exact fin _ _ _ g n c hk rfl hh h0 h1
   · rename_i lo r hk
     rw [hk] at h
     obtain ⟨g, n, c, hh, h0, h1, rfl⟩ := h
     exact fin _ _ _ g n c hk rfl hh h0 h1
   · trivial
 | tup vs => trivial
 | agg cs => trivial
 | clo f b c => trivial
 | own k => exact plain_vd hd h
 | row t r => exact plain_vd hd h
 | nilS r => exact plain_vd hd h
 | pre t r n => trivial
 | int k n => exact h
 | bool b => exact h
 | lit b => exact h
 | str s => exact h
 | junk => trivial
end
end Go.Proofs.YtjjpakdlkjaigaaGreat

/- A symbolic executor for loaded Go code: a call's arguments, and what it hands back. -/
namespace Go.Proofs.YtjjpakdlkjaigaaGreat
open Go.RowKit
section
variable {P : Program} {τ : Tys} {w0 : World} {E : Env} {aS : List (Array Value)} {a : Act} {w : World}
variable {s : St} {bs : List (Array Value)} {o : Oper}
variable {fr : List (Nat × SV)} {stk : List (List (Nat × SV))} {bx : List (Nat × (TypeId × List SV))} {rw' : List (Nat × Ent)} {dep : Nat}
theorem vdf_of_vd0 {x : SV} {u : Value} (h : vd0 E rw' w x u) : vdf E rw' w x u := by cases x <;> first | exact h | exact h.elim
theorem vd3_of_vd0 {x : SV} {u : Value} (h : vd0 E rw' w x u) : vd3 E rw' w x u := by cases x <;> first | exact h | exact h.elim
theorem vd3_of_vdf {x : SV} {u : Value} (h : vdf E rw' w x u) : vd3 E rw' w x u := by
 cases x with
 | agg cs => obtain ⟨us, rfl, hl⟩ := h; exact ⟨us, rfl, hl.mono fun x u _ hp => by cases x <;> first | exact hp | exact hp.elim⟩
 | tup _ => exact h.elim
 | clo _ _ _ => exact h.elim
 | _ => exact h
theorem resF_vd (hd : Den τ w0 E s bs w) {x : SV} {u : Value} (h : vd3 E s.rows w x u) : vdf E0 [] w (resF s x) u := by
 cases x with
 | agg cs => obtain ⟨us, rfl, hl⟩ := h; exact ⟨us, rfl, plainL_vd hd hl⟩
 | _ => exact vdf_of_vd0 (resP_vd hd h)
theorem mapP_vd {p q : SV → Value → Prop} {f : SV → SV} (hf : ∀ x u, p x u → q (f x) u) {l : List SV} {us : List Value} (h : L0 p l us) : L0 q (mapP f l) us := by
 induction l generalizing us with
 | nil => obtain rfl := h.inv_nil; exact L0.nil
 | cons x l ih => obtain ⟨u, us', rfl, h1, h2⟩ := h.inv_cons; exact .cons (hf x u h1) (ih h2)
theorem resA_vd (hd : Den τ w0 E s bs w) {x : SV} {u : Value} (h : vd3 E s.rows w x u) : vd3 E0 [] w (resA s x) u := by
 cases x with
 | clo f b c =>
   obtain ⟨us, vs, rfl, h1, h2⟩ := h
   exact ⟨us, vs, rfl, mapP_vd (fun x u h => resF_vd hd (vd3_of_vdf h)) h1, mapP_vd (fun x u h => resP_vd hd (vd3_of_vd0 h)) h2⟩
 | _ => exact vd3_of_vdf (resF_vd hd h)
theorem args_vd (hd : Den τ w0 E s bs w) {xs : List SV} {us : List Value} (h : L0 (vd3 E s.rows w) xs us) : L0 (vd3 E0 [] w) (mapP (resA s) xs) us := mapP_vd (fun _ _ h => resA_vd hd h) h
def idx (kb k : Nat) : Option Nat := if kb ≤ k ∧ (k - kb) % 100000 = 0 then some ((k - kb) / 100000) else none
theorem idx_iff (kb k i : Nat) : idx kb k = some i ↔ k = kb + 100000 * i := by
 unfold idx
 split
 · rename_i h; simp; omega
 · rename_i h; simp; omega
theorem lk_addRows (kb : Nat) : ∀ (rows : List Rw) (R : List (Nat × Ent)) (n k : Nat), lk (addRows R kb rows n) k = match idx kb k with
  | some i => if n ≤ i then (match rows[i - n]? with
    | some r => some (.own r)
    | none => lk R k) else lk R k
  | none => lk R k
 | [], R, n, k => by
   simp only [addRows]
   cases idx kb k <;> simp
 | r :: rows, R, n, k => by
   simp only [addRows]
   rw [lk_addRows kb rows _ (n + 1) k]
   have hu := lk_upd R (kb + 100000 * n) (.own r) k
   cases hi : idx kb k with
   | none =>
     simp only [hu]
     rw [if_neg]
     intro h
     rw [(idx_iff kb k n).2 h] at hi
     simp at hi
   | some i =>
     have hk := (idx_iff kb k i).1 hi
     simp only [hu]
     by_cases h1 : n + 1 ≤ i
     · have : ¬ k = kb + 100000 * n := by omega
       simp only [if_pos h1, if_pos (show n ≤ i by omega), if_neg this]
       obtain ⟨j, rfl⟩ : ∃ j, i = n + 1 + j := ⟨i - (n + 1), by omega⟩
       rw [show n + 1 + j - (n + 1) = j by omega, show n + 1 + j - n = j + 1 by omega]
       simp
     · simp only [if_neg h1]
       by_cases h2 : n = i
       · subst h2; simp [hk]
       · rw [if_neg (show ¬ k = kb + 100000 * n by omega), if_neg (show ¬ n ≤ i by omega)]
theorem lk_resRows : ∀ (rows : List Rw) (n i : Nat), lk (resRows rows n) i = if n ≤ i then (rows[i - n]?).map Ent.own else none
 | [], n, i => by simp [resRows, lk]
 | r :: rows, n, i => by
   simp only [resRows, lk]
   rw [lk_resRows rows (n + 1) i]
   split
   · rename_i h
     have := Nat.eq_of_beq_eq_true h
     subst this
     simp
   · rename_i h
     have hne : n ≠ i := fun e => by subst e; simp at h
     by_cases h1 : n + 1 ≤ i
     · rw [if_pos h1, if_pos (by omega)]
       obtain ⟨j, rfl⟩ : ∃ j, i = n + 1 + j := ⟨i - (n + 1), by omega⟩
       rw [show n + 1 + j - (n + 1) = j by omega, show n + 1 + j - n = j + 1 by omega]
       simp
     · rw [if_neg h1, if_neg (by omega)]
def Env.join (E Er : Env) (kb n : Nat) : Env := ⟨E.base, E.M, E.bs, fun k => match idx kb k with
 | some i => if i < n then Er.hs i else E.hs k
 | none => E.hs k, fun g => E.ow g ∨ Er.ow g⟩
theorem keysFree_no {kb : Nat} : ∀ {n : Nat}, keysFree s kb n = true → ∀ i, i < n → s.has (own0 (kb + 100000 * i)) = false
 | 0, _, i, hi => by omega
 | n + 1, h, i, hi => by
   simp only [keysFree] at h
   split at h
   · simp at h
   · rename_i h1
     by_cases e : i = n
     · subst e; exact h1
     · exact keysFree_no h i (by omega)
theorem join_hs {Er : Env} {kb n i : Nat} (hi : i < n) : (E.join Er kb n).hs (kb + 100000 * i) = Er.hs i := by
 simp [Env.join, (idx_iff kb _ i).2 rfl, hi]
theorem join_F {Er : Env} {kb n : Nat} {B : Nat} (hB : Er.M = B) (hM : E.M ≤ B) (hE : ∀ g, E.ow g → g < B) {w : World} {g : Nat} (h : Er.F w .new g) : (E.join Er kb n).F w .new g := by
 obtain ⟨h1, h2, hu⟩ := h
 have h2 : Er.M ≤ g := h2
 refine ⟨?_, Nat.le_trans hM (by omega), hu⟩
 rintro (h3 | h3)
 · have := hE g h3; omega
 · exact h1 h3
theorem renum0_vd {Er : Env} {kb : Nat} {rows : List Rw} {w' : World} (hB : Er.M = w.heap.size) (hM : E.M ≤ w.heap.size) (hE : ∀ g, E.ow g → g < w.heap.size) {R : List (Nat × Ent)} {x : SV} {u : Value}
  (ho : resOk0 rows.length x = true) (h : vd0 Er (resRows rows 0) w' x u) : vd0 (E.join Er kb rows.length) (addRows R kb rows 0) w' (renum0 kb x) u := by
 cases x with
 | own i =>
   simp only [resOk0] at ho
   have hi : i < rows.length := Nat.le_of_ble_eq_true ho
   simp only [vd0, renum0] at h ⊢
   rw [lk_resRows, if_pos (Nat.zero_le _), Nat.sub_zero, List.getElem?_eq_getElem hi] at h
   rw [lk_addRows, (idx_iff kb _ i).2 rfl]
   simp only [Nat.zero_le, if_true, Nat.sub_zero, List.getElem?_eq_getElem hi]
   rw [join_hs hi]
   exact h
 | row t r =>
   cases t <;> simp [resOk0, Tag.isNew] at ho
   exact RowDen.mono h fun g hg _ => ⟨rfl, join_F hB hM hE hg⟩
 | int k n => exact h
 | bool b => exact h
 | lit b => exact h
 | str s => exact h
 | nilS r => exact h
 | _ => simp [resOk0] at ho
theorem renumL_vd {p q : SV → Value → Prop} {ok : SV → Bool} {f : SV → SV} (hf : ∀ x u, ok x = true → p x u → q (f x) u) {l : List SV} {us : List Value} (ho : allB ok l = true) (h : L0 p l us) : L0 q (renumL f l) us := by
 induction l generalizing us with
 | nil => obtain rfl := h.inv_nil; exact L0.nil
 | cons x l ih =>
   obtain ⟨u, us', rfl, h1, h2⟩ := h.inv_cons
   simp only [allB] at ho
   split at ho
   · rename_i hx; exact .cons (hf x u hx h1) (ih ho h2)
   · simp at ho
theorem renum1_vd {Er : Env} {kb : Nat} {rows : List Rw} {w' : World} (hB : Er.M = w.heap.size) (hM : E.M ≤ w.heap.size) (hE : ∀ g, E.ow g → g < w.heap.size) {R : List (Nat × Ent)} {x : SV} {u : Value}
  (ho : resOk1 rows.length x = true) (h : vd2 Er (resRows rows 0) w' x u) : vd2 (E.join Er kb rows.length) (addRows R kb rows 0) w' (renum1 kb x) u := by
 have key : ∀ y v, resOk0 rows.length y = true → vd1 Er (resRows rows 0) w' y v → vd1 (E.join Er kb rows.length) (addRows R kb rows 0) w' (renum0 kb y) v := by
  intro y v hy hv
  have := renum0_vd (kb := kb) (R := R) hB hM hE hy (u := v) (w' := w') (by cases y <;> first | exact hv | simp [resOk0] at hy)
  cases y <;> first | exact this | simp [resOk0] at hy
 cases x with
 | agg cs =>
   obtain ⟨us, rfl, hl⟩ := h
   exact ⟨us, rfl, renumL_vd key ho hl⟩
 | tup vs => simp [resOk1, resOk0] at ho
 | clo f b c => simp [resOk1, resOk0] at ho
 | int k n => exact key (.int k n) u ho h
 | bool b => exact key (.bool b) u ho h
 | lit b => exact key (.lit b) u ho h
 | str s => exact key (.str s) u ho h
 | row t r => exact key (.row t r) u ho h
 | nilS r => exact key (.nilS r) u ho h
 | pre t r n => exact key (.pre t r n) u ho h
 | own i => exact key (.own i) u ho h
 | box k off => exact key (.box k off) u ho h
 | pt t c => exact key (.pt t c) u ho h
 | oel k i off => exact key (.oel k i off) u ho h
 | junk => exact key (.junk) u ho h
theorem renum2_vd {Er : Env} {kb : Nat} {rows : List Rw} {w' : World} (hB : Er.M = w.heap.size) (hM : E.M ≤ w.heap.size) (hE : ∀ g, E.ow g → g < w.heap.size) {R : List (Nat × Ent)} {x : SV} {u : Value}
  (ho : resOk2 rows.length x = true) (h : vd3 Er (resRows rows 0) w' x u) : vd3 (E.join Er kb rows.length) (addRows R kb rows 0) w' (renum2 kb x) u := by
 cases x with
 | tup vs =>
   obtain ⟨us, rfl, hl⟩ := h
   exact ⟨us, rfl, renumL_vd (fun y v hy hv => renum1_vd hB hM hE hy hv) ho hl⟩
 | agg cs => exact renum1_vd (kb := kb) (rows := rows) (w' := w') (R := R) hB hM hE (x := .agg cs) (u := u) ho h
 | clo f b c => simp [resOk2, resOk1, resOk0] at ho
 | int k n => exact renum1_vd (kb := kb) (rows := rows) (w' := w') (R := R) hB hM hE (x := .int k n) (u := u) ho h
 | bool b => exact renum1_vd (kb := kb) (rows := rows) (w' := w') (R := R) hB hM hE (x := .bool b) (u := u) ho h
 | lit b => exact renum1_vd (kb := kb) (rows := rows) (w' := w') (R := R) hB hM hE (x := .lit b) (u := u) ho h
 | str s => exact renum1_vd (kb := kb) (rows := rows) (w' := w') (R := R) hB hM hE (x := .str s) (u := u) ho h
 | row t r => exact renum1_vd (kb := kb) (rows := rows) (w' := w') (R := R) hB hM hE (x := .row t r) (u := u) ho h
 | nilS r => exact renum1_vd (kb := kb) (rows := rows) (w' := w') (R := R) hB hM hE (x := .nilS r) (u := u) ho h
 | pre t r n => exact renum1_vd (kb := kb) (rows := rows) (w' := w') (R := R) hB hM hE (x := .pre t r n) (u := u) ho h
 | own i => exact renum1_vd (kb := kb) (rows := rows) (w' := w') (R := R) hB hM hE (x := .own i) (u := u) ho h
 | box k off => exact renum1_vd (kb := kb) (rows := rows) (w' := w') (R := R) hB hM hE (x := .box k off) (u := u) ho h
 | pt t c => exact renum1_vd (kb := kb) (rows := rows) (w' := w') (R := R) hB hM hE (x := .pt t c) (u := u) ho h
 | oel k i off => exact renum1_vd (kb := kb) (rows := rows) (w' := w') (R := R) hB hM hE (x := .oel k i off) (u := u) ho h
 | junk => exact renum1_vd (kb := kb) (rows := rows) (w' := w') (R := R) hB hM hE (x := .junk) (u := u) ho h
theorem Den.join (h : Den τ w0 E ⟨fr, stk, bx, rw', dep⟩ bs w) {Er : Env} {kb : Nat} {rows : List Rw} {w' : World} (hw : Below w.heap.size w w') (hB : Er.M = w.heap.size)
  (how : ∀ g, Er.ow g → w.heap.size ≤ g ∧ g < w'.heap.size) (hown : ∀ i r, rows[i]? = some r → OwnD τ Er w' i r.len r)
  (hrr : ∀ i j ri rj g, rows[i]? = some ri → rows[j]? = some rj → i ≠ j → (Er.hs i).ownBlock = some g → (Er.hs j).ownBlock ≠ some g)
  (hfree : keysFree ⟨fr, stk, bx, rw', dep⟩ kb rows.length = true) :
  Den τ w0 (E.join Er kb rows.length) ⟨fr, stk, bx, addRows rw' kb rows 0, dep⟩ bs w' := by
 have hM := h.Mh
 have hEo : ∀ g, E.ow g → g < w.heap.size := fun g hg => (h.owb g hg).2
 have hk : Keeps E (E.join Er kb rows.length) w w' := ⟨rfl, hw.size, fun g _ hg => hw.block g hg, fun g hg => hg.elim .inl fun hg => .inr (how g hg).1⟩
 -- which rows there are
 have hl : ∀ k e lo r, lk (addRows rw' kb rows 0) k = some e → e.mine = some (lo, r) →
   (∃ i ri, k = kb + 100000 * i ∧ rows[i]? = some ri ∧ e = .own ri ∧ (E.join Er kb rows.length).hs k = Er.hs i) ∨
   (lk rw' k = some e ∧ (E.join Er kb rows.length).hs k = E.hs k) := by
  intro k e lo r hk hm
  rw [lk_addRows] at hk
  cases hi : idx kb k with
  | none =>
    rw [hi] at hk
    exact .inr ⟨hk, by simp [Env.join, hi]⟩
  | some i =>
    rw [hi] at hk
    simp only [Nat.zero_le, if_true, Nat.sub_zero] at hk
    cases hri : rows[i]? with
    | none =>
      rw [hri] at hk
      refine .inr ⟨hk, ?_⟩
      have : ¬ i < rows.length := by intro hlt; rw [List.getElem?_eq_getElem hlt] at hri; simp at hri
      simp [Env.join, hi, this]
    | some ri =>
      rw [hri] at hk
      have hlt : i < rows.length := (List.getElem?_eq_some_iff.1 hri).1
      refine .inl ⟨i, ri, (idx_iff kb k i).1 hi, hri, ?_, ?_⟩
      · simpa using hk.symm
      · simp [Env.join, hi, hlt]
 have hblk : ∀ i ri g, rows[i]? = some ri → (Er.hs i).ownBlock = some g → w.heap.size ≤ g ∧ g < w'.heap.size := fun i ri g hi hg => how g ((hown i ri hi).ow g hg)
 have hold : ∀ k e m g, lk rw' k = some e → e.mine = some m → (E.hs k).ownBlock = some g → g < w.heap.size := fun k e m g h1 h2 h3 => (h.own k e m.1 m.2 h1 h2).lt h.owb h3
 refine h.move hk rfl (hw.mono (Nat.le_trans h.bM hM)) ?_ rfl rfl ?_ ?_ ?_ ?_ ?_ ?_
 · refine ⟨fun k hk => ?_, fun _ _ => rfl⟩
   have hno : ∀ i, i < rows.length → k ≠ kb + 100000 * i := fun i hi e => by rw [e, keysFree_no hfree i hi] at hk; exact absurd hk (by simp)
   dsimp only
   rw [lk_addRows]
   cases hi : idx kb k with
   | none => exact ⟨by simp [Env.join, hi], entLike.refl _ _ _ _⟩
   | some i =>
     have : ¬ i < rows.length := fun hlt => hno i hlt ((idx_iff kb k i).1 hi)
     simp only [Nat.zero_le, if_true, Nat.sub_zero, List.getElem?_eq_none (Nat.le_of_not_lt this)]
     exact ⟨by simp [Env.join, hi, this], entLike.refl _ _ _ _⟩
 · rintro g (hg | hg)
   · exact ⟨(h.owb g hg).1, Nat.lt_of_lt_of_le (h.owb g hg).2 hw.size⟩
   · exact ⟨Nat.le_trans h.bM (Nat.le_trans hM (how g hg).1), (how g hg).2⟩
 · intro k T cs hb
   obtain ⟨ho, us, hheap, hcs⟩ := h.box k T cs hb
   refine ⟨.inl ho, us, ?_, ?_⟩
   · show w'.heap[E.bs k]? = _
     rw [hw.block _ (h.owb _ ho).2]
     exact hheap
   · refine hcs.mono fun x u hx hp => vd1.keeps hk (fun j hj => ?_) (fun j hj => rfl) hp
     have hj' : St.has (own0 j) ⟨fr, stk, bx, rw', dep⟩ = true := has_box hb hx hj
     have hno : ∀ i, i < rows.length → j ≠ kb + 100000 * i := fun i hi e => by rw [e, keysFree_no hfree i hi] at hj'; exact absurd hj' (by simp)
     dsimp only
     rw [lk_addRows]
     cases hi : idx kb j with
     | none => exact ⟨by simp [Env.join, hi], entLike.refl _ _ _ _⟩
     | some i =>
       have : ¬ i < rows.length := fun hlt => hno i hlt ((idx_iff kb j i).1 hi)
       simp only [Nat.zero_le, if_true, Nat.sub_zero, List.getElem?_eq_none (Nat.le_of_not_lt this)]
       exact ⟨by simp [Env.join, hi, this], entLike.refl _ _ _ _⟩
 · intro k e lo r hk' hm
   rcases hl k e lo r hk' hm with ⟨i, ri, rfl, hri, rfl, hh⟩ | ⟨ho, hh⟩
   · simp [Ent.mine] at hm
     obtain ⟨rfl, rfl⟩ := hm
     obtain ⟨h1, h2, us, h3, h4⟩ := hown i ri hri
     refine ⟨fun g hg => .inr (h1 g (hh ▸ hg)), h2, us, ?_, ?_⟩
     · rw [hh]
       refine ⟨h3.1, ?_⟩
       rcases h3.2 with h5 | ⟨g, cap, cur, hv, hg, h5⟩
       · exact .inl h5
       · exact .inr ⟨g, cap, cur, hv, Nat.le_trans hM (by omega), h5⟩
     · intro i' j x hi' hx
       obtain ⟨u, hu, hc⟩ := h4 i' j x hi' hx
       rw [if_pos hi'] at hc ⊢
       exact ⟨u, hu, cd1.mono hc fun g hg _ => ⟨rfl, join_F hB hM hEo hg⟩⟩
   · exact (h.own k e lo r ho hm).keeps hk hh rfl (fun g hg => .inl ((h.own k e lo r ho hm).ow g hg)) fun g hg => hw.block g (hold k e _ g ho hm hg)
 · exact h.bb
 · intro k k' b e m hb he hm
   rcases hl k' e m.1 m.2 he hm with ⟨i, ri, rfl, hri, rfl, hh⟩ | ⟨ho, hh⟩
   · rw [hh]
     intro hg
     have h1 := (hblk i ri _ hri hg).1
     have h2 := h.box_lt hb
     exact absurd h2 (Nat.not_lt.2 h1)
   · rw [hh]; exact h.br k k' b e m hb ho hm
 · intro k k' e e' m m' g he he' hm hm' hne hg
   rcases hl k e m.1 m.2 he hm with ⟨i, ri, rfl, hri, rfl, hh⟩ | ⟨ho, hh⟩
   · rw [hh] at hg
     rcases hl k' e' m'.1 m'.2 he' hm' with ⟨i', ri', rfl, hri', rfl, hh'⟩ | ⟨ho', hh'⟩
     · rw [hh']
       exact hrr i i' ri ri' g hri hri' (fun e => hne (by rw [e])) hg
     · rw [hh']
       intro hg'
       have h1 := (hblk i ri _ hri hg).1
       have h2 := hold k' e' m' g ho' hm' hg'
       omega
   · rw [hh] at hg
     rcases hl k' e' m'.1 m'.2 he' hm' with ⟨i', ri', rfl, hri', rfl, hh'⟩ | ⟨ho', hh'⟩
     · rw [hh']
       intro hg'
       have h1 := (hblk i' ri' _ hri' hg').1
       have h2 := hold k e m g ho hm hg
       omega
     · rw [hh']; exact h.rr k k' e e' m m' g ho ho' hm hm' hne hg
end
end Go.Proofs.YtjjpakdlkjaigaaGreat

/- A symbolic executor for loaded Go code: the bytes of a string. -/
namespace Go.Proofs.YtjjpakdlkjaigaaGreat
open Go.RowKit
section
variable {P : Program} {τ : Tys} {w0 : World} {E : Env} {aS : List (Array Value)} {a : Act} {w : World}
variable {s : St} {bs : List (Array Value)} {o : Oper}
variable {fr : List (Nat × SV)} {stk : List (List (Nat × SV))} {bx : List (Nat × (TypeId × List SV))} {rw' : List (Nat × Ent)} {dep : Nat}
theorem Den.grow (h : Den τ w0 E s bs w) {w' : World} (hB : Below w.heap.size w w') : Den τ w0 E s bs w' := by
 have hk : Keeps E E w w' := ⟨rfl, hB.size, fun g _ hg => hB.block g hg, fun _ h => .inl h⟩
 have hs := Shift.refl E s s w' rfl
 refine h.move hk rfl (hB.mono (Nat.le_trans h.bM h.Mh)) hs rfl rfl (fun g hg => ⟨(h.owb g hg).1, Nat.lt_of_lt_of_le (h.owb g hg).2 hB.size⟩) ?_ ?_ h.bb h.br h.rr
 · intro k T cs hb
   obtain ⟨ho, us, hh, hc⟩ := h.box k T cs hb
   exact ⟨ho, us, by rw [hB.block _ (h.owb _ ho).2]; exact hh, hs.cells hk hb hc⟩
 · intro k e lo r hl hm
   exact (h.own k e lo r hl hm).keeps hk rfl rfl (h.own k e lo r hl hm).ow fun g hg => hB.block g ((h.own k e lo r hl hm).lt h.owb hg)
theorem bytesL_len (b : ByteArray) : (bytesL b).length = b.size := by
 show (b.toList.map _).length = b.data.size
 rw [List.length_map, ByteArray.toList_eq, Array.length_toList]
theorem bytesL_get (b : ByteArray) {i : Nat} (h : i < b.size) : (bytesL b).getD i 0 = (b[i].toNat : Int) := by
 have h' : i < b.data.size := h
 simp only [bytesL, ByteArray.toList_eq, List.getD_eq_getElem?_getD, List.getElem?_map, Array.getElem?_toList, Array.getElem?_eq_getElem h']
 rfl
theorem bytes_good (hτ : TysOk P τ) (hd : Den τ w0 E ⟨fr, stk, bx, rw', dep⟩ (a.tmps :: aS) w) (hdst : ∀ t, o.dst = some t → t < a.tmps.size) (src dst : TypeId) (x : Operand) (ho : o.op = .convert src dst x) :
  (stepBytes τ src dst x o.dst ⟨fr, stk, bx, rw', dep⟩).good (OpGood P τ w0 E aS o a w) := by
 unfold stepBytes
 split
 · rename_i e htd hts
   split
   · rename_i hte
     rw [SV.force_eq]
     have hx := hd.get x
     split
     · rename_i b hb
       rw [hb] at hx
       obtain hx : a.eval x = .string b := hx
       intro hsz
       obtain ⟨d2, hu2, hd2⟩ := hτ.td hts (by simp)
       obtain rfl : d2 = _ := hd2
       obtain ⟨d3, hu3, hd3⟩ := hτ.td hte (by simp)
       obtain rfl : d3 = _ := hd3
       have hr := run_bytes_of_string (P := P) w src dst e b hu2 (hτ.slice htd) hu3
       generalize hC : bytesRow b (grownCap w b.size 0 e) = C at hr
       generalize hc : grownCap w b.size 0 e = c at hr hC
       have hle : b.size ≤ c := by rw [← hc]; exact grownCap_ge w _ _ _
       have hB : Below w.heap.size w (w.drew.alloc (.cells C e (C.size, C.size + 1))) := ((Below.refl _ _).drew).alloc (Nat.le_refl _) _
       have hd2 := hd.grow hB
       refine opGood_value (v := .slice (some ⟨w.heap.size, 0, none⟩) b.size c) (w' := w.drew.alloc (.cells C e (C.size, C.size + 1))) (E' := E) ?_ ?_ rfl rfl
       · simp only [execOp, ho, hx, Sem.run_bind, hr]
         rfl
       · refine hd2.put ?_ hdst
         refine ⟨by simpa [Rw.len, Rw.bts, Rw.kd, kdBytes, bytesL_len] using hsz, some ⟨w.heap.size, 0, none⟩, c, by simp [Rw.len, bytesL_len], by simpa [Rw.len, bytesL_len] using hle, fun _ => ⟨_, rfl, rfl, ⟨fun hg => ?_, Nat.le_trans hd.Mh (Nat.le_refl _), fun c' T' lo hi hc' => ?_⟩, ?_⟩⟩
         · exact absurd (hd.owb _ hg).2 (Nat.lt_irrefl _)
         · have hheap : (w.drew.alloc (.cells C e (C.size, C.size + 1))).heap[w.heap.size]? = some (.cells C e (C.size, C.size + 1)) := by
            show (w.heap.push _)[w.heap.size]? = _
            simp
           rw [hheap] at hc'
           injection hc' with hc'
           injection hc' with h1 _ h3
           injection h3 with h4 h5
           subst h1
           exact .inr (by omega)
         · intro i j y hi hy
           have hi' : i < b.size := by simpa [Rw.len, bytesL_len] using hi
           have hj : j = 0 := by
            have := (List.getElem?_eq_some_iff.1 hy).1
            simp [Rw.cell] at this
            exact this
           subst hj
           simp [Rw.cell] at hy
           refine ⟨.int .u8 (b[i].toNat : Int), ?_, ?_⟩
           · have hheap : (w.drew.alloc (.cells C e (C.size, C.size + 1))).heap[w.heap.size]? = some (.cells C e (C.size, C.size + 1)) := by
              show (w.heap.push _)[w.heap.size]? = _
              simp
             have hi2 : i < b.data.size := hi'
             have hCi : C[i]? = some (.int .u8 (b[i].toNat : Int)) := by
              rw [← hC]
              unfold bytesRow
              rw [Array.getElem?_append_left (by simpa using hi2), Array.getElem?_map, Array.getElem?_eq_getElem hi2]
              rfl
             have hadd : (⟨w.heap.size, 0, none⟩ : Addr).add (i * (Rw.bytes (bytesL b)).sz + 0) = ⟨w.heap.size, i, none⟩ := by
              unfold Addr.add
              split <;> simp_all [Rw.sz, Rw.kd, kdSz]
             rw [hadd]
             unfold World.cell?
             dsimp only
             rw [hheap]
             exact hCi
           · subst hy
             have := bytesL_get b hi'
             rw [List.getD_eq_getElem?_getD] at this
             simp only [cd1, sc]
             rw [this]
     · trivial
   · trivial
 · trivial
end
end Go.Proofs.YtjjpakdlkjaigaaGreat

/- A symbolic executor for loaded Go code: calls, and every operation. -/
namespace Go.Proofs.YtjjpakdlkjaigaaGreat
open Go.RowKit
section
variable {P : Program} {τ : Tys} {w0 : World} {E : Env} {aS : List (Array Value)} {a : Act} {w : World}
variable {s : St} {bs : List (Array Value)} {o : Oper}
variable {fr : List (Nat × SV)} {stk : List (List (Nat × SV))} {bx : List (Nat × (TypeId × List SV))} {rw' : List (Nat × Ent)} {dep : Nat}
theorem putRes_good (hd : Den τ w0 E ⟨fr, stk, bx, rw', dep⟩ (a.tmps :: aS) w) (hdst : ∀ t, o.dst = some t → t < a.tmps.size) (f : FuncId) (args : List Value)
  (hrun : (execOp a.eval o).run P w = .ok (.enter f args.toArray) w) (v : SV) (rows : List Rw) (q : Prop) (K : St → RS) (hK : ∀ s' p, (K s').good p ↔ (q → p s'))
  (hc : q → Calls P f args.toArray w fun e w' => ∃ z, e = .returned z ∧ Below w.heap.size w w' ∧ Res τ w.heap.size w' v rows z) :
  (putRes o.dst v rows K ⟨fr, stk, bx, rw', dep⟩).good (OpGood P τ w0 E aS o a w) := by
 unfold putRes
 simp only [keysOk_eq0]
 split
 · rename_i hok
   split
   · rename_i hdn
     refine (hK _ _).2 fun hq next Q h => ?_
     unfold Oper.wp
     rw [hrun, Oper.upon_enter]
     refine (hc hq).mono ?_
     rintro e w' ⟨z, rfl, hb, Er, h1, h2, h3, h4, h5, h6⟩
     have hj := hd.join (kb := 0) (rows := []) hb h2 h3 (fun i r h => by simp at h) (fun i j ri rj g h => by simp at h) rfl
     refine h (E.join Er 0 0) z w' ?_ rfl rfl
     rw [hdn]
     exact hj
   · rename_i d hdn
     have go : ∀ kb, keysFree ⟨fr, stk, bx, rw', dep⟩ kb rows.length = true → ((renum2 kb v).force fun v => K ⟨(d, v) :: fr, stk, bx, addRows rw' kb rows 0, dep⟩).good (OpGood P τ w0 E aS o a w) := by
      intro kb hfree
      rw [SV.force_eq]
      refine (hK _ _).2 fun hq next Q h => ?_
      unfold Oper.wp
      rw [hrun, Oper.upon_enter]
      refine (hc hq).mono ?_
      rintro e w' ⟨z, rfl, hb, Er, h1, h2, h3, h4, h5, h6⟩
      have hj := hd.join (kb := kb) (rows := rows) hb h2 h3 h4 h5 hfree
      have hz := renum2_vd (kb := kb) (R := rw') h2 hd.Mh (fun g hg => (hd.owb g hg).2) hok h6
      have hp := hj.put (d := some d) hz (fun t ht => by simp at ht; subst ht; exact hdst d hdn)
      refine h (E.join Er kb rows.length) z w' ?_ rfl rfl
      rw [hdn]
      exact hp
     split
     · rename_i hfree; exact go _ hfree
     · split
       · rename_i hfree; exact go _ hfree
       · trivial
 · trivial
theorem value_good (hτ : TysOk P τ) {C : Ctx} (hC : CtxOk P τ C) (hd : Den τ w0 E ⟨fr, stk, bx, rw', dep⟩ (a.tmps :: aS) w) (hdst : ∀ t, o.dst = some t → t < a.tmps.size) (c : Call) (x : Operand) (ho : o.op = .call c) (hb : c.callee = .value x) :
  (stepCall τ C c o.dst ⟨fr, stk, bx, rw', dep⟩).good (OpGood P τ w0 E aS o a w) := by
 unfold stepCall
 rw [hb]
 dsimp only
 rw [SV.force_eq]
 have hx := hd.get x
 split
 · rename_i g ls cs hg
   rw [hg] at hx
   obtain ⟨us, vs, hf, h1, h2⟩ := hx
   split
   · rename_i sp hsp
     rw [forceL_eq]
     have hargs : L0 (vd3 E rw' w) (ls ++ getN τ ⟨fr, stk, bx, rw', dep⟩ c.args.toList c.argTypes.toList ++ cs) (us ++ c.args.toList.map a.eval ++ vs) :=
      ((h1.mono fun _ _ _ h => vd3_of_vdf h).append (getN_vd hd _ _)).append (h2.mono fun _ _ _ h => vd3_of_vd0 h)
     have hv := hC.valid g sp hsp _ _ w (args_vd hd hargs)
     have hrun : (execOp a.eval o).run P w = .ok (.enter g (us ++ c.args.toList.map a.eval ++ vs).toArray) w := by
      have he := hC.enters g sp hsp (us ++ c.args.toList.map a.eval ++ vs).toArray w
      simp only [execOp, ho, resolve, hb, hf, Deferred.ofValue, invoke, Sem.run_bind, Sem.run_pure, Result.andThen_ok]
      rw [← he]
      congr 2
      apply Array.toList_inj.1
      simp
     split
     · rename_i v rows hs
       rw [hs] at hv
       exact putRes_good hd hdst g _ hrun v rows True _ (fun s' p => by simp [RS.good]) fun _ => hv
     · rename_i q v rows hs
       rw [hs] at hv
       exact putRes_good hd hdst g _ hrun v rows q _ (fun s' p => by simp [RS.good]) hv
     · trivial
   · trivial
 · trivial
theorem call_good (hτ : TysOk P τ) {C : Ctx} (hC : CtxOk P τ C) (hd : Den τ w0 E ⟨fr, stk, bx, rw', dep⟩ (a.tmps :: aS) w) (hdst : ∀ t, o.dst = some t → t < a.tmps.size) (c : Call) (ho : o.op = .call c) :
  (stepCall τ C c o.dst ⟨fr, stk, bx, rw', dep⟩).good (OpGood P τ w0 E aS o a w) := by
 cases hb : c.callee with
 | value x => exact value_good hτ hC hd hdst c x ho hb
 | invoke r n => unfold stepCall; rw [hb]; trivial
 | builtin b =>
   unfold stepCall
   rw [hb]
   cases b with
   | len =>
     dsimp only
     split
     · rename_i x T hx hT
       rw [SV.force_eq]
       split
       · rename_i n b hn htd hs
         exact len_good hτ hd hdst c x T ho hb hx hT hn (.inl ⟨htd, b, hs⟩)
       · rename_i n e t r hn htd hs
         exact len_good hτ hd hdst c x T ho hb hx hT hn (.inr ⟨⟨_, htd⟩, fun b => by rw [hs]; simp⟩)
       · rename_i n e k hn htd hs
         exact len_good hτ hd hdst c x T ho hb hx hT hn (.inr ⟨⟨_, htd⟩, fun b => by rw [hs]; simp⟩)
       · rename_i n e r hn htd hs
         exact len_good hτ hd hdst c x T ho hb hx hT hn (.inr ⟨⟨_, htd⟩, fun b => by rw [hs]; simp⟩)
       · trivial
     · trivial
   | append =>
     dsimp only
     split
     · rename_i x y T T' hx hT
       split
       · rename_i hTT
         obtain rfl := Nat.eq_of_beq_eq_true hTT
         exact append_good hτ hd hdst c T x y ho hb hx hT
       · trivial
     · trivial
   | min =>
     dsimp only
     split
     · rename_i x y hx
       rw [SV.force_eq, SV.force_eq]
       exact min_good hd hdst c x y .min (.inl rfl) ho hb hx
     · trivial
   | max =>
     dsimp only
     split
     · rename_i x y hx
       rw [SV.force_eq, SV.force_eq]
       exact min_good hd hdst c x y .max (.inr rfl) ho hb hx
     · trivial
   | _ => trivial
theorem step_good (hτ : TysOk P τ) {C : Ctx} (hC : CtxOk P τ C) (hd : Den τ w0 E ⟨fr, stk, bx, rw', dep⟩ (a.tmps :: aS) w) (hdst : ∀ t, o.dst = some t → t < a.tmps.size) :
  (step τ C o ⟨fr, stk, bx, rw', dep⟩).good (OpGood P τ w0 E aS o a w) := by
 unfold step
 dsimp only
 split
 · rename_i x ho; exact move_good hτ hd hdst x (.inl ho)
 · rename_i x ho; exact move_good hτ hd hdst x (.inr ho)
 · rename_i c x y ho; simp only [SV.force_eq]; exact pick_good hd hdst c x y ho
 · rename_i T ho; exact alloc_good hτ hd hdst T ho
 · rename_i T x ho; exact box_good hτ hd hdst T x ho
 · rename_i T ps ho; exact build_good hτ hd hdst T ps ho
 · rename_i T n ps ho; exact lit_good hτ hd hdst T n ps ho
 · rename_i T x ho; rw [SV.force_eq]; exact load_good hτ hd hdst T x ho
 · rename_i T x v ho
   split
   · rename_i hdn; exact store_good hτ hd hdn T x v ho
   · trivial
 · rename_i x ho; rw [SV.force_eq]; exact check_good hd hdst x ho
 · rename_i op T x y T' ho; simp only [SV.force_eq]; exact bin_good hτ hd hdst op T T' x y ho
 · rename_i op T x ho; simp only [SV.force_eq]; exact un_good hd hdst op T x ho
 · rename_i b c x ho
   split
   · exact bytes_good hτ hd hdst b c x ho
   · simp only [SV.force_eq]; exact conv_good hτ hd hdst b c x ho
 · rename_i fn b c ho; exact func_good hd hdst fn b c ho
 · rename_i T n c ho
   split
   · rename_i hnc
     obtain rfl := sameOp_eq hnc
     exact make_good hτ hd hdst T _ ho
   · trivial
 · rename_i T x lo hi mx ho; exact slice_good hτ hd hdst T x lo hi mx ho
 · rename_i S x j ho; rw [SV.force_eq]; exact fieldAddr_good hτ hd hdst S x j ho
 · rename_i S x j ho; rw [SV.force_eq]; exact field_good hτ hd hdst S x j ho
 · rename_i T x i ho; simp only [SV.force_eq]; exact indexAddr_good hτ hd hdst T x i ho
 · rename_i T x i ho; simp only [SV.force_eq]; exact index_good hτ hd hdst T x i ho
 · rename_i x j ho; rw [SV.force_eq]; exact extract_good hd hdst x j ho
 · rename_i c ho; exact call_good hτ hC hd hdst c ho
 · trivial
end
end Go.Proofs.YtjjpakdlkjaigaaGreat

/- A symbolic executor for loaded Go code: a region whose operations come in any order that its edges allow. Definitions alone. -/
namespace Go.Proofs.YtjjpakdlkjaigaaGreat
open Go.RowKit
structure Ob (p : Prop) : Prop where
 out : p
def forceSt (s : St) (K : St → Prop) : Prop := match s with
 | ⟨fr, stk, bx, rw, dep⟩ => forceR rw fun rw => K ⟨fr, stk, bx, rw, dep⟩
theorem forceSt_eq (s : St) (K : St → Prop) : forceSt s K = K s := by cases s; simp only [forceSt, forceR_eq]
def forceAll (s : St) (K : St → Prop) : Prop := match s with
 | ⟨fr, stk, bx, rw, dep⟩ => forceF fr fun fr => forceB bx fun bx => forceR rw fun rw => K ⟨fr, stk, bx, rw, dep⟩
theorem forceAll_eq (s : St) (K : St → Prop) : forceAll s K = K s := by cases s; simp only [forceAll, forceF_eq, forceB_eq, forceR_eq]
structure Stop (p : Prop) : Prop where
 out : p
def RS.wp (r : RS) (K : St → Prop) : Prop := match r with
 | .ok s => forceSt s K
 | .ob p s => Ob p ∧ (p → forceSt s K)
 | .bad => False
noncomputable def stepW (τ : Tys) (C : Ctx) (o : Oper) (s : St) (K : St → Prop) : Prop := match o.op with
 | .call c => match c.callee with
   | .value f => (s.get f).force fun f => match f with
     | .clo g a cs => match C.tr g with
       | some T => forceL (a ++ rawN τ s c.args.toList c.argTypes.toList ++ cs) fun args => T args s fun v s' => v.force fun v => forceSt (putv o.dst v s') K
       | none => (step τ C o s).wp K
     | _ => (step τ C o s).wp K
   | _ => (step τ C o s).wp K
 | _ => (step τ C o s).wp K
def gslot (ops : List Oper) (j : Nat) : Option Tmp := match nth ops j with
 | some o => o.dst
 | none => none
def setLit (t : Nat) (b : Bool) : St → St
 | ⟨fr, stk, bx, rw, dep⟩ => ⟨(t, .lit b) :: fr, stk, bx, rw, dep⟩
def sameB : Bool → Bool → Bool
 | true, true => true
 | false, false => true
 | _, _ => false
def skipO (d : Option Tmp) : St → St
 | ⟨fr, stk, bx, rw, dep⟩ => match d with
   | some d => ⟨(d, .tup []) :: fr, stk, bx, rw, dep⟩
   | none => ⟨fr, stk, bx, rw, dep⟩
def skipV : SV → SV
 | .tup [] => .tup []
 | _ => .junk
def guardO (all : List Oper) (o : Oper) (s : St) (yes no : St → Prop) : Prop := match o.guard with
 | none => yes s
 | some (j, want) => match gslot all j with
   | none => False
   | some t => match lkv s.fr t with
     | .lit b => match sameB b want with
       | true => yes s
       | false => no s
     | .bool b => match want with
       | true => (b = true → yes (setLit t true s)) ∧ (b = false → no (setLit t false s))
       | false => (b = false → yes (setLit t false s)) ∧ (b = true → no (setLit t true s))
     | .tup _ => no s
     | _ => False
def subV : SV → SV → Prop
 | .junk, _ => True
 | .bool c, .lit b => b = c
 | .bool c, .bool b => b = c
 | .lit c, .lit b => b = c
 | .int k' n', .int k n => k = k' ∧ n = n'
 | .str c, .str b => b = c
 | .row .any r', .row _ r => r = r'
 | .row .new r', .row .new r => r = r'
 | .row .old r', .row .old r => r = r'
 | .row _ r', .nilS r => r = r'
 | x, y => x = y
def inM (j m : Nat) : Bool := Nat.beq (Nat.land (Nat.shiftRight m j) 1) 1
def subM (a b : Nat) : Bool := Nat.beq (Nat.land a b) a
def addM (j m : Nat) : Nat := Nat.lor m (Nat.shiftLeft 1 j)
def forceN {α : Type} (n : Nat) (K : Nat → α) : α := match n with
 | 0 => K 0
 | m + 1 => K (m + 1)
theorem forceN_eq {α : Type} (n : Nat) (K : Nat → α) : forceN n K = K n := by cases n <;> rfl
def isR (o : Oper) : Bool := match o.dst with
 | none => false
 | some _ => match o.op with
   | .move _ => true
   | .assign _ => true
   | .pick _ _ _ => true
   | .load _ _ => true
   | .nilCheck _ => true
   | .binOp _ _ _ _ _ => true
   | .unOp _ _ _ => true
   | .convert _ _ _ => true
   | .makeFunc _ _ _ => true
   | .fieldAddr _ _ _ => true
   | .field _ _ _ => true
   | .indexAddr _ _ _ => true
   | .index _ _ _ => true
   | .extract _ _ => true
   | .build _ _ => true
   | .call c => match c.callee with
     | .builtin .len => true
     | .builtin .min => true
     | .builtin .max => true
     | _ => false
   | _ => false
noncomputable def evR (τ : Tys) (s : St) (o : Oper) : RV := match o.op with
 | .move x => .ok (rawT τ s o.type x)
 | .assign x => .ok (rawT τ s o.type x)
 | .pick c a b => (s.get c).force fun c => (s.get a).force fun a => (s.get b).force fun b => evPick c a b
 | .load T x => (s.get x).force fun x => evLoad τ s T x
 | .nilCheck x => (s.get x).force fun x => evCheck s x
 | .binOp op T x y _ => (s.get x).force fun x => (s.get y).force fun y => evBin τ T op x y
 | .unOp op _ x => (s.get x).force fun x => evUn op x
 | .convert a b x => (s.get x).force fun x => evConv τ s a b x
 | .makeFunc fn a c => evFunc fn (getN τ s a.toList []) (getN τ s c.toList [])
 | .fieldAddr S x j => (s.get x).force fun x => evField τ s S j x
 | .field S x j => (s.get x).force fun x => evPart τ S j x
 | .indexAddr T x i => (s.get x).force fun x => (s.get i).force fun i => evIndexAddr τ s T x i
 | .index T x i => (s.get x).force fun x => (s.get i).force fun i => evIndex τ T x i
 | .extract x j => (s.get x).force fun x => evExtract x j
 | .build T ps => evBuild τ s T ps
 | .call c => match c.callee with
   | .builtin .len => match c.args.toList, c.argTypes.toList with
     | [x], [T] => (s.get x).force fun x => match lenOf s.rows x, τ.td T, x with
       | some n, .str, .str _ => .ok (.int .i64 n)
       | some n, .slice _, .row _ _ => .ok (.int .i64 n)
       | some n, .slice _, .own _ => .ok (.int .i64 n)
       | some n, .slice _, .nilS _ => .ok (.int .i64 n)
       | _, _, _ => .bad
     | _, _ => .bad
   | .builtin .min => match c.args.toList with
     | [x, y] => (s.get x).force fun x => (s.get y).force fun y => evMin .min x y
     | _ => .bad
   | .builtin .max => match c.args.toList with
     | [x, y] => (s.get x).force fun x => (s.get y).force fun y => evMin .max x y
     | _ => .bad
   | _ => .bad
 | _ => .bad
def RV.wp (r : RV) (K : SV → Prop) : Prop := match r with
 | .ok v => v.force K
 | .ob q v => Ob q ∧ (q → v.force K)
 | .bad => False
def relV (old : Option SV) (v : SV) (K : SV → Prop) : Prop := match old with
 | none => K v
 | some x => match v, x with
   | .bool b, .lit c => Ob (b = c) ∧ K (.lit c)
   | v, x => subV v x ∧ K v
def putS (d : Tmp) (v : SV) : St → St
 | ⟨fr, stk, bx, rw, dep⟩ => ⟨(d, v) :: fr, stk, bx, rw, dep⟩
noncomputable def fill (τ : Tys) (all : List Oper) (p avO su : Nat) (old : List (Nat × SV)) : List Oper → List (Nat × Nat) → Nat → St → (Nat → St → Prop) → Prop
 | o :: os, (j, b) :: tab, av, s, K => match isR o, o.dst with
   | true, some d => match subM b av with
     | true => match inM j avO, inM j su with
       | true, true => (lkv old d).force fun v => forceN (addM j av) fun av => forceSt (putS d v s) fun s => fill τ all p avO su old os tab av s K
       | true, false => forceN (addM j av) fun av => guardO all o s (fun s => (evR τ s o).wp fun v => (lkv old d).force fun x => relV (some x) v fun v => forceSt (putS d v s) fun s => fill τ all p avO su old os tab av s K)
         fun s => (skipV (lkv old d)).force fun v => forceSt (putS d v s) fun s => fill τ all p avO su old os tab av s K
       | false, _ => forceN (addM j av) fun av => guardO all o s (fun s => (evR τ s o).wp fun v => forceSt (putS d v s) fun s => fill τ all p avO su old os tab av s K)
         fun s => forceSt (putS d (.tup []) s) fun s => fill τ all p avO su old os tab av s K
     | false => fill τ all p avO su old os tab av s K
   | true, none => False
   | false, d => match inM j p with
     | true => forceN (addM j av) fun av => match d with
       | some d => (lkv old d).force fun v => forceSt (putS d v s) fun s => fill τ all p avO su old os tab av s K
       | none => fill τ all p avO su old os tab av s K
     | false => fill τ all p avO su old os tab av s K
 | [], [], av, s, K => K av s
 | _, _, _, _, _ => False
def sureM : List (Nat × Nat) → Nat → Nat
 | [], m => m
 | (j, b) :: l, m => match inM j m with
   | true => forceN (Nat.lor m b) fun m => sureM l m
   | false => sureM l m
def candO (p av : Nat) (F : Nat → Oper → Prop) : List Oper → List (Nat × Nat) → Prop
 | o :: os, (j, b) :: tab => match isR o, inM j p, subM b av with
   | false, false, true => F j o ∧ candO p av F os tab
   | _, _, _ => candO p av F os tab
 | _, _ => True
def allW (p : Nat) : List Oper → List (Nat × Nat) → Bool
 | o :: os, (j, _) :: tab => match isR o, inM j p with
   | false, false => false
   | _, _ => allW p os tab
 | _, _ => true
def pop1 : St → St
 | ⟨fr, _ :: stk, bx, rw, dep⟩ => ⟨fr, stk, bx, rw, dep⟩
 | s => s
noncomputable def refill (τ : Tys) (all : List Oper) (tab : List (Nat × Nat)) (p avO su : Nat) (K : Nat → St → Prop) : St → Prop
 | ⟨old, fr0 :: stk, bx, rw, dep⟩ => fill τ all p avO su old all tab 0 ⟨fr0, old :: fr0 :: stk, bx, rw, dep⟩ fun av s => K av (pop1 s)
 | _ => False
noncomputable def wpNode (τ : Tys) (C : Ctx) (all : List Oper) (tab : List (Nat × Nat)) : Nat → Nat → Nat → St → (St → Prop) → Prop
 | 0, _, _, _, _ => False
 | f + 1, p, av, s, K => match allW p all tab with
   | true => K (pop1 s)
   | false => candO p av (fun j o => forceN (addM j p) fun p' => forceN (sureM tab.reverse p') fun su =>
      guardO all o s (fun s => stepW τ C o s fun s => refill τ all tab p' av su (fun av s => wpNode τ C all tab f p' av s K) s)
       fun s => refill τ all tab p' av su (fun av s => wpNode τ C all tab f p' av s K) (skipO o.dst s)) all tab
noncomputable def wpDraw (τ : Tys) (C : Ctx) (all : List Oper) (tab : List (Nat × Nat)) (K : St → Prop) : St → Prop
 | ⟨fr, stk, bx, rw, dep⟩ => refill τ all tab 0 0 0 (fun av s => wpNode τ C all tab (all.length + 1) 0 av s K) ⟨[], fr :: stk, bx, rw, dep⟩
noncomputable def fill2 (τ : Tys) (all : List Oper) (su : Nat) : List Oper → List (Nat × Nat) → Nat → St → (Nat → St → Prop) → Prop
 | o :: os, (j, b) :: tab, av, s, K => match isR o, o.dst with
   | true, some d => match inM j av with
     | true => match inM j su with
       | true => fill2 τ all su os tab av s K
       | false => guardO all o s (fun s => (evR τ s o).wp fun v => (lkv s.fr d).force fun x => relV (some x) v fun v => forceSt (putS d v s) fun s => fill2 τ all su os tab av s K)
         fun s => (skipV (lkv s.fr d)).force fun v => forceSt (putS d v s) fun s => fill2 τ all su os tab av s K
     | false => match subM b av with
       | true => forceN (addM j av) fun av => guardO all o s (fun s => (evR τ s o).wp fun v => forceSt (putS d v s) fun s => fill2 τ all su os tab av s K)
         fun s => forceSt (putS d (.tup []) s) fun s => fill2 τ all su os tab av s K
       | false => fill2 τ all su os tab av s K
   | true, none => False
   | false, _ => fill2 τ all su os tab av s K
 | [], [], av, s, K => K av s
 | _, _, _, _, _ => False
noncomputable def stepF (τ : Tys) (all : List Oper) (su : Nat) (o : Oper) (j b av : Nat) (s : St) (K : Nat → St → Prop) : Prop := match isR o, o.dst with
  | true, some d => match inM j av with
    | true => match inM j su with
      | true => K av s
      | false => guardO all o s (fun s => (evR τ s o).wp fun v => (lkv s.fr d).force fun x => relV (some x) v fun v => forceSt (putS d v s) fun s => K av s)
        fun s => (skipV (lkv s.fr d)).force fun v => forceSt (putS d v s) fun s => K av s
    | false => match subM b av with
      | true => forceN (addM j av) fun av => guardO all o s (fun s => (evR τ s o).wp fun v => forceSt (putS d v s) fun s => K av s)
        fun s => forceSt (putS d (.tup []) s) fun s => K av s
      | false => K av s
  | true, none => False
  | false, _ => K av s
structure Fill2 (τ : Tys) (all : List Oper) (su : Nat) (os : List Oper) (tab : List (Nat × Nat)) (av : Nat) (s : St) (K : Nat → St → Prop) : Prop where
 out : fill2 τ all su os tab av s K
theorem FlS {τ : Tys} {all : List Oper} {su : Nat} {o : Oper} {os : List Oper} {j b : Nat} {tab : List (Nat × Nat)} {av : Nat} {s : St} {K : Nat → St → Prop}
  (h : ∀ Kf : Nat → St → Prop, (∀ av s, Fill2 τ all su os tab av s K → Kf av s) → stepF τ all su o j b av s Kf) : Fill2 τ all su (o :: os) ((j, b) :: tab) av s K := by
 refine ⟨?_⟩
 rw [fill2]
 exact h (fun av s => fill2 τ all su os tab av s K) fun _ _ h => h.out
theorem FlN {τ : Tys} {all : List Oper} {su : Nat} {av : Nat} {s : St} {K : Nat → St → Prop} (h : K av s) : Fill2 τ all su [] [] av s K := by
 refine ⟨?_⟩
 rw [fill2]
 exact h
noncomputable def wpNode2 (τ : Tys) (C : Ctx) (all : List Oper) (tab : List (Nat × Nat)) : Nat → Nat → Nat → St → (St → Prop) → Prop
 | 0, _, _, _, _ => False
 | f + 1, p, av, s, K => match allW p all tab with
   | true => K s
   | false => candO p av (fun j o => forceN (addM j p) fun p' => forceN (sureM tab.reverse p') fun su => forceN (addM j av) fun av' =>
      guardO all o s (fun s => stepW τ C o s fun s => fill2 τ all su all tab av' s (fun av s => wpNode2 τ C all tab f p' av s K))
       fun s => forceSt (skipO o.dst s) fun s => fill2 τ all su all tab av' s (fun av s => wpNode2 τ C all tab f p' av s K)) all tab
noncomputable def stepN (τ : Tys) (C : Ctx) (all : List Oper) (tab : List (Nat × Nat)) (p av : Nat) (s : St) (K : St → Prop) (Kg : Nat → Nat → Nat → St → Prop) : Prop := match allW p all tab with
  | true => K s
  | false => candO p av (fun j o => forceN (addM j p) fun p' => forceN (sureM tab.reverse p') fun su => forceN (addM j av) fun av' =>
     guardO all o s (fun s => stepW τ C o s fun s => Kg p' su av' s)
      fun s => forceSt (skipO o.dst s) fun s => Kg p' su av' s) all tab
structure Node2 (τ : Tys) (C : Ctx) (all : List Oper) (tab : List (Nat × Nat)) (f p av : Nat) (s : St) (K : St → Prop) : Prop where
 out : wpNode2 τ C all tab f p av s K
theorem NdS {τ : Tys} {C : Ctx} {all : List Oper} {tab : List (Nat × Nat)} {f p av : Nat} {s : St} {K : St → Prop}
  (h : ∀ Kg : Nat → Nat → Nat → St → Prop, (∀ p' su av' s, Fill2 τ all su all tab av' s (fun av s => Node2 τ C all tab f p' av s K) → Kg p' su av' s) → stepN τ C all tab p av s K Kg) : Node2 τ C all tab (f + 1) p av s K := by
 refine ⟨?_⟩
 rw [wpNode2]
 exact h (fun p' su av' s => fill2 τ all su all tab av' s (fun av s => wpNode2 τ C all tab f p' av s K)) fun p' su av' s h => by
  have h := h.out
  rw [show (fun av s => Node2 τ C all tab f p' av s K) = fun av s => wpNode2 τ C all tab f p' av s K from funext fun av => funext fun s => propext ⟨fun h => h.out, fun h => ⟨h⟩⟩] at h
  exact h
noncomputable def wpDraw2 (τ : Tys) (C : Ctx) (all : List Oper) (tab : List (Nat × Nat)) (K : St → Prop) (s : St) : Prop := match all with
 | o :: os => forceN (os.length + 2) fun f => Fill2 τ (o :: os) 0 (o :: os) tab 0 s fun av s => Node2 τ C (o :: os) tab f 0 av s K
 | [] => False
def bindsB (e : Edge) : Bool := match e.ground with
 | .textOnly _ => false
 | .gcOnly _ => false
 | _ => true
def edgeM : List Edge → Nat → Nat
 | [], m => m
 | e :: l, m => match bindsB e with
   | true => edgeM l (addM e.on m)
   | false => edgeM l m
def tmpsOf : List Operand → List Nat
 | [] => []
 | .tmp t :: l => t :: tmpsOf l
 | _ :: l => tmpsOf l
def looks (all : List Oper) (o : Oper) : List Nat := match o.guard with
 | some (g, _) => match gslot all g with
   | some t => t :: tmpsOf o.op.operands.toList
   | none => tmpsOf o.op.operands.toList
 | none => tmpsOf o.op.operands.toList
def tabOk : List Oper → List (Nat × Nat) → Nat → Bool
 | [], [], _ => true
 | o :: os, (j, b) :: tab, n => Nat.beq j n && Nat.beq b (edgeM o.after.toList 0) && (o.after.toList.all fun e => Nat.blt e.on n || !bindsB e) && tabOk os tab (n + 1)
 | _, _, _ => false
def pairOk (all : List Oper) (j b : Nat) (o : Oper) (i c : Nat) (q : Oper) : Bool := match q.dst with
 | none => true
 | some t => match Nat.beq i j with
   | true => true
   | false => !(match o.dst with
      | some d => Nat.beq d t
      | none => false) && (!memT t (looks all o) || (inM i b || inM j c))
where memT (t : Nat) : List Nat → Bool
 | [] => false
 | x :: l => Nat.beq x t || memT t l
def pairsOk (all : List Oper) (tab : List (Nat × Nat)) (j b : Nat) (o : Oper) : List Oper → List (Nat × Nat) → Bool
 | q :: qs, (i, c) :: t => pairOk all j b o i c q && pairsOk all tab j b o qs t
 | _, _ => true
def allPairs (all : List Oper) (tab : List (Nat × Nat)) : List Oper → List (Nat × Nat) → Bool
 | o :: os, (j, b) :: t => pairsOk all tab j b o all tab && allPairs all tab os t
 | _, _ => true
def noSel : List Oper → Bool
 | [] => true
 | o :: l => match o.op with
   | .select _ _ => false
   | _ => noSel l
def slotsM : List Nat → Nat
 | [] => 0
 | t :: l => addM t (slotsM l)
def pairB (j b m : Nat) (od : Option Tmp) (i c : Nat) (qd : Option Tmp) : Bool := match qd with
 | none => true
 | some t => match Nat.beq i j with
   | true => true
   | false => !(match od with
      | some d => Nat.beq d t
      | none => false) && (!inM t m || (inM i b || inM j c))
def pairsB (j b m : Nat) (od : Option Tmp) : List Oper → List (Nat × Nat) → Bool
 | q :: qs, (i, c) :: t => match pairB j b m od i c q.dst with
   | true => pairsB j b m od qs t
   | false => false
 | _, _ => true
def allPairsB (all : List Oper) (tab : List (Nat × Nat)) : List Oper → List (Nat × Nat) → Bool
 | o :: os, (j, b) :: t => forceN (slotsM (looks all o)) fun m => match pairsB j b m o.dst all tab with
   | true => allPairsB all tab os t
   | false => false
 | _, _ => true
def overB (b m : Nat) : List Oper → List (Nat × Nat) → Bool
 | q :: qs, (i, _) :: t => match q.dst with
   | none => overB b m qs t
   | some d => match !inM d m || inM i b with
     | true => overB b m qs t
     | false => false
 | _, _ => true
def allOver (all : List Oper) (tab : List (Nat × Nat)) : List Oper → List (Nat × Nat) → Bool
 | o :: os, (_, b) :: t => forceN (slotsM (looks all o)) fun m => match overB b m all tab with
   | true => allOver all tab os t
   | false => false
 | _, _ => true
def noAsg : List Oper → Bool
 | [] => true
 | o :: l => match o.op with
   | .assign _ => false
   | _ => noAsg l
def forceSp {α β : Type} : List α → (List α → β) → β
 | [], K => K []
 | x :: l, K => forceSp l fun l' => K (x :: l')
theorem forceSp_eq {α β : Type} (l : List α) (K : List α → β) : forceSp l K = K l := by
 induction l generalizing K with
 | nil => rfl
 | cons x l ih => rw [forceSp, ih]
def growSel (all : List Oper) : Bool := match noAsg all with
 | true => true
 | false => Nat.blt 24 all.length
def drawOk (all : List Oper) (tab : List (Nat × Nat)) : Bool := tabOk all tab 0 && allPairsB all tab all tab && noSel all
end Go.Proofs.YtjjpakdlkjaigaaGreat

/- A symbolic executor for loaded Go code: what a body has to meet. Definitions alone. -/
namespace Go.Proofs.YtjjpakdlkjaigaaGreat
open Go.RowKit
inductive Ex where
 | normal
 | exit (id : Nat)
 | ret
abbrev KC := Ex → St → Prop
noncomputable def wpOpsL (τ : Tys) (C : Ctx) (all : List Oper) : List Oper → St → (St → Prop) → Prop
 | [], s, K => K s
 | o :: os, s, K => guardO all o s (fun s => stepW τ C o s fun s => wpOpsL τ C all os s K) fun s => wpOpsL τ C all os (skipO o.dst s) K
def subL : List SV → List SV → Prop
 | [], [] => True
 | x :: l, y :: l' => subV x y ∧ subL l l'
 | _, _ => False
def subFr (f : List (Nat × SV)) : List (Nat × SV) → Prop
 | [] => True
 | (t, v) :: l => subV v (lkv f t) ∧ subFr f l
def subBx (b : List (Nat × (TypeId × List SV))) : List (Nat × (TypeId × List SV)) → Prop
 | [] => True
 | (k, (T, cs)) :: l => (match lk b k with
   | some (T', cs') => T' = T ∧ subL cs cs'
   | none => False) ∧ subBx b l
def subE : Ent → Ent → Prop
 | .own r', .own r => r = r'
 | x, y => x = y
def subRw (R : List (Nat × Ent)) : List (Nat × Ent) → Prop
 | [] => True
 | (k, e) :: l => (match lk R k with
   | some e' => subE e e'
   | none => False) ∧ subRw R l
def subStk : List (List (Nat × SV)) → List (List (Nat × SV)) → Prop
 | [], [] => True
 | f :: l, f' :: l' => f = f' ∧ subStk l l'
 | _, _ => False
def St.sub : St → St → Prop
 | ⟨fr, stk, bx, rw, dep⟩, ⟨fr', stk', bx', rw', dep'⟩ => match Nat.beq dep dep' with
   | true => subStk stk stk' ∧ subFr fr' fr ∧ subBx bx' bx ∧ subRw rw' rw
   | false => False
def memN (n : Nat) : List Nat → Bool
 | [] => false
 | k :: l => match Nat.beq n k with
   | true => true
   | false => memN n l
def cutF (W : List Nat) : List (Nat × SV) → List (Nat × SV)
 | [] => []
 | (t, v) :: l => match memN t W with
   | true => cutF W l
   | false => (t, v) :: cutF (t :: W) l
def cutK {α : Type} (W : List Nat) : List (Nat × α) → List (Nat × α)
 | [] => []
 | (k, v) :: l => match memN k W with
   | true => cutK W l
   | false => (k, v) :: cutK (k :: W) l
structure Inv where
 σ : Type
 W : List Nat
 X : List Nat
 ok : σ → Prop
 st : σ → St → St
 mu : σ → Nat
 fl : Option (List Nat)
 ad : List (Nat × (Nat × Nat))
def lkI : List (Nat × Inv) → Nat → Option Inv
 | [], _ => none
 | (k, v) :: l, t => match Nat.beq k t with
   | true => some v
   | false => lkI l t
def entry (W X : List Nat) (dep : Nat) : St → St
 | ⟨fr, stk, bx, rw, d⟩ => ⟨cutF W fr, stk, cutK (W.map (· + dep) ++ X) bx, cutK (W.map (· + dep) ++ X) rw, d⟩
def Code.first : Code → Nat
 | .region id _ _ => id
 | .seq a _ => Code.first a
 | .cond _ a _ => Code.first a
 | .block _ b => Code.first b
 | .loop b => Code.first b
 | .scope b => Code.first b
 | _ => 0
structure SubJ (T s : St) : Prop where
 out : St.sub T s
structure DrawJ (p : (St → Prop) → Prop) (K : St → Prop) : Prop where
 out : p K ∨ ∃ T, p (fun s => SubJ T s) ∧ K T
def noGuard : List Oper → Bool
 | [] => true
 | o :: l => match o.guard with
   | none => noGuard l
   | some _ => false
abbrev Draws := List (Nat × List (Nat × Nat))
def ownKeys (keep : List Nat) : List (Nat × Ent) → List SV
 | [] => []
 | (k, _) :: l => match memN k keep with
   | true => ownKeys keep l
   | false => .own k :: ownKeys keep l
def dem (e : Ent) : Ent := match e.row with
 | (t, r) => .shared t r
def demoteM (keep : List Nat) : List (Nat × Ent) → List (Nat × Ent)
 | [] => []
 | (k, e) :: l => match memN k keep with
   | true => (k, e) :: demoteM keep l
   | false => (k, dem e) :: demoteM keep l
def flat0 (R : List (Nat × Ent)) : SV → SV
 | .own k => match lk R k with
   | some (.shared t r) => .row t r
   | _ => .own k
 | v => v
def flatL (R : List (Nat × Ent)) : List SV → List SV
 | [] => []
 | v :: l => flat0 R v :: flatL R l
def flat1 (R : List (Nat × Ent)) : SV → SV
 | .agg cs => .agg (flatL R cs)
 | v => flat0 R v
def flatF (R : List (Nat × Ent)) : List (Nat × SV) → List (Nat × SV)
 | [] => []
 | (t, v) :: l => (t, flat1 R v) :: flatF R l
def flatB (R : List (Nat × Ent)) : List (Nat × (TypeId × List SV)) → List (Nat × (TypeId × List SV))
 | [] => []
 | (k, (T, cs)) :: l => (k, (T, flatL R cs)) :: flatB R l
def flatS0 (keep : List Nat) : St → St
 | ⟨fr, stk, bx, rw, dep⟩ => ⟨flatF (demoteM keep rw) fr, stk, flatB (demoteM keep rw) bx, demoteM keep rw, dep⟩
def ag0 : SV → SV
 | .row _ r => .row .old r
 | .pre _ r n => .pre .old r n
 | .pt _ cs => .pt .old cs
 | .own _ => .junk
 | .oel _ _ _ => .junk
 | .agg _ => .junk
 | .tup _ => .junk
 | .clo _ _ _ => .junk
 | v => v
def agL : List SV → List SV
 | [] => []
 | v :: l => ag0 v :: agL l
def ag1 : SV → SV
 | .agg cs => .agg (agL cs)
 | v => ag0 v
def agF : List (Nat × SV) → List (Nat × SV)
 | [] => []
 | (t, v) :: l => (t, ag1 v) :: agF l
def agS : List (List (Nat × SV)) → List (List (Nat × SV))
 | [] => []
 | f :: l => agF f :: agS l
def agB : List (Nat × (TypeId × List SV)) → List (Nat × (TypeId × List SV))
 | [] => []
 | (k, (T, cs)) :: l => (k, (T, agL cs)) :: agB l
def ageSt : St → St
 | ⟨fr, stk, bx, _, dep⟩ => ⟨agF fr, agS stk, agB bx, [], dep⟩
def flatSt (keep : List Nat) (s : St) : St := match memN 999999999 keep with
 | true => ageSt (flatS0 [] s)
 | false => flatS0 keep s
def adopt1 (t k kd : Nat) : St → St
 | ⟨fr, stk, bx, rw, dep⟩ => match lkv fr t with
   | .nilS r => match Nat.beq r.kd kd, Nat.blt kd 12, St.has (own0 (dep + k)) ⟨fr, stk, bx, rw, dep⟩ with
     | true, true, false => ⟨(t, .own (dep + k)) :: fr, stk, bx, upd rw (dep + k) (.own (mkEmpty kd)), dep⟩
     | _, _, _ => ⟨fr, stk, bx, rw, dep⟩
   | _ => ⟨fr, stk, bx, rw, dep⟩
def adoptSt : List (Nat × (Nat × Nat)) → St → St
 | [], s => s
 | (t, (k, kd)) :: l, s => adoptSt l (adopt1 t k kd s)
def keepOf : Option (List Nat) → List Nat
 | some l => l
 | none => []
def flatC0 {α : Type} (keep : List Nat) (s : St) (K : St → α) : α := match s with
 | ⟨fr, stk, bx, rw, dep⟩ => forceR rw fun rw => forceR (demoteM keep rw) fun R => forceF (flatF R fr) fun fr => forceB (flatB R bx) fun bx => K ⟨fr, stk, bx, R, dep⟩
def ageC {α : Type} (s : St) (K : St → α) : α := match s with
 | ⟨fr, stk, bx, _, dep⟩ => forceF (agF fr) fun fr => forceB (agB bx) fun bx => K ⟨fr, agS stk, bx, [], dep⟩
def flatC {α : Type} (keep : List Nat) (s : St) (K : St → α) : α := match memN 999999999 keep with
 | true => flatC0 [] s fun s => ageC s K
 | false => flatC0 keep s K
noncomputable def wpC (τ : Tys) (C : Ctx) (D : Draws) (L : List (Nat × Inv)) : Code → St → KC → Prop
 | .skip, s, K => K .normal s
 | .region id ops true, s, K => match lk D id with
   | some tab => match noGuard ops.toList with
     | true => DrawJ (fun K => wpDraw τ C ops.toList tab K s) (K .normal)
     | false => match growSel ops.toList with
       | true => forceSp ops.toList fun l => wpDraw2 τ C l tab (K .normal) s
       | false => wpDraw τ C ops.toList tab (K .normal) s
   | none => False
 | .region _ ops false, s, K => wpOpsL τ C ops.toList ops.toList s (K .normal)
 | .seq a b, s, K => match lkI L (1000000 + Code.first b) with
   | some ⟨σ, W, X, ok, st, _, fl, _⟩ => flatC (keepOf fl) (entry W X s.dep s) fun e0 => (wpC τ C D L a s fun e s' => match e with
     | .normal => ∃ g : σ, ok g ∧ flatC (keepOf fl) s' fun s1 => St.sub (st g e0) s1
     | e => K e s') ∧ ∀ g : σ, ok g → forceAll (st g e0) fun s0 => Stop (wpC τ C D L b s0 K)
   | none => wpC τ C D L a s fun e s => match e with
     | .normal => wpC τ C D L b s K
     | e => K e s
 | .cond c a b, s, K => match s.get c with
   | .lit true => wpC τ C D L a s K
   | .lit false => wpC τ C D L b s K
   | .bool t => match c with
     | .tmp n => (t = true → wpC τ C D L a (setLit n true s) K) ∧ (t = false → wpC τ C D L b (setLit n false s) K)
     | _ => (t = true → wpC τ C D L a s K) ∧ (t = false → wpC τ C D L b s K)
   | _ => False
 | .block id b, s, K => wpC τ C D L b s fun e s => match e with
   | .exit i => match Nat.beq i id with
     | true => K .normal s
     | false => K (.exit i) s
   | e => K e s
 | .loop b, s, K => match lkI L (Code.first b) with
   | some ⟨σ, W, X, ok, st, mu, none, ad⟩ => (∃ g : σ, ok g ∧ St.sub (st g (entry W X s.dep s)) (adoptSt ad s)) ∧ ∀ g : σ, ok g → forceAll (st g (entry W X s.dep s)) fun s0 => Stop (wpC τ C D L b s0 fun e s' => match e with
     | .normal => ∃ g' : σ, ok g' ∧ mu g' < mu g ∧ St.sub (st g' (entry W X s.dep s)) s'
     | e => K e s')
   | some ⟨σ, W, X, ok, st, mu, some keep, ad⟩ => flatC keep (entry W X s.dep s) fun e0 => (∃ g : σ, ok g ∧ flatC keep (adoptSt ad s) fun s1 => St.sub (st g e0) s1) ∧ ∀ g : σ, ok g → forceAll (st g e0) fun s0 => Stop (wpC τ C D L b s0 fun e s' => match e with
     | .normal => ∃ g' : σ, ok g' ∧ mu g' < mu g ∧ flatC keep s' fun s1 => St.sub (st g' e0) s1
     | e => K e s')
   | none => False
 | .exit id, s, K => K (.exit id) s
 | .ret, s, K => K .ret s
 | _, _, _ => False
def SV.old0 : SV → SV
 | .row .any r => .row .old r
 | .pt .any cs => .pt .old cs
 | v => v
def oldL : List SV → List SV
 | [] => []
 | v :: l => v.old0 :: oldL l
def SV.old : SV → SV
 | .agg cs => .agg (oldL cs)
 | v => v.old0
def enterF : List SV → Nat → List (Nat × SV)
 | [], _ => []
 | v :: l, n => (n, v.old) :: enterF l (n + 1)
def startSt (args : List SV) : St := ⟨enterF args 0, [], [], [], 0⟩
def matchV (R : List (Nat × Ent)) (rows : List Rw) : SV → SV → Prop
 | .int k n, .int k' n' => k = k' ∧ n = n'
 | .bool b, .bool c => b = c
 | .lit b, .bool c => b = c
 | .str b, .str c => b = c
 | .own k, .own i => match lk R k, nth rows i with
   | some (.own r), some r' => r = r'
   | some (.part lo r), some r' => r = r' ∧ r.len ≤ lo
   | _, _ => False
 | .nilS r, .own i => match nth rows i with
   | some r' => r = r'
   | none => False
 | .row .new r, .row .new r' => r = r'
 | .nilS r, .row .new r' => r = r'
 | .own k, .row .new r' => match lk R k with
   | some (.shared .new r) => r = r'
   | _ => False
 | _, _ => False
def matchL (p : SV → SV → Prop) : List SV → List SV → Prop
 | [], [] => True
 | x :: l, y :: l' => p x y ∧ matchL p l l'
 | _, _ => False
def matchA (R : List (Nat × Ent)) (rows : List Rw) : SV → SV → Prop
 | .agg cs, .agg cs' => matchL (matchV R rows) cs cs'
 | x, y => matchV R rows x y
def matchT (R : List (Nat × Ent)) (rows : List Rw) : SV → SV → Prop
 | .tup cs, .tup cs' => matchL (matchA R rows) cs cs'
 | x, y => matchA R rows x y
def pairV : SV → SV → List (Nat × Option Nat)
 | .own k, .own i => [(i, some k)]
 | .nilS _, .own i => [(i, none)]
 | _, _ => []
def pairL (p : SV → SV → List (Nat × Option Nat)) : List SV → List SV → List (Nat × Option Nat)
 | x :: l, y :: l' => p x y ++ pairL p l l'
 | _, _ => []
def pairA : SV → SV → List (Nat × Option Nat)
 | .agg cs, .agg cs' => pairL pairV cs cs'
 | x, y => pairV x y
def pairT : SV → SV → List (Nat × Option Nat)
 | .tup cs, .tup cs' => pairL pairA cs cs'
 | x, y => pairA x y
def soleK (i k : Nat) : List (Nat × Option Nat) → Bool
 | [] => true
 | (j, some k') :: l => match Nat.beq j i, Nat.beq k k' with
   | true, true => soleK i k l
   | false, false => soleK i k l
   | _, _ => false
 | (j, none) :: l => match Nat.beq j i with
   | true => false
   | false => soleK i k l
def soleAll : List (Nat × Option Nat) → List (Nat × Option Nat) → Bool
 | _, [] => true
 | A, (i, some k) :: l => match soleK i k A with
   | true => soleAll A l
   | false => false
 | A, (_, none) :: l => soleAll A l
def coverAll (A : List (Nat × Option Nat)) : Nat → Bool
 | 0 => true
 | n + 1 => match lk A n with
   | some _ => coverAll A n
   | none => false
def resVals (τ : Tys) (s : St) : List ResultVar → List SV → (List SV → Prop) → Prop
 | [], acc, K => K acc.reverse
 | .tmp t :: l, acc, K => (lkv s.fr t).force fun v => resVals τ s l (v :: acc) K
 | .cell a T :: l, acc, K => match evLoad τ s T (lkv s.fr a) with
   | .ok v => v.force fun v => resVals τ s l (v :: acc) K
   | _ => False
def notTup : List SV → Bool
 | [] => true
 | .tup _ :: _ => false
 | _ :: l => notTup l
def oneOf : List SV → SV
 | [v] => v
 | vs => .tup vs
def readV : SV → SV → List SV
 | .own k, .row _ _ => [.own k]
 | _, _ => []
def readL (p : SV → SV → List SV) : List SV → List SV → List SV
 | x :: l, y :: l' => p x y ++ readL p l l'
 | _, _ => []
def readA : SV → SV → List SV
 | .agg cs, .agg cs' => readL readV cs cs'
 | x, y => readV x y
def readT : SV → SV → List SV
 | .tup cs, .tup cs' => readL readA cs cs'
 | x, y => readA x y
def retK (τ : Tys) (res : List ResultVar) (v : SV) (rows : List Rw) : KC := fun e s => match e with
 | .exit _ => False
 | _ => resVals τ s res [] fun vs => (oneOf vs).force fun x => match soleAll (pairT x v) (pairT x v), coverAll (pairT x v) rows.length with
   | true, true => forceR (demoteL (readT x v) s.rows) fun R => matchT R rows x v
   | _, _ => False
def Out.vc (r : Out) (p : SV → List Rw → Prop) : Prop := match r with
 | .ok v rows => p v rows
 | .ob q v rows => q → p v rows
 | .bad => True
def Rw.deep : Rw → Prop
 | .ints l => l.length * 8 ≤ 140737488355328
 | .bytes l => l.length * 1 ≤ 140737488355328
 | .strs l => l.length * 16 ≤ 140737488355328
 | .peers l => l.length * 16 ≤ 140737488355328
 | .items l => l.length * 40 ≤ 140737488355328
 | .tolds l => l.length * 24 ≤ 140737488355328
 | .cuts l => l.length * 16 ≤ 140737488355328
 | .msgs l => l.length * 104 ≤ 140737488355328 ∧ ∀ m ∈ l, m.ids.length * 8 ≤ 140737488355328
 | .nodes l => l.length * 112 ≤ 140737488355328 ∧ ∀ n ∈ l, n.view.peers.length * 16 ≤ 140737488355328 ∧ n.view.passive.length * 8 ≤ 140737488355328 ∧ n.items.length * 40 ≤ 140737488355328 ∧ n.log.length * 24 ≤ 140737488355328
 | .acts l => l.length * 72 ≤ 140737488355328 ∧ ∀ m ∈ l, m.ids.length * 8 ≤ 140737488355328
 | .intss l => l.length * 24 ≤ 140737488355328 ∧ ∀ m ∈ l, m.length * 8 ≤ 140737488355328
 | .bools l => l.length * 1 ≤ 140737488355328
def fits0 : SV → Prop
 | .row _ r => r.deep
 | _ => True
def fitsL : List SV → Prop
 | [] => True
 | x :: l => fits0 x ∧ fitsL l
def fitsV : SV → Prop
 | .pt _ cs => fitsL cs
 | .agg cs => fitsL cs
 | x => fits0 x
def argFits : List SV → Prop
 | [] => True
 | x :: l => fitsV x ∧ argFits l
def dstOk (n : Nat) : List Oper → Bool
 | [] => true
 | o :: l => match o.dst with
   | some d => match Nat.blt d n with
     | true => dstOk n l
     | false => false
   | none => dstOk n l
def growOk (all : List Oper) (tab : List (Nat × Nat)) : Bool := match noGuard all, growSel all with
 | false, true => allOver all tab all tab
 | _, _ => true
def codeOk (D : Draws) (n : Nat) : Code → Bool
 | .region _ ops false => dstOk n ops.toList
 | .region id ops true => dstOk n ops.toList && match lk D id with
   | some tab => drawOk ops.toList tab && growOk ops.toList tab
   | none => true
 | .seq a b => match codeOk D n a with
   | true => codeOk D n b
   | false => false
 | .cond _ a b => match codeOk D n a with
   | true => codeOk D n b
   | false => false
 | .block _ b => codeOk D n b
 | .loop b => codeOk D n b
 | .scope b => codeOk D n b
 | _ => true
end Go.Proofs.YtjjpakdlkjaigaaGreat
