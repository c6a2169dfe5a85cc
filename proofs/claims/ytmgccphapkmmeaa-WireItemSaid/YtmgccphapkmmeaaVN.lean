/- A symbolic executor for loaded Go code: each step is the machine's: conversions, functions, make, slices, append. -/
import Derived.Test.YtmgccphapkmmeaaVM
namespace Go.Proofs.Ytmgccphapkmmeaa
open Go.RowKit

section
variable {P : Program} {τ : Tys} {w0 : World} {E : Env} {as : List (Array Value)} {a : Act} {w : World}
variable {s : St} {bs : List (Array Value)} {o : Oper}
variable {fr : List (Nat × SV)} {stk : List (List (Nat × SV))} {bx : List (Nat × (TypeId × List SV))} {rw' : List (Nat × Ent)} {dep : Nat}

/-! ### Conversions -/
theorem bytesOf_eq (xs : List Int) : (⟨(bytesOf xs).toArray⟩ : ByteArray) = strOfNums xs := by
  have : bytesOf xs = xs.map fun n => UInt8.ofNat n.toNat := by
    induction xs with
    | nil => rfl
    | cons x xs ih => simp [bytesOf, ih]
  rw [this]; rfl
theorem toStr_run {F : Nat → Prop} {xs : List Int} {v : Value} {src dst e : TypeId} (hs : P.underlying src = some (.slice e)) (he : P.underlying e = some (.int .u8)) (hd : P.underlying dst = some .string) (h : RowDen w F (.bytes xs) v) :
    (convert src dst v).run P w = .ok (.string ⟨(bytesOf xs).toArray⟩) w := by
  rw [bytesOf_eq]
  obtain ⟨h0, A, c, rfl, hn, h⟩ := h
  simp only [Rw.len] at hn h
  by_cases hp : 0 < xs.length
  · obtain ⟨ad, rfl, hsp, hF, hc⟩ := h hp
    obtain ⟨b, off, sp⟩ := ad
    simp at hsp
    subst hsp
    refine run_convert_bytes_arg w src e hs he b off _ c xs rfl (fun i hi => ?_) dst hd
    obtain ⟨u, hu, hcd⟩ := hc i 0 _ hi rfl
    obtain rfl : u = _ := hcd
    rw [Addr.add_lit] at hu
    simpa [Rw.sz, Rw.kd, kdSz] using hu
  · have : xs = [] := List.eq_nil_of_length_eq_zero (by omega)
    subst this
    cases A with
    | none => exact run_convert_bytes_nil w src e hs he 0 c dst hd
    | some ad =>
      rw [show (Rw.bytes []).len = 0 from rfl]
      have hr := run_convert_bytes_arg w src e hs he ad.block ad.off 0 c [] rfl (fun i hi => by omega) dst hd
      rw [run_convert_bytes_string w src dst e _ 0 c hs he hd, run_bytesToString w ad 0 c [] (by simp [loadCells, loadCellsFrom])]
      rfl
/-- A row that an own header, or one that is written no more, reads as. -/
theorem own_read (hd : Den τ w0 E s bs w) {k : Nat} {e : Ent} (hk : lk s.rows k = some e) {v : Value} (hv : vd3 E s.rows w (.own k) v) : RowDen w (fun _ => True) e.row.2 v := by
  simp only [vd3, vd2, vd1, vd0] at hv
  rw [hk] at hv
  cases e with
  | own r => obtain rfl : v = _ := hv; exact (hd.own k _ _ r hk rfl).read (fun _ _ => trivial) fun _ _ _ _ => trivial
  | part lo r => obtain rfl : v = _ := hv; exact (hd.own k _ _ r hk rfl).read (fun _ _ => trivial) fun _ _ _ _ => trivial
  | shared t r => exact RowDen.mono hv fun _ _ _ => ⟨rfl, trivial⟩
theorem conv_ok (hτ : TysOk P τ) (hd : Den τ w0 E ⟨fr, stk, bx, rw', dep⟩ (a.tmps :: as) w) (src dst : TypeId) (x : Operand) (ho : o.op = .convert src dst x) :
    (evConv τ ⟨fr, stk, bx, rw', dep⟩ src dst (St.get ⟨fr, stk, bx, rw', dep⟩ x)).good (Yld P o a w E rw') := by
  have hx := hd.get x
  refine RV.ok_of (c := convert src dst (a.eval x)) (fun z hz => by simp only [execOp, ho, Sem.run_bind, hz]; rfl) ?_
  unfold evConv
  split
  · rename_i k' hdd
    split
    · rename_i k n k1 hn hsd
      rw [hn] at hx
      obtain hx : a.eval x = .int k n := hx
      obtain ⟨d, hu, hd1⟩ := hτ.td hdd (by simp)
      obtain rfl : d = _ := hd1
      obtain ⟨d2, hu2, hd2⟩ := hτ.td hsd (by simp)
      obtain rfl : d2 = _ := hd2
      rw [hx]
      exact ⟨.int k' (k'.wrap n), by simp [convert, run_underlying hu, run_underlying hu2, Conv.intToInt], rfl⟩
    · trivial
  · rename_i hdd
    obtain ⟨d, hu, hd1⟩ := hτ.td hdd (by simp)
    obtain rfl : d = _ := hd1
    split
    · rename_i hsd
      obtain ⟨d2, hu2, hd2⟩ := hτ.td hsd (by simp)
      obtain rfl : d2 = _ := hd2
      split
      · rename_i b hb
        rw [hb] at hx
        obtain hx : a.eval x = .string b := hx
        rw [hx]
        exact ⟨.string b, by simp [convert, run_underlying hu, run_underlying hu2], rfl⟩
      · trivial
    · rename_i e hsd
      split
      · rename_i hed
        obtain ⟨d3, hu3, hd3⟩ := hτ.td hed (by simp)
        obtain rfl : d3 = _ := hd3
        split
        · rename_i k hxk
          rw [hxk] at hx
          split
          · rename_i e' hk
            split
            · rename_i t xs hrow
              have := own_read hd hk hx
              rw [hrow] at this
              exact ⟨_, toStr_run (hτ.slice hsd) hu3 hu this, rfl⟩
            · trivial
          · trivial
        · rename_i t xs hxr
          rw [hxr] at hx
          exact ⟨_, toStr_run (hτ.slice hsd) hu3 hu hx, rfl⟩
        · trivial
      · trivial
    · trivial
  · trivial

theorem conv_good (hτ : TysOk P τ) (hd : Den τ w0 E ⟨fr, stk, bx, rw', dep⟩ (a.tmps :: as) w) (hdst : ∀ t, o.dst = some t → t < a.tmps.size) (src dst : TypeId) (x : Operand) (ho : o.op = .convert src dst x) :
    ((evConv τ ⟨fr, stk, bx, rw', dep⟩ src dst (St.get ⟨fr, stk, bx, rw', dep⟩ x)).to o.dst ⟨fr, stk, bx, rw', dep⟩).good (OpGood P τ w0 E as o a w) :=
  RV.to_good' hd hdst (conv_ok hτ hd src dst x ho)
/-! ### Function values, whole numbers, lengths -/
theorem getN_vd (hd : Den τ w0 E s (a.tmps :: as) w) : ∀ (xs : List Operand) (Ts : List TypeId), L0 (vd3 E s.rows w) (getN τ s xs Ts) (xs.map a.eval)
  | [], _ => by simpa [getN] using L0.nil
  | x :: xs, T :: Ts => .cons (hd.getT T x) (getN_vd hd xs Ts)
  | x :: xs, [] => .cons (hd.get x) (getN_vd hd xs [])
theorem allB_mem {p : SV → Bool} {l : List SV} (h : allB p l = true) {x : SV} (hx : x ∈ l) : p x = true := by
  induction l with
  | nil => simp at hx
  | cons y l ih =>
    simp only [allB] at h
    split at h
    · rcases List.mem_cons.1 hx with rfl | hx
      · assumption
      · exact ih h hx
    · simp at h
theorem capOk_vd {x : SV} {u : Value} (h : vd3 E rw' w x u) (ho : capOk x = true) : vd0 E rw' w x u := by
  cases x <;> first | exact h | (simp [capOk] at ho; done)
theorem goOk_mem {l : List SV} (h : firstOk.go l = true) {x : SV} (hx : x ∈ l) : capOk x = true := by
  induction l with
  | nil => simp at hx
  | cons y l ih =>
    simp only [firstOk.go] at h
    split at h
    · rcases List.mem_cons.1 hx with rfl | hx
      · assumption
      · exact ih h hx
    · simp at h
theorem firstOk_vd {x : SV} {u : Value} (h : vd3 E rw' w x u) (ho : firstOk x = true) : vdf E rw' w x u := by
  cases x with
  | agg cs =>
    obtain ⟨us, hv, hl⟩ := h
    exact ⟨us, hv, hl.mono fun y v hy hp => capOk_vd (vd_of_vd1 hp) (goOk_mem ho hy)⟩
  | tup vs => simp [firstOk, capOk] at ho
  | clo f b c => simp [firstOk, capOk] at ho
  | _ => exact h
theorem func_ok (hd : Den τ w0 E ⟨fr, stk, bx, rw', dep⟩ (a.tmps :: as) w) (fn : Fn) (b c : Array Operand) (ho : o.op = .makeFunc fn b c) :
    (evFunc fn (getN τ ⟨fr, stk, bx, rw', dep⟩ b.toList []) (getN τ ⟨fr, stk, bx, rw', dep⟩ c.toList [])).good (Yld P o a w E rw') := by
  refine RV.ok_of (c := Instr.makeFunc fn (b.map a.eval) (c.map a.eval)) (fun z hz => by simp only [execOp, ho, Sem.run_bind, hz]; rfl) ?_
  unfold evFunc
  split
  rotate_left
  · trivial
  rename_i f
  split
  rotate_left
  · trivial
  rename_i h1 h2
  simp only [forceL_eq]
  refine ⟨_, rfl, b.toList.map a.eval, c.toList.map a.eval, ?_, (getN_vd hd b.toList []).mono fun x u hx hp => firstOk_vd hp (allB_mem h1 hx), (getN_vd hd c.toList []).mono fun x u hx hp => capOk_vd hp (allB_mem h2 hx)⟩
  congr 1 <;> apply Array.ext' <;> simp
theorem func_good (hd : Den τ w0 E ⟨fr, stk, bx, rw', dep⟩ (a.tmps :: as) w) (hdst : ∀ t, o.dst = some t → t < a.tmps.size) (fn : Fn) (b c : Array Operand) (ho : o.op = .makeFunc fn b c) :
    ((evFunc fn (getN τ ⟨fr, stk, bx, rw', dep⟩ b.toList []) (getN τ ⟨fr, stk, bx, rw', dep⟩ c.toList [])).to o.dst ⟨fr, stk, bx, rw', dep⟩).good (OpGood P τ w0 E as o a w) :=
  RV.to_good' hd hdst (func_ok hd fn b c ho)
theorem lenOf_ok (hd : Den τ w0 E s bs w) {x : SV} {v : Value} {n : Nat} (hx : vd3 E s.rows w x v) (h : lenOf s.rows x = some n) : (∃ b, v = .string b ∧ n = b.size ∧ x = .str b) ∨ ∃ A c, v = .slice A n c ∧ n ≤ c ∧ ∀ b, x ≠ .str b := by
  unfold lenOf at h
  simp only [Rw.lenK_eq] at h
  split at h
  · injection h with h
    subst h
    exact .inl ⟨_, hx, rfl, rfl⟩
  · injection h with h
    subst h
    obtain ⟨_, A, c, hv, hn, _⟩ := hx
    exact .inr ⟨A, c, hv, hn, by simp⟩
  · injection h with h
    subst h
    obtain ⟨hv, _⟩ := hx
    exact .inr ⟨none, 0, hv, by omega, by simp⟩
  · split at h
    · rename_i k e hk
      injection h with h
      subst h
      obtain ⟨_, A, c, hv, hn, _⟩ := own_read hd hk hx
      exact .inr ⟨A, c, hv, hn, by simp⟩
    · simp at h
  · simp at h
theorem len_ok (hτ : TysOk P τ) (hd : Den τ w0 E ⟨fr, stk, bx, rw', dep⟩ (a.tmps :: as) w) (c : Call) (x : Operand) (T : TypeId) (ho : o.op = .call c) (hb : c.callee = .builtin .len) (hx : c.args.toList = [x]) (hT : c.argTypes.toList = [T])
    {n : Nat} (hn : lenOf rw' (St.get ⟨fr, stk, bx, rw', dep⟩ x) = some n) (htd : (τ.td T = .str ∧ ∃ b, St.get ⟨fr, stk, bx, rw', dep⟩ x = .str b) ∨ ((∃ e, τ.td T = .slice e) ∧ ∀ b, St.get ⟨fr, stk, bx, rw', dep⟩ x ≠ .str b)) :
    Yld P o a w E rw' (.int .i64 n) := by
  have hargs : c.args = #[x] := by rw [← Array.toArray_toList (xs := c.args), hx]
  have hts : c.argTypes = #[T] := by rw [← Array.toArray_toList (xs := c.argTypes), hT]
  refine ⟨.int .i64 n, ?_, rfl⟩
  have hl := lenOf_ok hd (hd.get x) hn
  simp only [execOp, ho, resolve, hb, hargs, hts, invoke, builtin, Sem.run_bind, Sem.run_pure, Result.andThen_ok]
  rcases hl with ⟨b, hv, hnb, hxb⟩ | ⟨A, c', hv, _, hne⟩
  · rcases htd with ⟨h1, _⟩ | ⟨_, h2⟩
    · obtain ⟨d, hu, hd1⟩ := hτ.td h1 (by simp)
      obtain rfl : d = _ := hd1
      simp [hv, Builtin.len_, run_underlying hu, goInt, hnb]
    · exact absurd hxb (h2 b)
  · rcases htd with ⟨_, b, h2⟩ | ⟨⟨e, h1⟩, _⟩
    · exact absurd h2 (hne b)
    · have hu := hτ.slice h1
      simp [hv, Builtin.len_, run_underlying hu, goInt]
theorem len_good (hτ : TysOk P τ) (hd : Den τ w0 E ⟨fr, stk, bx, rw', dep⟩ (a.tmps :: as) w) (hdst : ∀ t, o.dst = some t → t < a.tmps.size) (c : Call) (x : Operand) (T : TypeId) (ho : o.op = .call c) (hb : c.callee = .builtin .len) (hx : c.args.toList = [x]) (hT : c.argTypes.toList = [T])
    {n : Nat} (hn : lenOf rw' (St.get ⟨fr, stk, bx, rw', dep⟩ x) = some n) (htd : (τ.td T = .str ∧ ∃ b, St.get ⟨fr, stk, bx, rw', dep⟩ x = .str b) ∨ ((∃ e, τ.td T = .slice e) ∧ ∀ b, St.get ⟨fr, stk, bx, rw', dep⟩ x ≠ .str b)) :
    OpGood P τ w0 E as o a w (putv o.dst (.int .i64 n) ⟨fr, stk, bx, rw', dep⟩) := by
  obtain ⟨z, hz, hv⟩ := len_ok hτ hd c x T ho hb hx hT hn htd
  exact opGood_value hz (hd.put hv hdst) rfl rfl
theorem min_ok (hd : Den τ w0 E ⟨fr, stk, bx, rw', dep⟩ (a.tmps :: as) w) (c : Call) (x y : Operand) (op : Builtin) (hop : op = .min ∨ op = .max) (ho : o.op = .call c) (hb : c.callee = .builtin op) (hx : c.args.toList = [x, y]) :
    (evMin op (St.get ⟨fr, stk, bx, rw', dep⟩ x) (St.get ⟨fr, stk, bx, rw', dep⟩ y)).good (Yld P o a w E rw') := by
  have hargs : c.args = #[x, y] := by rw [← Array.toArray_toList (xs := c.args), hx]
  have h1 := hd.get x
  have h2 := hd.get y
  unfold evMin
  split
  · rename_i k p k' q hp hq
    rw [hp] at h1
    rw [hq] at h2
    obtain h1 : a.eval x = _ := h1
    obtain h2 : a.eval y = _ := h2
    refine ⟨_, ?_, rfl⟩
    simp only [execOp, ho, resolve, hb, hargs, invoke, builtin, Sem.run_bind, Sem.run_pure, Result.andThen_ok]
    simp [h1, h2, run_min_int2]
  · rename_i k p k' q hp hq
    rw [hp] at h1
    rw [hq] at h2
    obtain h1 : a.eval x = _ := h1
    obtain h2 : a.eval y = _ := h2
    refine ⟨_, ?_, rfl⟩
    simp only [execOp, ho, resolve, hb, hargs, invoke, builtin, Sem.run_bind, Sem.run_pure, Result.andThen_ok]
    simp [h1, h2, run_max_int2]
  · trivial
theorem min_good (hd : Den τ w0 E ⟨fr, stk, bx, rw', dep⟩ (a.tmps :: as) w) (hdst : ∀ t, o.dst = some t → t < a.tmps.size) (c : Call) (x y : Operand) (op : Builtin) (hop : op = .min ∨ op = .max) (ho : o.op = .call c) (hb : c.callee = .builtin op) (hx : c.args.toList = [x, y]) :
    ((evMin op (St.get ⟨fr, stk, bx, rw', dep⟩ x) (St.get ⟨fr, stk, bx, rw', dep⟩ y)).to o.dst ⟨fr, stk, bx, rw', dep⟩).good (OpGood P τ w0 E as o a w) :=
  RV.to_good' hd hdst (min_ok hd c x y op hop ho hb hx)
end
end Go.Proofs.Ytmgccphapkmmeaa
