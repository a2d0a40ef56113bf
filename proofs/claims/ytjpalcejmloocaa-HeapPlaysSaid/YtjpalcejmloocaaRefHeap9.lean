/-
  Chapter 5's reference (colloquyref05): Make.
-/
import Derived.Test.YtjpalcejmloocaaRefHeap8
import Derived.Test.YtjpalcejmloocaaWord
namespace Go.Proofs.Ytjpalcejmloocaa.RefHeap
open Go.RowKit Go.Proofs.Ytjpalcejmloocaa.Plain Go.Proofs.Ytjpalcejmloocaa.Free Go.Proofs.Ytjpalcejmloocaa.Heap Go.Proofs.Ytjpalcejmloocaa.RefFree
set_option linter.unusedVariables false
theorem infoU32 : (Try.prog.info? 28).map (fun i => (i.zero, i.size, i.bytes)) = some (some (.int .u32 0), 1, 4) := by kernel_rfl
section
variable {ops : Array Oper} {o : Oper} {a : Act} {K : Act → World → Prop} {Q : Exit → Act → World → Prop} {E : Prop}
theorem step_u32 {w0 w : World} (s x : Operand) (ho : o.op = .call { callee := .builtin .append, args := #[s, x], argTypes := #[44, 44] }) (hgd : o.guard = none) (v : Value) (zs : List Int) (hs : a.eval s = v) (h : w.ownsRow w0.heap.size 28 1 v zs.length (zs.map (Value.int .u32))) (x0 : Ext w0 w) (y : Int) (b : Nat) (hx : a.eval x = .slice (some ⟨b, 0, none⟩) 1 1) (hy : Blk w b 28 #[.int .u32 y]) (hlen : zs.length < 1000000)
    (hK : ∀ A' c' w', w'.ownsRow w0.heap.size 28 1 (.slice A' (zs.length + 1) c') (zs.length + 1) ((zs ++ [y]).map (Value.int .u32)) → Ext w0 w' → Keep (fun k => v.ownBlock = some k) w w' → K (a.put o.dst (.slice A' (zs.length + 1) c')) w') :
    if Region.wanted o (yielded ops a.tmps) = true then Oper.wp Try.prog o a w K Q else E := by
  have hw : Region.wanted o (yielded ops a.tmps) = true := by simp [Region.wanted, hgd]
  rw [if_pos hw]
  obtain ⟨i0, hi0, hz0, hz1, hz2⟩ := info_parts infoU32
  obtain ⟨v', w', hr, h2, h3, _, h5⟩ := run_append_own_at (P := Try.prog) w w0.heap.size 44 o.type 28 i0 (.int .u32 0) 1 4 Try.underlying44 hi0 hz0 hz1 hz2 rfl (by decide) v zs.length _ h ⟨b, 0, none⟩ 1 1 [.int .u32 y] rfl (by
      intro j u hj
      rcases j with _ | j
      · simp at hj; subst hj; rw [Addr.add_lit, hy.cell]; rfl
      · simp at hj) (by simp [Value.oneCell']) (by unfold maxLen; omega) (by omega) x0.below.size
  unfold Oper.wp execOp
  simp only [ho, resolve, invoke, builtin, Sem.run_bind, Sem.run_pure, Result.andThen_ok, List.map_toArray, List.map_cons, List.map_nil, hs, hx, hr]
  have k : Keep (fun k => v.ownBlock = some k) w w' := ⟨h3.os, h3.tape, h3.output, h3.size, fun k hk hn => h3.block k hk (fun e => hn e.symm)⟩
  obtain ⟨A', c', rfl, _, _⟩ := own_form h2
  refine hK A' c' w' ?_ (own_ext x0 h k) k
  rw [List.map_append]
  exact h2
end
structure MakeReg (W0 : World) (h bx la lq c0 : Nat) (A0 : Option Addr) (r0 : Value) (n0 : Nat) (xs0 : List Value) (m1 : Nat) (ys1 : List Value) (m2 c2 : Nat) (A2 : Option Addr) (ys2 : List Value) (k9 W9 : Nat) (fmt cls hash : Int) (AV AB : Option Addr) (lF cF lB cB : Nat) (L : Nat → Bool) (s : Nat → Value) (w : World) : Prop where
  x : L 14 = false → Ext W0 w
  kS : L 14 = true → ∀ i, i < 14 → L i = true
  kN : L 12 = true → ∀ i, i < 12 → L i = true
  kM : L 13 = true → L 12 = true
  k12 : L 11 = true → L 4 = true
  kb : L 4 = true → L 3 = true
  o0 : L 4 = false → OneO W0 w r0 n0 xs0
  o1 : L 4 = true → L 11 = false → OneO W0 w (s 137) (n0 + m1) (xs0 ++ ys1)
  o2 : L 11 = true → L 14 = false → OneO W0 w (s 144) (n0 + m1 + m2) (xs0 ++ ys1 ++ ys2)
  es : L 14 = true → ∃ v w1, OneO W0 w1 v (n0 + m1 + m2) (xs0 ++ ys1 ++ ys2) ∧ w = w1.setCell ⟨h, 0, none⟩ v
  v0 : L 0 = true → s 133 = .pointer (some ⟨h, 0, none⟩)
  v1 : L 1 = true → s 134 = r0
  v2 : L 2 = true → s 135 = .agg #[.int .i64 ((k9 : Int) + 1), .int .i64 (3 + (W9 : Int)), .int .i64 fmt, .int .i64 cls, .int .i64 hash, .slice AV lF cF, .slice AB lB cB, .int .i64 0, .bool false]
  v5 : L 5 = true → s 138 = .pointer (some ⟨h, 0, none⟩)
  v6 : L 6 = true → s 139 = .pointer (some ⟨h, 0, none⟩)
  v7 : L 7 = true → s 140 = .pointer (some ⟨h, 0, none⟩)
  v8 : L 8 = true → s 141 = .slice A0 lq c0
  v9 : L 9 = true → s 142 = .int .i64 (la : Int)
  v10 : L 10 = true → s 143 = .slice A2 m2 c2
  v12 : L 12 = true → s 145 = .pointer (some ⟨h, 0, none⟩)
  v13 : L 13 = true → s 146 = .pointer (some ⟨h, 0, none⟩)
  b3 : L 3 = true → L 4 = false → ∃ bb, s 136 = .slice (some ⟨bb, 0, none⟩) 1 1 ∧ Blk w bb 47 #[.int .i64 ((k9 : Int) + 1), .int .i64 (3 + (W9 : Int)), .int .i64 fmt, .int .i64 cls, .int .i64 hash, .slice AV lF cF, .slice AB lB cB, .int .i64 0, .bool false]
def frMakeReg (W0 : World) (h bx la lq c0 : Nat) (A0 : Option Addr) (r0 : Value) (n0 : Nat) (xs0 : List Value) (m1 : Nat) (ys1 : List Value) (m2 c2 : Nat) (A2 : Option Addr) (ys2 : List Value) (k9 W9 : Nat) (fmt cls hash : Int) (AV AB : Option Addr) (lF cF lB cB : Nat) (u s : Nat → Value) : Act := { tmps := #[.pointer (some ⟨h, 0, none⟩), u 1, u 2, u 3, u 4, u 5, u 6, u 7, u 8, u 9, u 10, u 11, u 12, u 13, u 14, u 15, .pointer (some ⟨bx, 0, none⟩), u 17, .int .i64 (la : Int), r0, u 20, u 21, u 22, u 23, u 24, u 25, u 26, u 27, u 28, u 29, u 30, u 31, u 32, u 33, u 34, u 35, u 36, u 37, u 38, u 39, u 40, u 41, u 42, u 43, u 44, u 45, u 46, u 47, u 48, u 49, u 50, u 51, u 52, u 53, u 54, u 55, u 56, u 57, u 58, u 59, u 60, u 61, u 62, u 63, u 64, u 65, u 66, u 67, u 68, u 69, u 70, u 71, u 72, u 73, u 74, u 75, u 76, u 77, u 78, u 79, u 80, u 81, u 82, u 83, u 84, u 85, u 86, u 87, u 88, u 89, u 90, u 91, u 92, u 93, u 94, u 95, u 96, u 97, u 98, u 99, u 100, u 101, u 102, u 103, u 104, u 105, u 106, u 107, u 108, u 109, u 110, u 111, u 112, u 113, u 114, u 115, u 116, u 117, u 118, u 119, u 120, u 121, u 122, u 123, u 124, u 125, u 126, u 127, u 128, u 129, u 130, u 131, u 132, s 133, s 134, s 135, s 136, s 137, s 138, s 139, s 140, s 141, s 142, s 143, s 144, s 145, s 146, u 147, u 148], defers := [] }
def MakeRegInv (W0 : World) (h bx la lq c0 : Nat) (A0 : Option Addr) (r0 : Value) (n0 : Nat) (xs0 : List Value) (m1 : Nat) (ys1 : List Value) (m2 c2 : Nat) (A2 : Option Addr) (ys2 : List Value) (k9 W9 : Nat) (fmt cls hash : Int) (AV AB : Option Addr) (lF cF lB cB : Nat) (u : Nat → Value) (listed : Array Bool) (a : Act) (W : World) : Prop :=
  ∃ L : Nat → Bool, (∀ k, listed.getD k false = L k) ∧ ∃ s : Nat → Value, a = frMakeReg W0 h bx la lq c0 A0 r0 n0 xs0 m1 ys1 m2 c2 A2 ys2 k9 W9 fmt cls hash AV AB lF cF lB cB u s ∧ listed.size = 15 ∧ MakeReg W0 h bx la lq c0 A0 r0 n0 xs0 m1 ys1 m2 c2 A2 ys2 k9 W9 fmt cls hash AV AB lF cF lB cB L s W
section
variable {w w' w2 : World} {h f ib base n : Nat} {vL : Value} {Q Q' A B : List QO} {q : QO} {is is' : List Bool} {L : List Run}
/-- its list cut in two, by its form -/
theorem HAt.cuts2 {A0 : Option Addr} {c0 lq : Nat} (H : HAt w h f ib base n (.slice A0 lq c0) (A ++ B) is) (hl : lq = (A ++ B).length) : (A0 = none ∧ c0 = 0 ∧ A.length = 0 ∧ B.length = 0 ∧ SrcO w none 0 (rowO A) ∧ SrcO w none 0 (rowO B)) ∨ ∃ g, A0 = some ⟨g, 0, none⟩ ∧ lq ≤ c0 ∧ SrcO w (some ⟨g, 0, none⟩) A.length (rowO A) ∧ SrcO w (some (tail9 g A.length c0)) B.length (rowO B) := by
  rcases H.row.2 with ⟨hv, h0⟩ | ⟨g, cap, cur, hv, _, _, hc1, hc2, _⟩
  · have e : A ++ B = [] := List.eq_nil_of_length_eq_zero h0
    obtain ⟨rfl, rfl⟩ := List.append_eq_nil_iff.1 e
    injection hv with e1 _ e2
    exact .inl ⟨e1, e2, rfl, rfl, ⟨rfl, .inl ⟨rfl, rfl⟩, fun u hu => by cases hu⟩, ⟨rfl, .inl ⟨rfl, rfl⟩, fun u hu => by cases hu⟩⟩
  · obtain ⟨s1, s2⟩ := H.srcs hv
    injection hv with e1 e2 e3
    subst e1 e3
    exact .inr ⟨g, rfl, by omega, s1, s2⟩
theorem srcO_blk {b : Nat} {ys : List Value} (hB : Blk w b 47 ys.toArray) (hl : ys.length = 9) (h1 : ∀ u ∈ ys, u.oneCell' = true) : SrcO w (some ⟨b, 0, none⟩) 1 ys := by
  refine ⟨by rw [hl], .inr ⟨_, rfl, fun j u hj => ⟨b, j, by rw [Addr.add_lit, Nat.zero_add], hB.lt, ?_⟩⟩, h1⟩
  rw [hB.cell]
  simpa using hj
theorem own_low {w1 : World} {b1 b2 sz m : Nat} {e : TypeId} {v : Value} {xs : List Value} (ho : w1.ownsRow b1 e sz v m xs) (hb : b2 ≤ b1) : w1.ownsRow b2 e sz v m xs := by
  refine ⟨ho.1, ?_⟩
  rcases ho.2 with hn | ⟨g, cap, cur, e, hb', rest⟩
  · exact .inl hn
  · exact .inr ⟨g, cap, cur, e, Nat.le_trans hb hb', rest⟩
/-- an object more, whose fields and bytes are new -/
theorem HAt.inserted {w1 w20 w10 : World} {v' : Value} {m : Nat} {rows : List Value} (H1 : HAt w1 h f ib base n vL (A ++ B) is) (x20 : Ext w1 w20) (q : QO) (x10 : Ext w20 w10) (oF : w20.ownsRow w1.heap.size 28 1 q.vF q.o.F.length (q.o.F.map (Value.int .u32))) (oB : w20.ownsRow w1.heap.size 5 1 q.vB q.o.B.length (q.o.B.map (Value.int .u8))) (own : w10.ownsRow w20.heap.size 47 9 v' m rows) (hm : m = (A ++ q :: B).length) (hr : rows = rowO (A ++ q :: B)) (few : (A ++ B).length < 100) : HAt (w10.setCell ⟨h, 0, none⟩ v') h f ib base n v' (A ++ q :: B) is ∧ RK base w20 (w10.setCell ⟨h, 0, none⟩ v') := by
  subst hm hr
  have H20 := H1.ext x20
  have hbase : base ≤ w1.heap.size := by have := H1.lo.1; have := H1.blk.lt; omega
  have mem : ∀ p ∈ A ++ q :: B, p = q ∨ p ∈ A ++ B := by
    intro p hp
    rcases List.mem_append.1 hp with h1 | h1
    · exact .inr (List.mem_append_left _ h1)
    · rcases List.mem_cons.1 h1 with h2 | h2
      · exact .inl h2
      · exact .inr (List.mem_append_right _ h2)
  have pw : ∀ (v : QO → Value) (e : TypeId) (sz : QO → Nat) (xs : QO → List Value), (∀ p ∈ A ++ B, w1.ownsRow base e 1 (v p) (sz p) (xs p)) → w20.ownsRow w1.heap.size e 1 (v q) (sz q) (xs q) → (A ++ B).Pairwise (fun a b => ∀ k, (v a).ownBlock = some k → (v b).ownBlock ≠ some k) → (A ++ q :: B).Pairwise (fun a b => ∀ k, (v a).ownBlock = some k → (v b).ownBlock ≠ some k) := by
    intro v e sz xs ho hq p
    have far : ∀ p ∈ A ++ B, ∀ k, (v p).ownBlock = some k → (v q).ownBlock ≠ some k := fun p hp k h1 h2 => by
      obtain ⟨_, cs, b1⟩ := own_blk (ho p hp) h1
      have := (own_blk hq h2).1
      have := b1.lt
      omega
    rw [List.pairwise_append] at p
    rw [List.pairwise_append, List.pairwise_cons]
    refine ⟨p.1, ⟨fun b hb k h1 h2 => far b (List.mem_append_right _ hb) k h2 h1, p.2.1⟩, fun a ha b hb => ?_⟩
    rcases List.mem_cons.1 hb with rfl | hb
    · exact far a (List.mem_append_left _ ha)
    · exact p.2.2 a ha b hb
  refine H20.relist x10 own (fun p hp => ?_) (fun p hp => ?_) (pw (·.vF) _ (·.o.F.length) _ H1.fs oF H1.apF) (pw (·.vB) _ (·.o.B.length) _ H1.bs oB H1.apB) (by simp at few ⊢; omega)
  · refine own_keep ?_ (Keep.of_ext x10 (fun _ => False)) (fun _ _ h => h)
    rcases mem p hp with rfl | h1
    · exact own_low oF hbase
    · exact H20.fs p h1
  · refine own_keep ?_ (Keep.of_ext x10 (fun _ => False)) (fun _ _ h => h)
    rcases mem p hp with rfl | h1
    · exact own_low oB hbase
    · exact H20.bs p h1
set_option maxRecDepth 100000 in
set_option maxHeartbeats 4000000 in
theorem rmakeP (H : HAt w h f ib base n vL (A ++ B) is) (FR : Frees is L) (fmt cls hash : Int) (W : Nat) (hf : fmt = 1 ∨ fmt = 2) (hW : W ≤ 60) (c0 : 0 ≤ cls) (c1 : cls ≤ 65536) (h0 : 0 ≤ hash) (h1 : hash ≤ 3000) {b k : Nat} (hb : bst L (3 + (W : Int)) L.length = some b) (hk : (nth L b).1 = (k : Int)) (hA : ∀ a ∈ A, a.o.k < k) (hB : ∀ c ∈ B, k < c.o.k) (few : (A ++ B).length < 100) :
    Calls Try.prog 9 #[.pointer (some ⟨h, 0, none⟩), .int .i64 fmt, .int .i64 (W : Int), .int .i64 cls, .int .i64 hash] w fun e w' => e = .returned (.tuple #[.int .i64 ((k : Int) + 1), .bool true]) ∧ (∃ v' vF vB, HAt w' h f ib base n v' (A ++ ⟨⟨k, W, fmt, cls, hash, List.replicate W (intW 0), [], 0, false⟩, vF, vB⟩ :: B) (clr is k false (3 + W))) ∧ RK base w w' := by
  have TK := Lib.hid (rtake H.fr FR (3 + W) (by omega) (by omega))
  have HH := Lib.hid H
  obtain ⟨r1, r2, r3⟩ := H.blk.rules
  have hle := H.fr.le
  have BR := Lib.hid (best_run FR hb)
  have LN := Lib.hid H.fr.len
  have HKb := Lib.hid (And.intro hb hk)
  have f1 : 1 ≤ fmt := by omega
  have f2 : fmt ≤ 3 := by omega
  have f3 : (fmt == 3) = false := beq_eq_false_iff_ne.2 (by omega)
  have f4 : (fmt != 3) = true := by simp; omega
  have w0 : (0 : Int) ≤ (W : Int) := by omega
  have w1 : (W : Int) ≤ 60 := by omega
  clear H FR hb hk hf
  go_enter Try.func9, Try.ntmps9
  go_wp2_with fail
  rw [show 3 + (W : Int) = ((3 + W : Nat) : Int) by omega]
  refine TK.out.mono ?_
  rintro e w1' hpost
  obtain ⟨k', hk', rfl, F1, K1⟩ := hpost.2 b (by rw [show ((3 + W : Nat) : Int) = 3 + (W : Int) by omega]; exact HKb.out.1)
  obtain rfl : k' = k := by have := HKb.out.2; omega
  obtain ⟨t1, t2⟩ := HH.out.free K1 F1
  have H1 := Lib.hid t1
  have R1 := Lib.hid t2
  have hkn : k' + (3 + W) ≤ n := by have := BR.out; have := LN.out; have := HKb.out.2; omega
  clear hpost F1 K1 t1 t2 r1 r2 r3 TK hk' HH BR
  have kk0 : (0 : Int) ≤ (k' : Int) := by omega
  have wr1 : IntKind.i64.wrap ((k' : Int) + 1) = (k' : Int) + 1 := IntWalk.i64_in _ (by omega)
  go_upto_region 12 with (fail)
  refine wp_name (fun w2 hW2 => ?_)
  have BX := Lib.hid (Blk.new' hW2)
  have X2 := Lib.hid ((Ext.refl w1').alloc' hW2)
  have SZ := Lib.hid (Nat.le_refl w1'.heap.size)
  clear hW2
  generalize hbx : w1'.heap.size = bx at *
  have HBX := Lib.hid hbx
  clear hbx
  go_wp2_with fail
  have RI := Lib.hid (fun W => Word.rint 0 W (by decide) (by decide))
  rename World => wo
  clear wr1
  go_loopw [17] (fun iv wr => ∃ (j : Nat) (v : Value), j ≤ W ∧ iv = .int .i64 j ∧ Blk wr bx 47 #[.int .i64 ((k' : Int) + 1), .int .i64 (3 + (W : Int)), .int .i64 fmt, .int .i64 cls, .int .i64 hash, v, .slice none 0 0, .int .i64 0, .bool false] ∧ wr.ownsRow w1'.heap.size 28 1 v (List.replicate j (intW 0)).length ((List.replicate j (intW 0)).map (Value.int .u32)) ∧ Ext w1' wr) (fun iv _ => W - (intOf iv).toNat)
  case atStart => exact ⟨0, .slice none 0 0, Nat.zero_le _, rfl, BX.out, World.ownsRow_nil _ _ _ _, X2.out⟩
  case round =>
    obtain ⟨j, v, hj, rfl, B, O, x⟩ := hrel
    obtain ⟨AV, cV, hv, _, _⟩ := own_form O
    rw [List.length_replicate] at hv
    subst hv
    by_cases hlt : j < W
    · have i1 : (j : Int) < (W : Int) := by omega
      obtain ⟨s1, s2, s3⟩ := B.rules
      have BH := Lib.hid B
      have OH := Lib.hid O
      have XH := Lib.hid x
      clear B O x
      go_wp2_with fail
      have XA := Lib.hid ((Ext.refl wr).drew.alloc (.cells #[.int .u32 (intW 0)] 28))
      have OA := Lib.hid (own_keep OH.out (Keep.of_ext XA.out (fun _ => False)) (fun _ _ h => h))
      have BA := Lib.hid (BH.out.ext XA.out)
      have XX := Lib.hid (XH.out.trans XA.out)
      go_region_law (first
        | (refine step_u32 (w0 := w1') (.tmp 99) (.tmp 101) (by rfl) (by rfl) (.slice AV j cV) (List.replicate j (intW 0)) (by rfl) OA.out XX.out (intW 0) wr.heap.size (by rfl) (Blk.new _ _ _) (by simp; omega) ?_; intro A9 c9 w9 o9 x9 k9; have B9 : Blk w9 bx 47 _ := BA.out.keep k9 (fun e => by obtain ⟨_, cs, h9⟩ := own_blk OA.out e; exact BA.out.ne h9 (by decide) rfl); have z5 : w9.cell? ⟨bx, 5, none⟩ = some (.slice AV j cV) := B9.cell 5; have y5 := B9.frozen 5; have l5 := B9.lt)
        | (go_simp; refine (RI.out _).mono ?_; rintro e w' ⟨rfl, rfl⟩))
      all_goals
        have BZ := Lib.hid (B9.set 5 (.slice A9 (j + 1) c9))
        have XZ := Lib.hid (x9.setNew (p := ⟨bx, 5, none⟩) (by rw [HBX.out]; exact Nat.le_refl _) (.slice A9 (j + 1) c9))
        have OZ := Lib.hid (show (w9.setCell ⟨bx, 5, none⟩ (.slice A9 (j + 1) c9)).ownsRow w1'.heap.size 28 1 (.slice A9 (j + 1) c9) (List.replicate (j + 1) (intW 0)).length ((List.replicate (j + 1) (intW 0)).map (Value.int .u32)) from by
          have q := own_keep o9 ((Keep.refl (· = bx) w9).setCell (p := ⟨bx, 5, none⟩) rfl (.slice A9 (j + 1) c9)) (fun g hg hS => by
            obtain ⟨_, cs, h9⟩ := own_blk o9 hg
            subst hS
            exact B9.ne h9 (by decide) rfl)
          rw [show List.replicate (j + 1) (intW 0) = List.replicate j (intW 0) ++ [intW 0] from List.replicate_succ']
          simpa using q)
        clear B9 x9 o9 k9 z5 y5 l5
        go_wp2_with fail
        go_roundw
        case rel => exact ⟨j + 1, _, by omega, by go_num, BZ.out, OZ.out, XZ.out⟩
        case measure => simp [intOf]; omega
    · obtain rfl : j = W := by omega
      have i1 : (j : Int) ≤ (j : Int) := Int.le_refl _
      have H3 := Lib.hid (H1.out.ext x)
      have BH := Lib.hid B
      have OH := Lib.hid O
      have XH := Lib.hid x
      obtain ⟨A0, c0', e0, _, _⟩ := own_form H1.out.row
      have AL := Lib.hid (H3.out.at_)
      subst e0
      have CU := Lib.hid (H3.out.cuts2 rfl)
      clear B O x
      go_wp2_with fail
      clear i1
      have WX : Hid (Ext wr wr) := Lib.hid (Ext.refl _)
      rename World => wz
      have KA : Hid (∀ i, i < A.length → kAt (A ++ B) i < (k' : Int) + 1) := Lib.hid (fun i hi => by
        rw [kAt_get _ _ (by rw [List.length_append]; omega), List.getElem_append_left hi]
        have := hA _ (List.getElem_mem hi)
        omega)
      have KB : Hid (A.length < (A ++ B).length → (k' : Int) + 1 ≤ kAt (A ++ B) A.length) := Lib.hid (fun hlt => by
        rw [kAt_get _ _ hlt]
        have hm : (A ++ B)[A.length]'hlt ∈ B := by rw [List.getElem_append_right (Nat.le_refl _)]; exact List.getElem_mem _
        have := hB _ hm
        omega)
      have LL := Lib.hid (show (A ++ B).length = A.length + B.length from List.length_append)
      have HBK := Lib.hid H3.out.blk
      generalize hK : kAt (A ++ B) = K at *
      generalize hlq : (A ++ B).length = lq at *
      generalize hla : A.length = la at *
      have LQ := Lib.hid hlq
      have LA := Lib.hid hla
      have lle : la ≤ lq := by have := LL.out; omega
      clear hK hlq hla hA hB
      go_loopw [18] (fun iv wx => ∃ t : Nat, t ≤ la ∧ iv = .int .i64 t ∧ Ext wz wx) (fun iv _ => la + 1 - (intOf iv).toNat)
      case atStart => exact ⟨0, Nat.zero_le _, rfl, WX.out⟩
      case round =>
        obtain ⟨t, ht, rfl, x⟩ := hrel
        obtain ⟨r1, r2, r3⟩ := (HBK.out.ext x).rules
        obtain ⟨s1, s2, s3⟩ := (BH.out.ext x).rules
        have XX := Lib.hid x
        by_cases hlt : t < la
        · obtain ⟨g, cap, hv, hg, hc⟩ := AL.out t (by omega)
          injection hv with hv _ _
          subst hv
          have c2 := (x.below.cell (p := ⟨g, t * 9, none⟩) hg).trans hc
          have i1 : (t : Int) < (lq : Int) := by omega
          have e1 : K t < (k' : Int) + 1 := KA.out t hlt
          generalize K t = kk at *
          clear hc x
          go_wp2_with fail
          go_quiet (fail)
          go_wp2_with fail
          exact ⟨⟨t + 1, by omega, by go_num, XX.out.drewN _⟩, by simp [intOf]; omega⟩
        · obtain rfl : t = la := by omega
          have hcs : (t < lq) ∨ (lq = t) := by omega
          rcases hcs with hq | hq
          case' inl =>
            obtain ⟨g, cap, hv, hg, hc⟩ := AL.out t hq
            have hv2 : A0 = some ⟨g, 0, none⟩ := by injection hv
            clear hv
            have c2 := (x.below.cell (p := ⟨g, t * 9, none⟩) hg).trans hc
            have i1 : (t : Int) < (lq : Int) := by omega
            have e1 : (k' : Int) + 1 ≤ K t := KB.out hq
            rw [hv2] at r1
            generalize K t = kk at *
            have HV2 := Lib.hid hv2
            clear hc hv2
          case' inr => have i1 : (lq : Int) ≤ (t : Int) := by omega
          all_goals clear x
          all_goals go_wp2_with fail
          all_goals go_quiet (fail)
          all_goals go_upto_region 21 with (fail)
          all_goals (
            refine wp_name (fun w20 hW20 => ?_)
            have X20 : Hid (Ext wz w20) := Lib.hid (by rw [hW20]; first | exact XX.out | exact XX.out.drew | exact XX.out.drewN _)
            clear hW20 r1 r2 r3 s1 s2 s3 XX
            have HB2 := Lib.hid (HBK.out.ext X20.out)
            have ml : t + B.length ≤ 100 := by have := LL.out; omega
            have ml2 : t ≤ 100 := by omega
            rcases CU.out with ⟨a1, a2, a3, a4, SA, SB⟩ | ⟨g9, a1, a2, SA, SB⟩
            case' inl =>
              have lq0 : lq = 0 := by have := LL.out; omega
              have S2 : ∀ W, (Instr.sliceAt 40 (.slice none 0 0) (some (.int .i64 ((0 : Nat) : Int))) none none).run Try.prog W = .ok (.slice none 0 0) W := fun W => by kernel_rfl
              have PK : ∃ A2 c2, SrcO w20 A2 B.length (rowO B) ∧ (∀ W, (Instr.sliceAt 40 (.slice A0 lq c0') (some (.int .i64 (t : Int))) none none).run Try.prog W = .ok (.slice A2 B.length c2) W) ∧ (A0 = none → A2 = none ∧ c2 = 0) := ⟨none, 0, by rw [a4]; exact SB.ext X20.out, by rw [a1, a2, a3, a4, lq0]; exact S2, fun _ => ⟨rfl, rfl⟩⟩
              have SA2 : ∃ A1 c1, SrcO w20 A1 t (rowO A) ∧ A1 = A0 := ⟨none, 0, by rw [a3]; exact SA.ext X20.out, a1.symm⟩
              clear S2
            case' inr =>
              have S2 := oslice_from g9 lq c0' t (by omega) a2
              have PK : ∃ A2 c2, SrcO w20 A2 B.length (rowO B) ∧ (∀ W, (Instr.sliceAt 40 (.slice A0 lq c0') (some (.int .i64 (t : Int))) none none).run Try.prog W = .ok (.slice A2 B.length c2) W) ∧ (A0 = none → A2 = none ∧ c2 = 0) := ⟨_, c0' - t, SB.ext X20.out, by rw [a1, show B.length = lq - t by have := LL.out; omega]; exact S2, fun h => by rw [a1] at h; cases h⟩
              have SA2 : ∃ A1 c1, SrcO w20 A1 t (rowO A) ∧ A1 = A0 := ⟨_, 0, SA.ext X20.out, a1.symm⟩
              clear S2
            all_goals first | (exfalso; have q9 := HV2.out; rw [a1] at q9; cases q9; done) | skip
            all_goals (
              obtain ⟨A2, c2, SB2, S2, S3⟩ := PK
              have PKH := Lib.hid (And.intro SB2 (And.intro S2 S3))
              clear SB2 S2 S3 SB SA CU
              obtain ⟨A1, c1, SAH, eA1⟩ := SA2
              subst eA1
              have SAX := Lib.hid SAH
              clear SAH
              first | (obtain ⟨rfl, rfl⟩ := And.intro a1 a2; obtain rfl := a3; obtain rfl := lq0) | subst a1
              obtain ⟨r1, r2, r3⟩ := HB2.out.rules
              go_wp2_with (at_builtin; refine wpList_append_O (W0 := w20) rfl (.const (.slice none 0 0)) (.tmp 131) rfl rfl rfl (OneO.nil _ _ (Ext.refl _)) SAX.out (by omega) ?_; intro v19 w21 T19)
              skip))
          · try clear hq
            have X0 := Lib.hid (T19.x.trans (Ext.refl w21).drew)
            have T0 := Lib.hid (T19.ext (Ext.refl w21).drew)
            clear HBK
            have HBK := HB2
            have BXK := Lib.hid (BH.out.ext X20.out)
            have SBH := Lib.hid PKH.out.1
            have S2 := PKH.out.2.1
            have ONE : Hid (∀ u ∈ ([.int .i64 ((k' : Int) + 1), .int .i64 (3 + (j : Int)), .int .i64 fmt, .int .i64 cls, .int .i64 hash, .slice AV j cV, .slice none 0 0, .int .i64 0, .bool false] : List Value), u.oneCell' = true) := Lib.hid (by
              intro u hu
              simp only [List.mem_cons, List.not_mem_nil, or_false] at hu
              rcases hu with rfl | rfl | rfl | rfl | rfl | rfl | rfl | rfl | rfl <;> rfl)
            clear T19 r1 r2 r3
            go_wp2_with fail
            refine wp_any_act (fun A' hA => ?_)
            have eA : A' = frMakeReg w20 h bx t lq c0' (some ⟨g9, 0, none⟩) v19 (0 + t) ([] ++ rowO A) 1 [.int .i64 ((k' : Int) + 1), .int .i64 (3 + (j : Int)), .int .i64 fmt, .int .i64 cls, .int .i64 hash, .slice AV j cV, .slice none 0 0, .int .i64 0, .bool false] B.length c2 A2 (rowO B) k' j fmt cls hash AV none j cV 0 0 (fun q => A'.tmps.getD q undef) (fun q => A'.tmps.getD q undef) := by rw [hA]; rfl
            obtain ⟨uu, huu⟩ : ∃ uu, (fun q => A'.tmps.getD q undef) = uu := ⟨_, rfl⟩
            rw [huu] at eA
            clear hA huu
            subst eA
            refine wp_region_inv (Inv := MakeRegInv w20 h bx t lq c0' (some ⟨g9, 0, none⟩) v19 (0 + t) ([] ++ rowO A) 1 [.int .i64 ((k' : Int) + 1), .int .i64 (3 + (j : Int)), .int .i64 fmt, .int .i64 cls, .int .i64 hash, .slice AV j cV, .slice none 0 0, .int .i64 0, .bool false] B.length c2 A2 (rowO B) k' j fmt cls hash AV none j cV 0 0 uu) (by kernel_rfl) ?_ ?_ ?_
            · refine ⟨fun _ => false, fun k => ?_, uu, rfl, by simp, ⟨fun _ => X0.out, ?_, ?_, ?_, ?_, ?_, fun _ => T0.out, ?_, ?_, ?_, ?_, ?_, ?_, ?_, ?_, ?_, ?_, ?_, ?_, ?_, ?_, ?_⟩⟩
              · rw [Array.getD_eq_getD_getElem?, Array.getElem?_replicate]; split <;> rfl
              all_goals (intro h; cases h)
            · rintro listed act w9 ii ⟨L, hL, s, rfl, hsz, I⟩ hi
              obtain ⟨hlt9, hnot, hdep⟩ := (ready_iff _ _).1 hi
              have hiN : ii < 15 := hlt9
              have casesN : ii = 0 ∨ ii = 1 ∨ ii = 2 ∨ ii = 3 ∨ ii = 4 ∨ ii = 5 ∨ ii = 6 ∨ ii = 7 ∨ ii = 8 ∨ ii = 9 ∨ ii = 10 ∨ ii = 11 ∨ ii = 12 ∨ ii = 13 ∨ ii = 14 := by omega
              have hn0 : L ii = false := by rw [← hL ii]; exact not_bit hnot
              clear hi hlt9 hnot
              unfold frMakeReg
              rcases casesN with rfl | rfl | rfl | rfl | rfl | rfl | rfl | rfl | rfl | rfl | rfl | rfl | rfl | rfl | rfl
              · -- operation 0
                have nS : L 14 = false := by cases hh9 : L 14 with | false => rfl | true => exact (by rw [I.kS hh9 0 (by omega)] at hn0; cases hn0)
                refine wpOp_step rfl (fun K' hK => ?_)
                go_simp
                exact hK _ _ ⟨_, bit_set hL hsz 0 (by omega), fun jx => if jx = 133 then .pointer (some ⟨h, 0, none⟩) else s jx, by first | (simp [frMakeReg]; done) | (simp [frMakeReg]; rfl), by simpa using hsz, ⟨I.x, (fun h => absurd (show L 14 = true from h) (by rw [nS]; decide)), (fun h i hi => by simp [I.kN h i hi]), (fun h => by simp [I.kM h]), I.k12, I.kb, I.o0, I.o1, I.o2, (fun h => absurd (show L 14 = true from h) (by rw [nS]; decide)), fun _ => rfl, I.v1, I.v2, I.v5, I.v6, I.v7, I.v8, I.v9, I.v10, I.v12, I.v13, I.b3⟩⟩
              · -- operation 1
                have nS : L 14 = false := by cases hh9 : L 14 with | false => rfl | true => exact (by rw [I.kS hh9 1 (by omega)] at hn0; cases hn0)
                refine wpOp_step rfl (fun K' hK => ?_)
                go_simp
                exact hK _ _ ⟨_, bit_set hL hsz 1 (by omega), fun jx => if jx = 134 then v19 else s jx, by first | (simp [frMakeReg]; done) | (simp [frMakeReg]; rfl), by simpa using hsz, ⟨I.x, (fun h => absurd (show L 14 = true from h) (by rw [nS]; decide)), (fun h i hi => by simp [I.kN h i hi]), (fun h => by simp [I.kM h]), I.k12, I.kb, I.o0, I.o1, I.o2, (fun h => absurd (show L 14 = true from h) (by rw [nS]; decide)), I.v0, fun _ => rfl, I.v2, I.v5, I.v6, I.v7, I.v8, I.v9, I.v10, I.v12, I.v13, I.b3⟩⟩
              · -- operation 2
                have nS : L 14 = false := by cases hh9 : L 14 with | false => rfl | true => exact (by rw [I.kS hh9 2 (by omega)] at hn0; cases hn0)
                obtain ⟨g1, g2, g3⟩ := (BXK.out.ext (I.x nS)).rules
                refine wpOp_step rfl (fun K' hK => ?_)
                go_simp
                exact hK _ _ ⟨_, bit_set hL hsz 2 (by omega), fun jx => if jx = 135 then .agg #[.int .i64 ((k' : Int) + 1), .int .i64 (3 + (j : Int)), .int .i64 fmt, .int .i64 cls, .int .i64 hash, .slice AV j cV, .slice none 0 0, .int .i64 0, .bool false] else s jx, by first | (simp [frMakeReg]; done) | (simp [frMakeReg]; rfl), by simpa using hsz, ⟨I.x, (fun h => absurd (show L 14 = true from h) (by rw [nS]; decide)), (fun h i hi => by simp [I.kN h i hi]), (fun h => by simp [I.kM h]), I.k12, I.kb, I.o0, I.o1, I.o2, (fun h => absurd (show L 14 = true from h) (by rw [nS]; decide)), I.v0, I.v1, fun _ => rfl, I.v5, I.v6, I.v7, I.v8, I.v9, I.v10, I.v12, I.v13, I.b3⟩⟩
              · -- operation 3
                simp [hL, Region.binds] at hdep
                have d2 : L 2 = true := by simp [hdep]
                have nS : L 14 = false := by cases hh9 : L 14 with | false => rfl | true => exact (by rw [I.kS hh9 3 (by omega)] at hn0; cases hn0)
                have n1 : L 4 = false := by cases hh9 : L 4 with | false => rfl | true => exact (by rw [I.kb hh9] at hn0; cases hn0)
                have n2 : L 11 = false := by cases hh9 : L 11 with | false => rfl | true => exact (by rw [I.k12 hh9] at n1; cases n1)
                have e2 := I.v2 d2
                refine wpOp_step rfl (fun K' hK => ?_)
                rw [e2]
                go_simp
                have x9 : Ext w9 (w9.alloc (.cells #[.int .i64 ((k' : Int) + 1), .int .i64 (3 + (j : Int)), .int .i64 fmt, .int .i64 cls, .int .i64 hash, .slice AV j cV, .slice none 0 0, .int .i64 0, .bool false] 47)) := (Ext.refl w9).alloc _
                exact hK _ _ ⟨_, bit_set hL hsz 3 (by omega), fun jx => if jx = 136 then .slice (some ⟨w9.heap.size, 0, none⟩) 1 1 else s jx, by first | (simp [frMakeReg, e2]; done) | (simp [frMakeReg, e2]; rfl), by simpa using hsz, ⟨(fun _ => (I.x nS).trans x9), (fun h => absurd (show L 14 = true from h) (by rw [nS]; decide)), (fun h i hi => by simp [I.kN h i hi]), (fun h => by simp [I.kM h]), I.k12, (fun _ => rfl), (fun h => (I.o0 h).ext x9), (fun h => absurd (show L 4 = true from h) (by rw [n1]; decide)), (fun h => absurd (show L 11 = true from h) (by rw [n2]; decide)), (fun h => absurd (show L 14 = true from h) (by rw [nS]; decide)), I.v0, I.v1, I.v2, I.v5, I.v6, I.v7, I.v8, I.v9, I.v10, I.v12, I.v13, (fun _ _ => ⟨_, rfl, Blk.new _ _ _⟩)⟩⟩
              · -- operation 4
                simp [hL, Region.binds] at hdep
                have d1 : L 1 = true := by simp [hdep]
                have d3 : L 3 = true := by simp [hdep]
                have nS : L 14 = false := by cases hh9 : L 14 with | false => rfl | true => exact (by rw [I.kS hh9 4 (by omega)] at hn0; cases hn0)
                have n2 : L 11 = false := by cases hh9 : L 11 with | false => rfl | true => exact (by rw [I.k12 hh9] at hn0; cases hn0)
                have e1 := I.v1 d1
                obtain ⟨bb, e3, hbb⟩ := I.b3 d3 hn0
                have TT := I.o0 hn0
                have SS : SrcO w9 (some ⟨bb, 0, none⟩) 1 [.int .i64 ((k' : Int) + 1), .int .i64 (3 + (j : Int)), .int .i64 fmt, .int .i64 cls, .int .i64 hash, .slice AV j cV, .slice none 0 0, .int .i64 0, .bool false] := srcO_blk hbb rfl ONE.out
                refine wpOp_step rfl (fun K' hK => ?_)
                try rw [e1, e3]
                refine step_O (.tmp 134) (.tmp 136) (by rfl) (by rfl) (by rfl) (by rfl) TT SS (by omega) ?_
                intro v9 w10 T9
                exact hK _ _ ⟨_, bit_set hL hsz 4 (by omega), fun jx => if jx = 137 then v9 else s jx, by first | (simp [frMakeReg, Act.put, e1, e3]; done) | (simp [frMakeReg, Act.put, e1, e3]; rfl), by simpa using hsz, ⟨(fun _ => T9.x), (fun h => absurd (show L 14 = true from h) (by rw [nS]; decide)), (fun h i hi => by simp [I.kN h i hi]), (fun h => by simp [I.kM h]), (fun h => absurd (show L 11 = true from h) (by rw [n2]; decide)), (fun _ => d3), (fun h => absurd h (by simp)), (fun _ _ => T9), (fun h => absurd (show L 11 = true from h) (by rw [n2]; decide)), (fun h => absurd (show L 14 = true from h) (by rw [nS]; decide)), I.v0, I.v1, I.v2, I.v5, I.v6, I.v7, I.v8, I.v9, I.v10, I.v12, I.v13, (fun _ h => absurd h (by simp))⟩⟩
              · -- operation 5
                have nS : L 14 = false := by cases hh9 : L 14 with | false => rfl | true => exact (by rw [I.kS hh9 5 (by omega)] at hn0; cases hn0)
                refine wpOp_step rfl (fun K' hK => ?_)
                go_simp
                exact hK _ _ ⟨_, bit_set hL hsz 5 (by omega), fun jx => if jx = 138 then .pointer (some ⟨h, 0, none⟩) else s jx, by first | (simp [frMakeReg]; done) | (simp [frMakeReg]; rfl), by simpa using hsz, ⟨I.x, (fun h => absurd (show L 14 = true from h) (by rw [nS]; decide)), (fun h i hi => by simp [I.kN h i hi]), (fun h => by simp [I.kM h]), I.k12, I.kb, I.o0, I.o1, I.o2, (fun h => absurd (show L 14 = true from h) (by rw [nS]; decide)), I.v0, I.v1, I.v2, fun _ => rfl, I.v6, I.v7, I.v8, I.v9, I.v10, I.v12, I.v13, I.b3⟩⟩
              · -- operation 6
                simp [hL, Region.binds] at hdep
                have d5 : L 5 = true := by simp [hdep]
                have nS : L 14 = false := by cases hh9 : L 14 with | false => rfl | true => exact (by rw [I.kS hh9 6 (by omega)] at hn0; cases hn0)
                have e5 := I.v5 d5
                refine wpOp_step rfl (fun K' hK => ?_)
                rw [e5]
                go_simp
                exact hK _ _ ⟨_, bit_set hL hsz 6 (by omega), fun jx => if jx = 139 then .pointer (some ⟨h, 0, none⟩) else s jx, by first | (simp [frMakeReg, e5]; done) | (simp [frMakeReg, e5]; rfl), by simpa using hsz, ⟨I.x, (fun h => absurd (show L 14 = true from h) (by rw [nS]; decide)), (fun h i hi => by simp [I.kN h i hi]), (fun h => by simp [I.kM h]), I.k12, I.kb, I.o0, I.o1, I.o2, (fun h => absurd (show L 14 = true from h) (by rw [nS]; decide)), I.v0, I.v1, I.v2, I.v5, fun _ => rfl, I.v7, I.v8, I.v9, I.v10, I.v12, I.v13, I.b3⟩⟩
              · -- operation 7
                simp [hL, Region.binds] at hdep
                have d6 : L 6 = true := by simp [hdep]
                have nS : L 14 = false := by cases hh9 : L 14 with | false => rfl | true => exact (by rw [I.kS hh9 7 (by omega)] at hn0; cases hn0)
                have e6 := I.v6 d6
                refine wpOp_step rfl (fun K' hK => ?_)
                rw [e6]
                go_simp
                exact hK _ _ ⟨_, bit_set hL hsz 7 (by omega), fun jx => if jx = 140 then .pointer (some ⟨h, 0, none⟩) else s jx, by first | (simp [frMakeReg, e6]; done) | (simp [frMakeReg, e6]; rfl), by simpa using hsz, ⟨I.x, (fun h => absurd (show L 14 = true from h) (by rw [nS]; decide)), (fun h i hi => by simp [I.kN h i hi]), (fun h => by simp [I.kM h]), I.k12, I.kb, I.o0, I.o1, I.o2, (fun h => absurd (show L 14 = true from h) (by rw [nS]; decide)), I.v0, I.v1, I.v2, I.v5, I.v6, fun _ => rfl, I.v8, I.v9, I.v10, I.v12, I.v13, I.b3⟩⟩
              · -- operation 8
                simp [hL, Region.binds] at hdep
                have d7 : L 7 = true := by simp [hdep]
                have nS : L 14 = false := by cases hh9 : L 14 with | false => rfl | true => exact (by rw [I.kS hh9 8 (by omega)] at hn0; cases hn0)
                have e7 := I.v7 d7
                obtain ⟨g1, g2, g3⟩ := (HBK.out.ext (I.x nS)).rules
                refine wpOp_step rfl (fun K' hK => ?_)
                rw [e7]
                go_simp
                exact hK _ _ ⟨_, bit_set hL hsz 8 (by omega), fun jx => if jx = 141 then .slice (some ⟨g9, 0, none⟩) lq c0' else s jx, by first | (simp [frMakeReg, e7]; done) | (simp [frMakeReg, e7]; rfl), by simpa using hsz, ⟨I.x, (fun h => absurd (show L 14 = true from h) (by rw [nS]; decide)), (fun h i hi => by simp [I.kN h i hi]), (fun h => by simp [I.kM h]), I.k12, I.kb, I.o0, I.o1, I.o2, (fun h => absurd (show L 14 = true from h) (by rw [nS]; decide)), I.v0, I.v1, I.v2, I.v5, I.v6, I.v7, fun _ => rfl, I.v9, I.v10, I.v12, I.v13, I.b3⟩⟩
              · -- operation 9
                have nS : L 14 = false := by cases hh9 : L 14 with | false => rfl | true => exact (by rw [I.kS hh9 9 (by omega)] at hn0; cases hn0)
                refine wpOp_step rfl (fun K' hK => ?_)
                go_simp
                exact hK _ _ ⟨_, bit_set hL hsz 9 (by omega), fun jx => if jx = 142 then .int .i64 (t : Int) else s jx, by first | (simp [frMakeReg]; done) | (simp [frMakeReg]; rfl), by simpa using hsz, ⟨I.x, (fun h => absurd (show L 14 = true from h) (by rw [nS]; decide)), (fun h i hi => by simp [I.kN h i hi]), (fun h => by simp [I.kM h]), I.k12, I.kb, I.o0, I.o1, I.o2, (fun h => absurd (show L 14 = true from h) (by rw [nS]; decide)), I.v0, I.v1, I.v2, I.v5, I.v6, I.v7, I.v8, fun _ => rfl, I.v10, I.v12, I.v13, I.b3⟩⟩
              · -- operation 10
                simp [hL, Region.binds] at hdep
                have d8 : L 8 = true := by simp [hdep]
                have d9 : L 9 = true := by simp [hdep]
                have nS : L 14 = false := by cases hh9 : L 14 with | false => rfl | true => exact (by rw [I.kS hh9 10 (by omega)] at hn0; cases hn0)
                have e8 := I.v8 d8
                have e9 := I.v9 d9
                refine wpOp_step rfl (fun K' hK => ?_)
                rw [e8, e9]
                go_simp
                exact hK _ _ ⟨_, bit_set hL hsz 10 (by omega), fun jx => if jx = 143 then .slice A2 B.length c2 else s jx, by first | (simp [frMakeReg, e8, e9]; done) | (simp [frMakeReg, e8, e9]; rfl), by simpa using hsz, ⟨I.x, (fun h => absurd (show L 14 = true from h) (by rw [nS]; decide)), (fun h i hi => by simp [I.kN h i hi]), (fun h => by simp [I.kM h]), I.k12, I.kb, I.o0, I.o1, I.o2, (fun h => absurd (show L 14 = true from h) (by rw [nS]; decide)), I.v0, I.v1, I.v2, I.v5, I.v6, I.v7, I.v8, I.v9, fun _ => rfl, I.v12, I.v13, I.b3⟩⟩
              · -- operation 11
                simp [hL, Region.binds] at hdep
                have d4 : L 4 = true := by simp [hdep]
                have d10 : L 10 = true := by simp [hdep]
                have nS : L 14 = false := by cases hh9 : L 14 with | false => rfl | true => exact (by rw [I.kS hh9 11 (by omega)] at hn0; cases hn0)
                have e10 := I.v10 d10
                have TT := I.o1 d4 hn0
                have SS := SBH.out.ext (I.x nS)
                refine wpOp_step rfl (fun K' hK => ?_)
                try rw [e10]
                refine step_O (.tmp 137) (.tmp 143) (by rfl) (by rfl) (by rfl) (by rfl) TT SS (by omega) ?_
                intro v9 w10 T9
                exact hK _ _ ⟨_, bit_set hL hsz 11 (by omega), fun jx => if jx = 144 then v9 else s jx, by first | (simp [frMakeReg, Act.put, e10]; done) | (simp [frMakeReg, Act.put, e10]; rfl), by simpa using hsz, ⟨(fun _ => T9.x), (fun h => absurd (show L 14 = true from h) (by rw [nS]; decide)), (fun h i hi => by simp [I.kN h i hi]), (fun h => by simp [I.kM h]), (fun _ => d4), I.kb, (fun h => absurd (show L 4 = false from h) (by rw [d4]; decide)), (fun _ h => absurd h (by simp)), (fun _ _ => T9), (fun h => absurd (show L 14 = true from h) (by rw [nS]; decide)), I.v0, I.v1, I.v2, I.v5, I.v6, I.v7, I.v8, I.v9, I.v10, I.v12, I.v13, (fun _ h => absurd (show L 4 = false from h) (by rw [d4]; decide))⟩⟩
              · -- operation 12
                have NALL : ∀ i, i < 12 → L i = true := by
                  intro i hi9
                  simp [hL, Region.binds] at hdep
                  rcases (show i = 0 ∨ i = 1 ∨ i = 2 ∨ i = 3 ∨ i = 4 ∨ i = 5 ∨ i = 6 ∨ i = 7 ∨ i = 8 ∨ i = 9 ∨ i = 10 ∨ i = 11 by omega) with rfl | rfl | rfl | rfl | rfl | rfl | rfl | rfl | rfl | rfl | rfl | rfl <;> simp [hdep]
                simp [hL, Region.binds] at hdep
                have d0 : L 0 = true := by simp [hdep]
                have nS : L 14 = false := by cases hh9 : L 14 with | false => rfl | true => exact (by rw [I.kS hh9 12 (by omega)] at hn0; cases hn0)
                have e0 := I.v0 d0
                refine wpOp_step rfl (fun K' hK => ?_)
                rw [e0]
                go_simp
                exact hK _ _ ⟨_, bit_set hL hsz 12 (by omega), fun jx => if jx = 145 then .pointer (some ⟨h, 0, none⟩) else s jx, by first | (simp [frMakeReg, e0]; done) | (simp [frMakeReg, e0]; rfl), by simpa using hsz, ⟨I.x, (fun h => absurd (show L 14 = true from h) (by rw [nS]; decide)), (fun _ i hi => by simp [NALL i hi]), (fun _ => rfl), I.k12, I.kb, I.o0, I.o1, I.o2, (fun h => absurd (show L 14 = true from h) (by rw [nS]; decide)), I.v0, I.v1, I.v2, I.v5, I.v6, I.v7, I.v8, I.v9, I.v10, fun _ => rfl, I.v13, I.b3⟩⟩
              · -- operation 13
                simp [hL, Region.binds] at hdep
                have d12 : L 12 = true := by simp [hdep]
                have nS : L 14 = false := by cases hh9 : L 14 with | false => rfl | true => exact (by rw [I.kS hh9 13 (by omega)] at hn0; cases hn0)
                have e12 := I.v12 d12
                refine wpOp_step rfl (fun K' hK => ?_)
                rw [e12]
                go_simp
                exact hK _ _ ⟨_, bit_set hL hsz 13 (by omega), fun jx => if jx = 146 then .pointer (some ⟨h, 0, none⟩) else s jx, by first | (simp [frMakeReg, e12]; done) | (simp [frMakeReg, e12]; rfl), by simpa using hsz, ⟨I.x, (fun h => absurd (show L 14 = true from h) (by rw [nS]; decide)), (fun h i hi => by simp [I.kN h i hi]), (fun _ => d12), I.k12, I.kb, I.o0, I.o1, I.o2, (fun h => absurd (show L 14 = true from h) (by rw [nS]; decide)), I.v0, I.v1, I.v2, I.v5, I.v6, I.v7, I.v8, I.v9, I.v10, I.v12, fun _ => rfl, I.b3⟩⟩
              · -- operation 14
                simp [hL, Region.binds] at hdep
                have d11 : L 11 = true := by simp [hdep]
                have d13 : L 13 = true := by simp [hdep]
                have e13 := I.v13 d13
                have DALL : ∀ i, i < 14 → L i = true := by
                  intro i hi9
                  have dN := I.kM d13
                  rcases (show i < 12 ∨ i = 12 ∨ i = 13 by omega) with h9 | rfl | rfl
                  · exact I.kN dN i h9
                  · exact dN
                  · exact d13
                have TT := I.o2 d11 hn0
                obtain ⟨A9, c9, hv9, _, _⟩ := own_form TT.own
                obtain ⟨g1, g2, g3⟩ := (HBK.out.ext (I.x hn0)).rules
                refine wpOp_step rfl (fun K' hK => ?_)
                rw [hv9, e13]
                go_simp
                exact hK _ _ ⟨_, bit_set hL hsz 14 (by omega), s, by first | (simp [frMakeReg, e13, hv9]; done) | (simp [frMakeReg, e13, hv9]; rfl), by simpa using hsz, ⟨(fun h => absurd h (by simp)), (fun _ i hi => by simp [DALL i hi]), (fun h i hi => by simp [I.kN h i hi]), (fun h => by simp [I.kM h]), I.k12, I.kb, (fun h => absurd (show L 4 = false from h) (by rw [DALL 4 (by omega)]; decide)), (fun _ h => absurd (show L 11 = false from h) (by rw [d11]; decide)), (fun _ h => absurd h (by simp)), (fun _ => ⟨_, w9, TT, by first | (rw [hv9]; done) | (rw [hv9]; rfl) | (rw [hv9]; simp; done) | (rw [hv9]; simp only [Nat.zero_add])⟩), I.v0, I.v1, I.v2, I.v5, I.v6, I.v7, I.v8, I.v9, I.v10, I.v12, I.v13, (fun _ h => absurd (show L 4 = false from h) (by rw [DALL 4 (by omega)]; decide))⟩⟩
            · rintro listed act w9 ⟨L, hL, s, rfl, hsz, I⟩ hr
              have ALL : ∀ i, i < 15 → L i = true := fun i hi => by rw [← hL i]; exact all_listed (by kernel_rfl) hsz hr i hi
              obtain ⟨v9, w10, T9, rfl⟩ := I.es (ALL 14 (by omega))
              clear hL ALL hr hsz I
              unfold frMakeReg
              dsimp only
              have BZ : Blk (w10.setCell ⟨h, 0, none⟩ v9) bx 47 _ := (BXK.out.ext T9.x).keep ((Keep.refl (· = h) w10).setCell (p := ⟨h, 0, none⟩) rfl v9) ((BXK.out.ext T9.x).ne (HBK.out.ext T9.x) (by decide))
              obtain ⟨s1, s2, s3⟩ := BZ.rules
              have E1 := LA.out
              obtain ⟨z1, z2⟩ := H1.out.inserted (A := A) (B := B) (w20 := w20) (XH.out.trans X20.out) ⟨⟨k', j, fmt, cls, hash, List.replicate j (intW 0), [], 0, false⟩, .slice AV j cV, .slice none 0 0⟩ T9.x (own_keep OH.out (Keep.of_ext X20.out (fun _ => False)) (fun _ _ h => h)) (World.ownsRow_nil _ _ _ _) T9.own (by simp [E1] <;> omega) (by rw [rowO_app, rowO_cons]; simp [cellsO]) (by have := LQ.out; omega)
              have Z1 := Lib.hid z1
              have Z2 := Lib.hid ((R1.out.trans (RK.of_ext (XH.out.trans X20.out))).trans z2)
              clear z1 z2 BZ
              go_wp2_with fail
              go_ret2
              exact ⟨rfl, ⟨_, _, _, Z1.out⟩, Z2.out⟩
          · try clear hq
            obtain ⟨e7, e8⟩ := PKH.out.2.2 (by trivial)
            subst e7 e8
            have e9 : B = [] := List.eq_nil_of_length_eq_zero a4
            subst e9
            have X0 := Lib.hid (T19.x.trans (Ext.refl w21).drew)
            have T0 := Lib.hid (T19.ext (Ext.refl w21).drew)
            clear HBK
            have HBK := HB2
            have BXK := Lib.hid (BH.out.ext X20.out)
            have SBH := Lib.hid PKH.out.1
            have S2 := PKH.out.2.1
            have ONE : Hid (∀ u ∈ ([.int .i64 ((k' : Int) + 1), .int .i64 (3 + (j : Int)), .int .i64 fmt, .int .i64 cls, .int .i64 hash, .slice AV j cV, .slice none 0 0, .int .i64 0, .bool false] : List Value), u.oneCell' = true) := Lib.hid (by
              intro u hu
              simp only [List.mem_cons, List.not_mem_nil, or_false] at hu
              rcases hu with rfl | rfl | rfl | rfl | rfl | rfl | rfl | rfl | rfl <;> rfl)
            clear T19 r1 r2 r3
            go_wp2_with fail
            refine wp_any_act (fun A' hA => ?_)
            have eA : A' = frMakeReg w20 h bx 0 0 0 none v19 (0 + 0) ([] ++ rowO A) 1 [.int .i64 ((k' : Int) + 1), .int .i64 (3 + (j : Int)), .int .i64 fmt, .int .i64 cls, .int .i64 hash, .slice AV j cV, .slice none 0 0, .int .i64 0, .bool false] 0 0 none (rowO []) k' j fmt cls hash AV none j cV 0 0 (fun q => A'.tmps.getD q undef) (fun q => A'.tmps.getD q undef) := by rw [hA]; rfl
            obtain ⟨uu, huu⟩ : ∃ uu, (fun q => A'.tmps.getD q undef) = uu := ⟨_, rfl⟩
            rw [huu] at eA
            clear hA huu
            subst eA
            refine wp_region_inv (Inv := MakeRegInv w20 h bx 0 0 0 none v19 (0 + 0) ([] ++ rowO A) 1 [.int .i64 ((k' : Int) + 1), .int .i64 (3 + (j : Int)), .int .i64 fmt, .int .i64 cls, .int .i64 hash, .slice AV j cV, .slice none 0 0, .int .i64 0, .bool false] 0 0 none (rowO []) k' j fmt cls hash AV none j cV 0 0 uu) (by kernel_rfl) ?_ ?_ ?_
            · refine ⟨fun _ => false, fun k => ?_, uu, rfl, by simp, ⟨fun _ => X0.out, ?_, ?_, ?_, ?_, ?_, fun _ => T0.out, ?_, ?_, ?_, ?_, ?_, ?_, ?_, ?_, ?_, ?_, ?_, ?_, ?_, ?_, ?_⟩⟩
              · rw [Array.getD_eq_getD_getElem?, Array.getElem?_replicate]; split <;> rfl
              all_goals (intro h; cases h)
            · rintro listed act w9 ii ⟨L, hL, s, rfl, hsz, I⟩ hi
              obtain ⟨hlt9, hnot, hdep⟩ := (ready_iff _ _).1 hi
              have hiN : ii < 15 := hlt9
              have casesN : ii = 0 ∨ ii = 1 ∨ ii = 2 ∨ ii = 3 ∨ ii = 4 ∨ ii = 5 ∨ ii = 6 ∨ ii = 7 ∨ ii = 8 ∨ ii = 9 ∨ ii = 10 ∨ ii = 11 ∨ ii = 12 ∨ ii = 13 ∨ ii = 14 := by omega
              have hn0 : L ii = false := by rw [← hL ii]; exact not_bit hnot
              clear hi hlt9 hnot
              unfold frMakeReg
              rcases casesN with rfl | rfl | rfl | rfl | rfl | rfl | rfl | rfl | rfl | rfl | rfl | rfl | rfl | rfl | rfl
              · -- operation 0
                have nS : L 14 = false := by cases hh9 : L 14 with | false => rfl | true => exact (by rw [I.kS hh9 0 (by omega)] at hn0; cases hn0)
                refine wpOp_step rfl (fun K' hK => ?_)
                go_simp
                exact hK _ _ ⟨_, bit_set hL hsz 0 (by omega), fun jx => if jx = 133 then .pointer (some ⟨h, 0, none⟩) else s jx, by first | (simp [frMakeReg]; done) | (simp [frMakeReg]; rfl), by simpa using hsz, ⟨I.x, (fun h => absurd (show L 14 = true from h) (by rw [nS]; decide)), (fun h i hi => by simp [I.kN h i hi]), (fun h => by simp [I.kM h]), I.k12, I.kb, I.o0, I.o1, I.o2, (fun h => absurd (show L 14 = true from h) (by rw [nS]; decide)), fun _ => rfl, I.v1, I.v2, I.v5, I.v6, I.v7, I.v8, I.v9, I.v10, I.v12, I.v13, I.b3⟩⟩
              · -- operation 1
                have nS : L 14 = false := by cases hh9 : L 14 with | false => rfl | true => exact (by rw [I.kS hh9 1 (by omega)] at hn0; cases hn0)
                refine wpOp_step rfl (fun K' hK => ?_)
                go_simp
                exact hK _ _ ⟨_, bit_set hL hsz 1 (by omega), fun jx => if jx = 134 then v19 else s jx, by first | (simp [frMakeReg]; done) | (simp [frMakeReg]; rfl), by simpa using hsz, ⟨I.x, (fun h => absurd (show L 14 = true from h) (by rw [nS]; decide)), (fun h i hi => by simp [I.kN h i hi]), (fun h => by simp [I.kM h]), I.k12, I.kb, I.o0, I.o1, I.o2, (fun h => absurd (show L 14 = true from h) (by rw [nS]; decide)), I.v0, fun _ => rfl, I.v2, I.v5, I.v6, I.v7, I.v8, I.v9, I.v10, I.v12, I.v13, I.b3⟩⟩
              · -- operation 2
                have nS : L 14 = false := by cases hh9 : L 14 with | false => rfl | true => exact (by rw [I.kS hh9 2 (by omega)] at hn0; cases hn0)
                obtain ⟨g1, g2, g3⟩ := (BXK.out.ext (I.x nS)).rules
                refine wpOp_step rfl (fun K' hK => ?_)
                go_simp
                exact hK _ _ ⟨_, bit_set hL hsz 2 (by omega), fun jx => if jx = 135 then .agg #[.int .i64 ((k' : Int) + 1), .int .i64 (3 + (j : Int)), .int .i64 fmt, .int .i64 cls, .int .i64 hash, .slice AV j cV, .slice none 0 0, .int .i64 0, .bool false] else s jx, by first | (simp [frMakeReg]; done) | (simp [frMakeReg]; rfl), by simpa using hsz, ⟨I.x, (fun h => absurd (show L 14 = true from h) (by rw [nS]; decide)), (fun h i hi => by simp [I.kN h i hi]), (fun h => by simp [I.kM h]), I.k12, I.kb, I.o0, I.o1, I.o2, (fun h => absurd (show L 14 = true from h) (by rw [nS]; decide)), I.v0, I.v1, fun _ => rfl, I.v5, I.v6, I.v7, I.v8, I.v9, I.v10, I.v12, I.v13, I.b3⟩⟩
              · -- operation 3
                simp [hL, Region.binds] at hdep
                have d2 : L 2 = true := by simp [hdep]
                have nS : L 14 = false := by cases hh9 : L 14 with | false => rfl | true => exact (by rw [I.kS hh9 3 (by omega)] at hn0; cases hn0)
                have n1 : L 4 = false := by cases hh9 : L 4 with | false => rfl | true => exact (by rw [I.kb hh9] at hn0; cases hn0)
                have n2 : L 11 = false := by cases hh9 : L 11 with | false => rfl | true => exact (by rw [I.k12 hh9] at n1; cases n1)
                have e2 := I.v2 d2
                refine wpOp_step rfl (fun K' hK => ?_)
                rw [e2]
                go_simp
                have x9 : Ext w9 (w9.alloc (.cells #[.int .i64 ((k' : Int) + 1), .int .i64 (3 + (j : Int)), .int .i64 fmt, .int .i64 cls, .int .i64 hash, .slice AV j cV, .slice none 0 0, .int .i64 0, .bool false] 47)) := (Ext.refl w9).alloc _
                exact hK _ _ ⟨_, bit_set hL hsz 3 (by omega), fun jx => if jx = 136 then .slice (some ⟨w9.heap.size, 0, none⟩) 1 1 else s jx, by first | (simp [frMakeReg, e2]; done) | (simp [frMakeReg, e2]; rfl), by simpa using hsz, ⟨(fun _ => (I.x nS).trans x9), (fun h => absurd (show L 14 = true from h) (by rw [nS]; decide)), (fun h i hi => by simp [I.kN h i hi]), (fun h => by simp [I.kM h]), I.k12, (fun _ => rfl), (fun h => (I.o0 h).ext x9), (fun h => absurd (show L 4 = true from h) (by rw [n1]; decide)), (fun h => absurd (show L 11 = true from h) (by rw [n2]; decide)), (fun h => absurd (show L 14 = true from h) (by rw [nS]; decide)), I.v0, I.v1, I.v2, I.v5, I.v6, I.v7, I.v8, I.v9, I.v10, I.v12, I.v13, (fun _ _ => ⟨_, rfl, Blk.new _ _ _⟩)⟩⟩
              · -- operation 4
                simp [hL, Region.binds] at hdep
                have d1 : L 1 = true := by simp [hdep]
                have d3 : L 3 = true := by simp [hdep]
                have nS : L 14 = false := by cases hh9 : L 14 with | false => rfl | true => exact (by rw [I.kS hh9 4 (by omega)] at hn0; cases hn0)
                have n2 : L 11 = false := by cases hh9 : L 11 with | false => rfl | true => exact (by rw [I.k12 hh9] at hn0; cases hn0)
                have e1 := I.v1 d1
                obtain ⟨bb, e3, hbb⟩ := I.b3 d3 hn0
                have TT := I.o0 hn0
                have SS : SrcO w9 (some ⟨bb, 0, none⟩) 1 [.int .i64 ((k' : Int) + 1), .int .i64 (3 + (j : Int)), .int .i64 fmt, .int .i64 cls, .int .i64 hash, .slice AV j cV, .slice none 0 0, .int .i64 0, .bool false] := srcO_blk hbb rfl ONE.out
                refine wpOp_step rfl (fun K' hK => ?_)
                try rw [e1, e3]
                refine step_O (.tmp 134) (.tmp 136) (by rfl) (by rfl) (by rfl) (by rfl) TT SS (by omega) ?_
                intro v9 w10 T9
                exact hK _ _ ⟨_, bit_set hL hsz 4 (by omega), fun jx => if jx = 137 then v9 else s jx, by first | (simp [frMakeReg, Act.put, e1, e3]; done) | (simp [frMakeReg, Act.put, e1, e3]; rfl), by simpa using hsz, ⟨(fun _ => T9.x), (fun h => absurd (show L 14 = true from h) (by rw [nS]; decide)), (fun h i hi => by simp [I.kN h i hi]), (fun h => by simp [I.kM h]), (fun h => absurd (show L 11 = true from h) (by rw [n2]; decide)), (fun _ => d3), (fun h => absurd h (by simp)), (fun _ _ => T9), (fun h => absurd (show L 11 = true from h) (by rw [n2]; decide)), (fun h => absurd (show L 14 = true from h) (by rw [nS]; decide)), I.v0, I.v1, I.v2, I.v5, I.v6, I.v7, I.v8, I.v9, I.v10, I.v12, I.v13, (fun _ h => absurd h (by simp))⟩⟩
              · -- operation 5
                have nS : L 14 = false := by cases hh9 : L 14 with | false => rfl | true => exact (by rw [I.kS hh9 5 (by omega)] at hn0; cases hn0)
                refine wpOp_step rfl (fun K' hK => ?_)
                go_simp
                exact hK _ _ ⟨_, bit_set hL hsz 5 (by omega), fun jx => if jx = 138 then .pointer (some ⟨h, 0, none⟩) else s jx, by first | (simp [frMakeReg]; done) | (simp [frMakeReg]; rfl), by simpa using hsz, ⟨I.x, (fun h => absurd (show L 14 = true from h) (by rw [nS]; decide)), (fun h i hi => by simp [I.kN h i hi]), (fun h => by simp [I.kM h]), I.k12, I.kb, I.o0, I.o1, I.o2, (fun h => absurd (show L 14 = true from h) (by rw [nS]; decide)), I.v0, I.v1, I.v2, fun _ => rfl, I.v6, I.v7, I.v8, I.v9, I.v10, I.v12, I.v13, I.b3⟩⟩
              · -- operation 6
                simp [hL, Region.binds] at hdep
                have d5 : L 5 = true := by simp [hdep]
                have nS : L 14 = false := by cases hh9 : L 14 with | false => rfl | true => exact (by rw [I.kS hh9 6 (by omega)] at hn0; cases hn0)
                have e5 := I.v5 d5
                refine wpOp_step rfl (fun K' hK => ?_)
                rw [e5]
                go_simp
                exact hK _ _ ⟨_, bit_set hL hsz 6 (by omega), fun jx => if jx = 139 then .pointer (some ⟨h, 0, none⟩) else s jx, by first | (simp [frMakeReg, e5]; done) | (simp [frMakeReg, e5]; rfl), by simpa using hsz, ⟨I.x, (fun h => absurd (show L 14 = true from h) (by rw [nS]; decide)), (fun h i hi => by simp [I.kN h i hi]), (fun h => by simp [I.kM h]), I.k12, I.kb, I.o0, I.o1, I.o2, (fun h => absurd (show L 14 = true from h) (by rw [nS]; decide)), I.v0, I.v1, I.v2, I.v5, fun _ => rfl, I.v7, I.v8, I.v9, I.v10, I.v12, I.v13, I.b3⟩⟩
              · -- operation 7
                simp [hL, Region.binds] at hdep
                have d6 : L 6 = true := by simp [hdep]
                have nS : L 14 = false := by cases hh9 : L 14 with | false => rfl | true => exact (by rw [I.kS hh9 7 (by omega)] at hn0; cases hn0)
                have e6 := I.v6 d6
                refine wpOp_step rfl (fun K' hK => ?_)
                rw [e6]
                go_simp
                exact hK _ _ ⟨_, bit_set hL hsz 7 (by omega), fun jx => if jx = 140 then .pointer (some ⟨h, 0, none⟩) else s jx, by first | (simp [frMakeReg, e6]; done) | (simp [frMakeReg, e6]; rfl), by simpa using hsz, ⟨I.x, (fun h => absurd (show L 14 = true from h) (by rw [nS]; decide)), (fun h i hi => by simp [I.kN h i hi]), (fun h => by simp [I.kM h]), I.k12, I.kb, I.o0, I.o1, I.o2, (fun h => absurd (show L 14 = true from h) (by rw [nS]; decide)), I.v0, I.v1, I.v2, I.v5, I.v6, fun _ => rfl, I.v8, I.v9, I.v10, I.v12, I.v13, I.b3⟩⟩
              · -- operation 8
                simp [hL, Region.binds] at hdep
                have d7 : L 7 = true := by simp [hdep]
                have nS : L 14 = false := by cases hh9 : L 14 with | false => rfl | true => exact (by rw [I.kS hh9 8 (by omega)] at hn0; cases hn0)
                have e7 := I.v7 d7
                obtain ⟨g1, g2, g3⟩ := (HBK.out.ext (I.x nS)).rules
                refine wpOp_step rfl (fun K' hK => ?_)
                rw [e7]
                go_simp
                exact hK _ _ ⟨_, bit_set hL hsz 8 (by omega), fun jx => if jx = 141 then .slice none 0 0 else s jx, by first | (simp [frMakeReg, e7]; done) | (simp [frMakeReg, e7]; rfl), by simpa using hsz, ⟨I.x, (fun h => absurd (show L 14 = true from h) (by rw [nS]; decide)), (fun h i hi => by simp [I.kN h i hi]), (fun h => by simp [I.kM h]), I.k12, I.kb, I.o0, I.o1, I.o2, (fun h => absurd (show L 14 = true from h) (by rw [nS]; decide)), I.v0, I.v1, I.v2, I.v5, I.v6, I.v7, fun _ => rfl, I.v9, I.v10, I.v12, I.v13, I.b3⟩⟩
              · -- operation 9
                have nS : L 14 = false := by cases hh9 : L 14 with | false => rfl | true => exact (by rw [I.kS hh9 9 (by omega)] at hn0; cases hn0)
                refine wpOp_step rfl (fun K' hK => ?_)
                go_simp
                exact hK _ _ ⟨_, bit_set hL hsz 9 (by omega), fun jx => if jx = 142 then .int .i64 (0 : Int) else s jx, by first | (simp [frMakeReg]; done) | (simp [frMakeReg]; rfl), by simpa using hsz, ⟨I.x, (fun h => absurd (show L 14 = true from h) (by rw [nS]; decide)), (fun h i hi => by simp [I.kN h i hi]), (fun h => by simp [I.kM h]), I.k12, I.kb, I.o0, I.o1, I.o2, (fun h => absurd (show L 14 = true from h) (by rw [nS]; decide)), I.v0, I.v1, I.v2, I.v5, I.v6, I.v7, I.v8, fun _ => rfl, I.v10, I.v12, I.v13, I.b3⟩⟩
              · -- operation 10
                simp [hL, Region.binds] at hdep
                have d8 : L 8 = true := by simp [hdep]
                have d9 : L 9 = true := by simp [hdep]
                have nS : L 14 = false := by cases hh9 : L 14 with | false => rfl | true => exact (by rw [I.kS hh9 10 (by omega)] at hn0; cases hn0)
                have e8 := I.v8 d8
                have e9 := I.v9 d9
                refine wpOp_step rfl (fun K' hK => ?_)
                rw [e8, e9]
                go_simp
                exact hK _ _ ⟨_, bit_set hL hsz 10 (by omega), fun jx => if jx = 143 then .slice none 0 0 else s jx, by first | (simp [frMakeReg, e8, e9]; done) | (simp [frMakeReg, e8, e9]; rfl), by simpa using hsz, ⟨I.x, (fun h => absurd (show L 14 = true from h) (by rw [nS]; decide)), (fun h i hi => by simp [I.kN h i hi]), (fun h => by simp [I.kM h]), I.k12, I.kb, I.o0, I.o1, I.o2, (fun h => absurd (show L 14 = true from h) (by rw [nS]; decide)), I.v0, I.v1, I.v2, I.v5, I.v6, I.v7, I.v8, I.v9, fun _ => rfl, I.v12, I.v13, I.b3⟩⟩
              · -- operation 11
                simp [hL, Region.binds] at hdep
                have d4 : L 4 = true := by simp [hdep]
                have d10 : L 10 = true := by simp [hdep]
                have nS : L 14 = false := by cases hh9 : L 14 with | false => rfl | true => exact (by rw [I.kS hh9 11 (by omega)] at hn0; cases hn0)
                have e10 := I.v10 d10
                have TT := I.o1 d4 hn0
                have SS := SBH.out.ext (I.x nS)
                refine wpOp_step rfl (fun K' hK => ?_)
                try rw [e10]
                refine step_O (.tmp 137) (.tmp 143) (by rfl) (by rfl) (by rfl) (by rfl) TT SS (by omega) ?_
                intro v9 w10 T9
                exact hK _ _ ⟨_, bit_set hL hsz 11 (by omega), fun jx => if jx = 144 then v9 else s jx, by first | (simp [frMakeReg, Act.put, e10]; done) | (simp [frMakeReg, Act.put, e10]; rfl), by simpa using hsz, ⟨(fun _ => T9.x), (fun h => absurd (show L 14 = true from h) (by rw [nS]; decide)), (fun h i hi => by simp [I.kN h i hi]), (fun h => by simp [I.kM h]), (fun _ => d4), I.kb, (fun h => absurd (show L 4 = false from h) (by rw [d4]; decide)), (fun _ h => absurd h (by simp)), (fun _ _ => T9), (fun h => absurd (show L 14 = true from h) (by rw [nS]; decide)), I.v0, I.v1, I.v2, I.v5, I.v6, I.v7, I.v8, I.v9, I.v10, I.v12, I.v13, (fun _ h => absurd (show L 4 = false from h) (by rw [d4]; decide))⟩⟩
              · -- operation 12
                have NALL : ∀ i, i < 12 → L i = true := by
                  intro i hi9
                  simp [hL, Region.binds] at hdep
                  rcases (show i = 0 ∨ i = 1 ∨ i = 2 ∨ i = 3 ∨ i = 4 ∨ i = 5 ∨ i = 6 ∨ i = 7 ∨ i = 8 ∨ i = 9 ∨ i = 10 ∨ i = 11 by omega) with rfl | rfl | rfl | rfl | rfl | rfl | rfl | rfl | rfl | rfl | rfl | rfl <;> simp [hdep]
                simp [hL, Region.binds] at hdep
                have d0 : L 0 = true := by simp [hdep]
                have nS : L 14 = false := by cases hh9 : L 14 with | false => rfl | true => exact (by rw [I.kS hh9 12 (by omega)] at hn0; cases hn0)
                have e0 := I.v0 d0
                refine wpOp_step rfl (fun K' hK => ?_)
                rw [e0]
                go_simp
                exact hK _ _ ⟨_, bit_set hL hsz 12 (by omega), fun jx => if jx = 145 then .pointer (some ⟨h, 0, none⟩) else s jx, by first | (simp [frMakeReg, e0]; done) | (simp [frMakeReg, e0]; rfl), by simpa using hsz, ⟨I.x, (fun h => absurd (show L 14 = true from h) (by rw [nS]; decide)), (fun _ i hi => by simp [NALL i hi]), (fun _ => rfl), I.k12, I.kb, I.o0, I.o1, I.o2, (fun h => absurd (show L 14 = true from h) (by rw [nS]; decide)), I.v0, I.v1, I.v2, I.v5, I.v6, I.v7, I.v8, I.v9, I.v10, fun _ => rfl, I.v13, I.b3⟩⟩
              · -- operation 13
                simp [hL, Region.binds] at hdep
                have d12 : L 12 = true := by simp [hdep]
                have nS : L 14 = false := by cases hh9 : L 14 with | false => rfl | true => exact (by rw [I.kS hh9 13 (by omega)] at hn0; cases hn0)
                have e12 := I.v12 d12
                refine wpOp_step rfl (fun K' hK => ?_)
                rw [e12]
                go_simp
                exact hK _ _ ⟨_, bit_set hL hsz 13 (by omega), fun jx => if jx = 146 then .pointer (some ⟨h, 0, none⟩) else s jx, by first | (simp [frMakeReg, e12]; done) | (simp [frMakeReg, e12]; rfl), by simpa using hsz, ⟨I.x, (fun h => absurd (show L 14 = true from h) (by rw [nS]; decide)), (fun h i hi => by simp [I.kN h i hi]), (fun _ => d12), I.k12, I.kb, I.o0, I.o1, I.o2, (fun h => absurd (show L 14 = true from h) (by rw [nS]; decide)), I.v0, I.v1, I.v2, I.v5, I.v6, I.v7, I.v8, I.v9, I.v10, I.v12, fun _ => rfl, I.b3⟩⟩
              · -- operation 14
                simp [hL, Region.binds] at hdep
                have d11 : L 11 = true := by simp [hdep]
                have d13 : L 13 = true := by simp [hdep]
                have e13 := I.v13 d13
                have DALL : ∀ i, i < 14 → L i = true := by
                  intro i hi9
                  have dN := I.kM d13
                  rcases (show i < 12 ∨ i = 12 ∨ i = 13 by omega) with h9 | rfl | rfl
                  · exact I.kN dN i h9
                  · exact dN
                  · exact d13
                have TT := I.o2 d11 hn0
                obtain ⟨A9, c9, hv9, _, _⟩ := own_form TT.own
                obtain ⟨g1, g2, g3⟩ := (HBK.out.ext (I.x hn0)).rules
                refine wpOp_step rfl (fun K' hK => ?_)
                rw [hv9, e13]
                go_simp
                exact hK _ _ ⟨_, bit_set hL hsz 14 (by omega), s, by first | (simp [frMakeReg, e13, hv9]; done) | (simp [frMakeReg, e13, hv9]; rfl), by simpa using hsz, ⟨(fun h => absurd h (by simp)), (fun _ i hi => by simp [DALL i hi]), (fun h i hi => by simp [I.kN h i hi]), (fun h => by simp [I.kM h]), I.k12, I.kb, (fun h => absurd (show L 4 = false from h) (by rw [DALL 4 (by omega)]; decide)), (fun _ h => absurd (show L 11 = false from h) (by rw [d11]; decide)), (fun _ h => absurd h (by simp)), (fun _ => ⟨_, w9, TT, by first | (rw [hv9]; done) | (rw [hv9]; rfl) | (rw [hv9]; simp; done) | (rw [hv9]; simp only [Nat.zero_add])⟩), I.v0, I.v1, I.v2, I.v5, I.v6, I.v7, I.v8, I.v9, I.v10, I.v12, I.v13, (fun _ h => absurd (show L 4 = false from h) (by rw [DALL 4 (by omega)]; decide))⟩⟩
            · rintro listed act w9 ⟨L, hL, s, rfl, hsz, I⟩ hr
              have ALL : ∀ i, i < 15 → L i = true := fun i hi => by rw [← hL i]; exact all_listed (by kernel_rfl) hsz hr i hi
              obtain ⟨v9, w10, T9, rfl⟩ := I.es (ALL 14 (by omega))
              clear hL ALL hr hsz I
              unfold frMakeReg
              dsimp only
              have BZ : Blk (w10.setCell ⟨h, 0, none⟩ v9) bx 47 _ := (BXK.out.ext T9.x).keep ((Keep.refl (· = h) w10).setCell (p := ⟨h, 0, none⟩) rfl v9) ((BXK.out.ext T9.x).ne (HBK.out.ext T9.x) (by decide))
              obtain ⟨s1, s2, s3⟩ := BZ.rules
              have E1 := LA.out
              obtain ⟨z1, z2⟩ := H1.out.inserted (A := A) (B := []) (w20 := w20) (XH.out.trans X20.out) ⟨⟨k', j, fmt, cls, hash, List.replicate j (intW 0), [], 0, false⟩, .slice AV j cV, .slice none 0 0⟩ T9.x (own_keep OH.out (Keep.of_ext X20.out (fun _ => False)) (fun _ _ h => h)) (World.ownsRow_nil _ _ _ _) T9.own (by simp [E1] <;> omega) (by rw [rowO_app, rowO_cons]; simp [cellsO]) (by have := LQ.out; omega)
              have Z1 := Lib.hid z1
              have Z2 := Lib.hid ((R1.out.trans (RK.of_ext (XH.out.trans X20.out))).trans z2)
              clear z1 z2 BZ
              go_wp2_with fail
              go_ret2
              exact ⟨rfl, ⟨_, _, _, Z1.out⟩, Z2.out⟩
          · try clear hq
            have X0 := Lib.hid (T19.x.trans (Ext.refl w21).drew)
            have T0 := Lib.hid (T19.ext (Ext.refl w21).drew)
            clear HBK
            have HBK := HB2
            have BXK := Lib.hid (BH.out.ext X20.out)
            have SBH := Lib.hid PKH.out.1
            have S2 := PKH.out.2.1
            have ONE : Hid (∀ u ∈ ([.int .i64 ((k' : Int) + 1), .int .i64 (3 + (j : Int)), .int .i64 fmt, .int .i64 cls, .int .i64 hash, .slice AV j cV, .slice none 0 0, .int .i64 0, .bool false] : List Value), u.oneCell' = true) := Lib.hid (by
              intro u hu
              simp only [List.mem_cons, List.not_mem_nil, or_false] at hu
              rcases hu with rfl | rfl | rfl | rfl | rfl | rfl | rfl | rfl | rfl <;> rfl)
            clear T19 r1 r2 r3
            go_wp2_with fail
            refine wp_any_act (fun A' hA => ?_)
            have eA : A' = frMakeReg w20 h bx t lq c0' (some ⟨g9, 0, none⟩) v19 (0 + t) ([] ++ rowO A) 1 [.int .i64 ((k' : Int) + 1), .int .i64 (3 + (j : Int)), .int .i64 fmt, .int .i64 cls, .int .i64 hash, .slice AV j cV, .slice none 0 0, .int .i64 0, .bool false] B.length c2 A2 (rowO B) k' j fmt cls hash AV none j cV 0 0 (fun q => A'.tmps.getD q undef) (fun q => A'.tmps.getD q undef) := by rw [hA]; rfl
            obtain ⟨uu, huu⟩ : ∃ uu, (fun q => A'.tmps.getD q undef) = uu := ⟨_, rfl⟩
            rw [huu] at eA
            clear hA huu
            subst eA
            refine wp_region_inv (Inv := MakeRegInv w20 h bx t lq c0' (some ⟨g9, 0, none⟩) v19 (0 + t) ([] ++ rowO A) 1 [.int .i64 ((k' : Int) + 1), .int .i64 (3 + (j : Int)), .int .i64 fmt, .int .i64 cls, .int .i64 hash, .slice AV j cV, .slice none 0 0, .int .i64 0, .bool false] B.length c2 A2 (rowO B) k' j fmt cls hash AV none j cV 0 0 uu) (by kernel_rfl) ?_ ?_ ?_
            · refine ⟨fun _ => false, fun k => ?_, uu, rfl, by simp, ⟨fun _ => X0.out, ?_, ?_, ?_, ?_, ?_, fun _ => T0.out, ?_, ?_, ?_, ?_, ?_, ?_, ?_, ?_, ?_, ?_, ?_, ?_, ?_, ?_, ?_⟩⟩
              · rw [Array.getD_eq_getD_getElem?, Array.getElem?_replicate]; split <;> rfl
              all_goals (intro h; cases h)
            · rintro listed act w9 ii ⟨L, hL, s, rfl, hsz, I⟩ hi
              obtain ⟨hlt9, hnot, hdep⟩ := (ready_iff _ _).1 hi
              have hiN : ii < 15 := hlt9
              have casesN : ii = 0 ∨ ii = 1 ∨ ii = 2 ∨ ii = 3 ∨ ii = 4 ∨ ii = 5 ∨ ii = 6 ∨ ii = 7 ∨ ii = 8 ∨ ii = 9 ∨ ii = 10 ∨ ii = 11 ∨ ii = 12 ∨ ii = 13 ∨ ii = 14 := by omega
              have hn0 : L ii = false := by rw [← hL ii]; exact not_bit hnot
              clear hi hlt9 hnot
              unfold frMakeReg
              rcases casesN with rfl | rfl | rfl | rfl | rfl | rfl | rfl | rfl | rfl | rfl | rfl | rfl | rfl | rfl | rfl
              · -- operation 0
                have nS : L 14 = false := by cases hh9 : L 14 with | false => rfl | true => exact (by rw [I.kS hh9 0 (by omega)] at hn0; cases hn0)
                refine wpOp_step rfl (fun K' hK => ?_)
                go_simp
                exact hK _ _ ⟨_, bit_set hL hsz 0 (by omega), fun jx => if jx = 133 then .pointer (some ⟨h, 0, none⟩) else s jx, by first | (simp [frMakeReg]; done) | (simp [frMakeReg]; rfl), by simpa using hsz, ⟨I.x, (fun h => absurd (show L 14 = true from h) (by rw [nS]; decide)), (fun h i hi => by simp [I.kN h i hi]), (fun h => by simp [I.kM h]), I.k12, I.kb, I.o0, I.o1, I.o2, (fun h => absurd (show L 14 = true from h) (by rw [nS]; decide)), fun _ => rfl, I.v1, I.v2, I.v5, I.v6, I.v7, I.v8, I.v9, I.v10, I.v12, I.v13, I.b3⟩⟩
              · -- operation 1
                have nS : L 14 = false := by cases hh9 : L 14 with | false => rfl | true => exact (by rw [I.kS hh9 1 (by omega)] at hn0; cases hn0)
                refine wpOp_step rfl (fun K' hK => ?_)
                go_simp
                exact hK _ _ ⟨_, bit_set hL hsz 1 (by omega), fun jx => if jx = 134 then v19 else s jx, by first | (simp [frMakeReg]; done) | (simp [frMakeReg]; rfl), by simpa using hsz, ⟨I.x, (fun h => absurd (show L 14 = true from h) (by rw [nS]; decide)), (fun h i hi => by simp [I.kN h i hi]), (fun h => by simp [I.kM h]), I.k12, I.kb, I.o0, I.o1, I.o2, (fun h => absurd (show L 14 = true from h) (by rw [nS]; decide)), I.v0, fun _ => rfl, I.v2, I.v5, I.v6, I.v7, I.v8, I.v9, I.v10, I.v12, I.v13, I.b3⟩⟩
              · -- operation 2
                have nS : L 14 = false := by cases hh9 : L 14 with | false => rfl | true => exact (by rw [I.kS hh9 2 (by omega)] at hn0; cases hn0)
                obtain ⟨g1, g2, g3⟩ := (BXK.out.ext (I.x nS)).rules
                refine wpOp_step rfl (fun K' hK => ?_)
                go_simp
                exact hK _ _ ⟨_, bit_set hL hsz 2 (by omega), fun jx => if jx = 135 then .agg #[.int .i64 ((k' : Int) + 1), .int .i64 (3 + (j : Int)), .int .i64 fmt, .int .i64 cls, .int .i64 hash, .slice AV j cV, .slice none 0 0, .int .i64 0, .bool false] else s jx, by first | (simp [frMakeReg]; done) | (simp [frMakeReg]; rfl), by simpa using hsz, ⟨I.x, (fun h => absurd (show L 14 = true from h) (by rw [nS]; decide)), (fun h i hi => by simp [I.kN h i hi]), (fun h => by simp [I.kM h]), I.k12, I.kb, I.o0, I.o1, I.o2, (fun h => absurd (show L 14 = true from h) (by rw [nS]; decide)), I.v0, I.v1, fun _ => rfl, I.v5, I.v6, I.v7, I.v8, I.v9, I.v10, I.v12, I.v13, I.b3⟩⟩
              · -- operation 3
                simp [hL, Region.binds] at hdep
                have d2 : L 2 = true := by simp [hdep]
                have nS : L 14 = false := by cases hh9 : L 14 with | false => rfl | true => exact (by rw [I.kS hh9 3 (by omega)] at hn0; cases hn0)
                have n1 : L 4 = false := by cases hh9 : L 4 with | false => rfl | true => exact (by rw [I.kb hh9] at hn0; cases hn0)
                have n2 : L 11 = false := by cases hh9 : L 11 with | false => rfl | true => exact (by rw [I.k12 hh9] at n1; cases n1)
                have e2 := I.v2 d2
                refine wpOp_step rfl (fun K' hK => ?_)
                rw [e2]
                go_simp
                have x9 : Ext w9 (w9.alloc (.cells #[.int .i64 ((k' : Int) + 1), .int .i64 (3 + (j : Int)), .int .i64 fmt, .int .i64 cls, .int .i64 hash, .slice AV j cV, .slice none 0 0, .int .i64 0, .bool false] 47)) := (Ext.refl w9).alloc _
                exact hK _ _ ⟨_, bit_set hL hsz 3 (by omega), fun jx => if jx = 136 then .slice (some ⟨w9.heap.size, 0, none⟩) 1 1 else s jx, by first | (simp [frMakeReg, e2]; done) | (simp [frMakeReg, e2]; rfl), by simpa using hsz, ⟨(fun _ => (I.x nS).trans x9), (fun h => absurd (show L 14 = true from h) (by rw [nS]; decide)), (fun h i hi => by simp [I.kN h i hi]), (fun h => by simp [I.kM h]), I.k12, (fun _ => rfl), (fun h => (I.o0 h).ext x9), (fun h => absurd (show L 4 = true from h) (by rw [n1]; decide)), (fun h => absurd (show L 11 = true from h) (by rw [n2]; decide)), (fun h => absurd (show L 14 = true from h) (by rw [nS]; decide)), I.v0, I.v1, I.v2, I.v5, I.v6, I.v7, I.v8, I.v9, I.v10, I.v12, I.v13, (fun _ _ => ⟨_, rfl, Blk.new _ _ _⟩)⟩⟩
              · -- operation 4
                simp [hL, Region.binds] at hdep
                have d1 : L 1 = true := by simp [hdep]
                have d3 : L 3 = true := by simp [hdep]
                have nS : L 14 = false := by cases hh9 : L 14 with | false => rfl | true => exact (by rw [I.kS hh9 4 (by omega)] at hn0; cases hn0)
                have n2 : L 11 = false := by cases hh9 : L 11 with | false => rfl | true => exact (by rw [I.k12 hh9] at hn0; cases hn0)
                have e1 := I.v1 d1
                obtain ⟨bb, e3, hbb⟩ := I.b3 d3 hn0
                have TT := I.o0 hn0
                have SS : SrcO w9 (some ⟨bb, 0, none⟩) 1 [.int .i64 ((k' : Int) + 1), .int .i64 (3 + (j : Int)), .int .i64 fmt, .int .i64 cls, .int .i64 hash, .slice AV j cV, .slice none 0 0, .int .i64 0, .bool false] := srcO_blk hbb rfl ONE.out
                refine wpOp_step rfl (fun K' hK => ?_)
                try rw [e1, e3]
                refine step_O (.tmp 134) (.tmp 136) (by rfl) (by rfl) (by rfl) (by rfl) TT SS (by omega) ?_
                intro v9 w10 T9
                exact hK _ _ ⟨_, bit_set hL hsz 4 (by omega), fun jx => if jx = 137 then v9 else s jx, by first | (simp [frMakeReg, Act.put, e1, e3]; done) | (simp [frMakeReg, Act.put, e1, e3]; rfl), by simpa using hsz, ⟨(fun _ => T9.x), (fun h => absurd (show L 14 = true from h) (by rw [nS]; decide)), (fun h i hi => by simp [I.kN h i hi]), (fun h => by simp [I.kM h]), (fun h => absurd (show L 11 = true from h) (by rw [n2]; decide)), (fun _ => d3), (fun h => absurd h (by simp)), (fun _ _ => T9), (fun h => absurd (show L 11 = true from h) (by rw [n2]; decide)), (fun h => absurd (show L 14 = true from h) (by rw [nS]; decide)), I.v0, I.v1, I.v2, I.v5, I.v6, I.v7, I.v8, I.v9, I.v10, I.v12, I.v13, (fun _ h => absurd h (by simp))⟩⟩
              · -- operation 5
                have nS : L 14 = false := by cases hh9 : L 14 with | false => rfl | true => exact (by rw [I.kS hh9 5 (by omega)] at hn0; cases hn0)
                refine wpOp_step rfl (fun K' hK => ?_)
                go_simp
                exact hK _ _ ⟨_, bit_set hL hsz 5 (by omega), fun jx => if jx = 138 then .pointer (some ⟨h, 0, none⟩) else s jx, by first | (simp [frMakeReg]; done) | (simp [frMakeReg]; rfl), by simpa using hsz, ⟨I.x, (fun h => absurd (show L 14 = true from h) (by rw [nS]; decide)), (fun h i hi => by simp [I.kN h i hi]), (fun h => by simp [I.kM h]), I.k12, I.kb, I.o0, I.o1, I.o2, (fun h => absurd (show L 14 = true from h) (by rw [nS]; decide)), I.v0, I.v1, I.v2, fun _ => rfl, I.v6, I.v7, I.v8, I.v9, I.v10, I.v12, I.v13, I.b3⟩⟩
              · -- operation 6
                simp [hL, Region.binds] at hdep
                have d5 : L 5 = true := by simp [hdep]
                have nS : L 14 = false := by cases hh9 : L 14 with | false => rfl | true => exact (by rw [I.kS hh9 6 (by omega)] at hn0; cases hn0)
                have e5 := I.v5 d5
                refine wpOp_step rfl (fun K' hK => ?_)
                rw [e5]
                go_simp
                exact hK _ _ ⟨_, bit_set hL hsz 6 (by omega), fun jx => if jx = 139 then .pointer (some ⟨h, 0, none⟩) else s jx, by first | (simp [frMakeReg, e5]; done) | (simp [frMakeReg, e5]; rfl), by simpa using hsz, ⟨I.x, (fun h => absurd (show L 14 = true from h) (by rw [nS]; decide)), (fun h i hi => by simp [I.kN h i hi]), (fun h => by simp [I.kM h]), I.k12, I.kb, I.o0, I.o1, I.o2, (fun h => absurd (show L 14 = true from h) (by rw [nS]; decide)), I.v0, I.v1, I.v2, I.v5, fun _ => rfl, I.v7, I.v8, I.v9, I.v10, I.v12, I.v13, I.b3⟩⟩
              · -- operation 7
                simp [hL, Region.binds] at hdep
                have d6 : L 6 = true := by simp [hdep]
                have nS : L 14 = false := by cases hh9 : L 14 with | false => rfl | true => exact (by rw [I.kS hh9 7 (by omega)] at hn0; cases hn0)
                have e6 := I.v6 d6
                refine wpOp_step rfl (fun K' hK => ?_)
                rw [e6]
                go_simp
                exact hK _ _ ⟨_, bit_set hL hsz 7 (by omega), fun jx => if jx = 140 then .pointer (some ⟨h, 0, none⟩) else s jx, by first | (simp [frMakeReg, e6]; done) | (simp [frMakeReg, e6]; rfl), by simpa using hsz, ⟨I.x, (fun h => absurd (show L 14 = true from h) (by rw [nS]; decide)), (fun h i hi => by simp [I.kN h i hi]), (fun h => by simp [I.kM h]), I.k12, I.kb, I.o0, I.o1, I.o2, (fun h => absurd (show L 14 = true from h) (by rw [nS]; decide)), I.v0, I.v1, I.v2, I.v5, I.v6, fun _ => rfl, I.v8, I.v9, I.v10, I.v12, I.v13, I.b3⟩⟩
              · -- operation 8
                simp [hL, Region.binds] at hdep
                have d7 : L 7 = true := by simp [hdep]
                have nS : L 14 = false := by cases hh9 : L 14 with | false => rfl | true => exact (by rw [I.kS hh9 8 (by omega)] at hn0; cases hn0)
                have e7 := I.v7 d7
                obtain ⟨g1, g2, g3⟩ := (HBK.out.ext (I.x nS)).rules
                refine wpOp_step rfl (fun K' hK => ?_)
                rw [e7]
                go_simp
                exact hK _ _ ⟨_, bit_set hL hsz 8 (by omega), fun jx => if jx = 141 then .slice (some ⟨g9, 0, none⟩) lq c0' else s jx, by first | (simp [frMakeReg, e7]; done) | (simp [frMakeReg, e7]; rfl), by simpa using hsz, ⟨I.x, (fun h => absurd (show L 14 = true from h) (by rw [nS]; decide)), (fun h i hi => by simp [I.kN h i hi]), (fun h => by simp [I.kM h]), I.k12, I.kb, I.o0, I.o1, I.o2, (fun h => absurd (show L 14 = true from h) (by rw [nS]; decide)), I.v0, I.v1, I.v2, I.v5, I.v6, I.v7, fun _ => rfl, I.v9, I.v10, I.v12, I.v13, I.b3⟩⟩
              · -- operation 9
                have nS : L 14 = false := by cases hh9 : L 14 with | false => rfl | true => exact (by rw [I.kS hh9 9 (by omega)] at hn0; cases hn0)
                refine wpOp_step rfl (fun K' hK => ?_)
                go_simp
                exact hK _ _ ⟨_, bit_set hL hsz 9 (by omega), fun jx => if jx = 142 then .int .i64 (t : Int) else s jx, by first | (simp [frMakeReg]; done) | (simp [frMakeReg]; rfl), by simpa using hsz, ⟨I.x, (fun h => absurd (show L 14 = true from h) (by rw [nS]; decide)), (fun h i hi => by simp [I.kN h i hi]), (fun h => by simp [I.kM h]), I.k12, I.kb, I.o0, I.o1, I.o2, (fun h => absurd (show L 14 = true from h) (by rw [nS]; decide)), I.v0, I.v1, I.v2, I.v5, I.v6, I.v7, I.v8, fun _ => rfl, I.v10, I.v12, I.v13, I.b3⟩⟩
              · -- operation 10
                simp [hL, Region.binds] at hdep
                have d8 : L 8 = true := by simp [hdep]
                have d9 : L 9 = true := by simp [hdep]
                have nS : L 14 = false := by cases hh9 : L 14 with | false => rfl | true => exact (by rw [I.kS hh9 10 (by omega)] at hn0; cases hn0)
                have e8 := I.v8 d8
                have e9 := I.v9 d9
                refine wpOp_step rfl (fun K' hK => ?_)
                rw [e8, e9]
                go_simp
                exact hK _ _ ⟨_, bit_set hL hsz 10 (by omega), fun jx => if jx = 143 then .slice A2 B.length c2 else s jx, by first | (simp [frMakeReg, e8, e9]; done) | (simp [frMakeReg, e8, e9]; rfl), by simpa using hsz, ⟨I.x, (fun h => absurd (show L 14 = true from h) (by rw [nS]; decide)), (fun h i hi => by simp [I.kN h i hi]), (fun h => by simp [I.kM h]), I.k12, I.kb, I.o0, I.o1, I.o2, (fun h => absurd (show L 14 = true from h) (by rw [nS]; decide)), I.v0, I.v1, I.v2, I.v5, I.v6, I.v7, I.v8, I.v9, fun _ => rfl, I.v12, I.v13, I.b3⟩⟩
              · -- operation 11
                simp [hL, Region.binds] at hdep
                have d4 : L 4 = true := by simp [hdep]
                have d10 : L 10 = true := by simp [hdep]
                have nS : L 14 = false := by cases hh9 : L 14 with | false => rfl | true => exact (by rw [I.kS hh9 11 (by omega)] at hn0; cases hn0)
                have e10 := I.v10 d10
                have TT := I.o1 d4 hn0
                have SS := SBH.out.ext (I.x nS)
                refine wpOp_step rfl (fun K' hK => ?_)
                try rw [e10]
                refine step_O (.tmp 137) (.tmp 143) (by rfl) (by rfl) (by rfl) (by rfl) TT SS (by omega) ?_
                intro v9 w10 T9
                exact hK _ _ ⟨_, bit_set hL hsz 11 (by omega), fun jx => if jx = 144 then v9 else s jx, by first | (simp [frMakeReg, Act.put, e10]; done) | (simp [frMakeReg, Act.put, e10]; rfl), by simpa using hsz, ⟨(fun _ => T9.x), (fun h => absurd (show L 14 = true from h) (by rw [nS]; decide)), (fun h i hi => by simp [I.kN h i hi]), (fun h => by simp [I.kM h]), (fun _ => d4), I.kb, (fun h => absurd (show L 4 = false from h) (by rw [d4]; decide)), (fun _ h => absurd h (by simp)), (fun _ _ => T9), (fun h => absurd (show L 14 = true from h) (by rw [nS]; decide)), I.v0, I.v1, I.v2, I.v5, I.v6, I.v7, I.v8, I.v9, I.v10, I.v12, I.v13, (fun _ h => absurd (show L 4 = false from h) (by rw [d4]; decide))⟩⟩
              · -- operation 12
                have NALL : ∀ i, i < 12 → L i = true := by
                  intro i hi9
                  simp [hL, Region.binds] at hdep
                  rcases (show i = 0 ∨ i = 1 ∨ i = 2 ∨ i = 3 ∨ i = 4 ∨ i = 5 ∨ i = 6 ∨ i = 7 ∨ i = 8 ∨ i = 9 ∨ i = 10 ∨ i = 11 by omega) with rfl | rfl | rfl | rfl | rfl | rfl | rfl | rfl | rfl | rfl | rfl | rfl <;> simp [hdep]
                simp [hL, Region.binds] at hdep
                have d0 : L 0 = true := by simp [hdep]
                have nS : L 14 = false := by cases hh9 : L 14 with | false => rfl | true => exact (by rw [I.kS hh9 12 (by omega)] at hn0; cases hn0)
                have e0 := I.v0 d0
                refine wpOp_step rfl (fun K' hK => ?_)
                rw [e0]
                go_simp
                exact hK _ _ ⟨_, bit_set hL hsz 12 (by omega), fun jx => if jx = 145 then .pointer (some ⟨h, 0, none⟩) else s jx, by first | (simp [frMakeReg, e0]; done) | (simp [frMakeReg, e0]; rfl), by simpa using hsz, ⟨I.x, (fun h => absurd (show L 14 = true from h) (by rw [nS]; decide)), (fun _ i hi => by simp [NALL i hi]), (fun _ => rfl), I.k12, I.kb, I.o0, I.o1, I.o2, (fun h => absurd (show L 14 = true from h) (by rw [nS]; decide)), I.v0, I.v1, I.v2, I.v5, I.v6, I.v7, I.v8, I.v9, I.v10, fun _ => rfl, I.v13, I.b3⟩⟩
              · -- operation 13
                simp [hL, Region.binds] at hdep
                have d12 : L 12 = true := by simp [hdep]
                have nS : L 14 = false := by cases hh9 : L 14 with | false => rfl | true => exact (by rw [I.kS hh9 13 (by omega)] at hn0; cases hn0)
                have e12 := I.v12 d12
                refine wpOp_step rfl (fun K' hK => ?_)
                rw [e12]
                go_simp
                exact hK _ _ ⟨_, bit_set hL hsz 13 (by omega), fun jx => if jx = 146 then .pointer (some ⟨h, 0, none⟩) else s jx, by first | (simp [frMakeReg, e12]; done) | (simp [frMakeReg, e12]; rfl), by simpa using hsz, ⟨I.x, (fun h => absurd (show L 14 = true from h) (by rw [nS]; decide)), (fun h i hi => by simp [I.kN h i hi]), (fun _ => d12), I.k12, I.kb, I.o0, I.o1, I.o2, (fun h => absurd (show L 14 = true from h) (by rw [nS]; decide)), I.v0, I.v1, I.v2, I.v5, I.v6, I.v7, I.v8, I.v9, I.v10, I.v12, fun _ => rfl, I.b3⟩⟩
              · -- operation 14
                simp [hL, Region.binds] at hdep
                have d11 : L 11 = true := by simp [hdep]
                have d13 : L 13 = true := by simp [hdep]
                have e13 := I.v13 d13
                have DALL : ∀ i, i < 14 → L i = true := by
                  intro i hi9
                  have dN := I.kM d13
                  rcases (show i < 12 ∨ i = 12 ∨ i = 13 by omega) with h9 | rfl | rfl
                  · exact I.kN dN i h9
                  · exact dN
                  · exact d13
                have TT := I.o2 d11 hn0
                obtain ⟨A9, c9, hv9, _, _⟩ := own_form TT.own
                obtain ⟨g1, g2, g3⟩ := (HBK.out.ext (I.x hn0)).rules
                refine wpOp_step rfl (fun K' hK => ?_)
                rw [hv9, e13]
                go_simp
                exact hK _ _ ⟨_, bit_set hL hsz 14 (by omega), s, by first | (simp [frMakeReg, e13, hv9]; done) | (simp [frMakeReg, e13, hv9]; rfl), by simpa using hsz, ⟨(fun h => absurd h (by simp)), (fun _ i hi => by simp [DALL i hi]), (fun h i hi => by simp [I.kN h i hi]), (fun h => by simp [I.kM h]), I.k12, I.kb, (fun h => absurd (show L 4 = false from h) (by rw [DALL 4 (by omega)]; decide)), (fun _ h => absurd (show L 11 = false from h) (by rw [d11]; decide)), (fun _ h => absurd h (by simp)), (fun _ => ⟨_, w9, TT, by first | (rw [hv9]; done) | (rw [hv9]; rfl) | (rw [hv9]; simp; done) | (rw [hv9]; simp only [Nat.zero_add])⟩), I.v0, I.v1, I.v2, I.v5, I.v6, I.v7, I.v8, I.v9, I.v10, I.v12, I.v13, (fun _ h => absurd (show L 4 = false from h) (by rw [DALL 4 (by omega)]; decide))⟩⟩
            · rintro listed act w9 ⟨L, hL, s, rfl, hsz, I⟩ hr
              have ALL : ∀ i, i < 15 → L i = true := fun i hi => by rw [← hL i]; exact all_listed (by kernel_rfl) hsz hr i hi
              obtain ⟨v9, w10, T9, rfl⟩ := I.es (ALL 14 (by omega))
              clear hL ALL hr hsz I
              unfold frMakeReg
              dsimp only
              have BZ : Blk (w10.setCell ⟨h, 0, none⟩ v9) bx 47 _ := (BXK.out.ext T9.x).keep ((Keep.refl (· = h) w10).setCell (p := ⟨h, 0, none⟩) rfl v9) ((BXK.out.ext T9.x).ne (HBK.out.ext T9.x) (by decide))
              obtain ⟨s1, s2, s3⟩ := BZ.rules
              have E1 := LA.out
              obtain ⟨z1, z2⟩ := H1.out.inserted (A := A) (B := B) (w20 := w20) (XH.out.trans X20.out) ⟨⟨k', j, fmt, cls, hash, List.replicate j (intW 0), [], 0, false⟩, .slice AV j cV, .slice none 0 0⟩ T9.x (own_keep OH.out (Keep.of_ext X20.out (fun _ => False)) (fun _ _ h => h)) (World.ownsRow_nil _ _ _ _) T9.own (by simp [E1] <;> omega) (by rw [rowO_app, rowO_cons]; simp [cellsO]) (by have := LQ.out; omega)
              have Z1 := Lib.hid z1
              have Z2 := Lib.hid ((R1.out.trans (RK.of_ext (XH.out.trans X20.out))).trans z2)
              clear z1 z2 BZ
              go_wp2_with fail
              go_ret2
              exact ⟨rfl, ⟨_, _, _, Z1.out⟩, Z2.out⟩
end
end Go.Proofs.Ytjpalcejmloocaa.RefHeap
