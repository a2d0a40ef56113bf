/-
  The walks of HeapRefuses and HeapWalks (chapter 5).
-/
import Derived.Test.YtiffoapjhkapfaaHeapMake2
import Derived.Test.YtiffoapjhkapfaaShell
import Derived.Laws.Tables
import Derived.Laws.Rows
import Derived.Great.Walk
import Derived.Deep.DeepCutAuto
namespace Go.Proofs.Ytiffoapjhkapfaa.Heap
open Go.RowKit Go.Proofs.Ytiffoapjhkapfaa.Plain Go.Proofs.Ytiffoapjhkapfaa.Free
set_option linter.unusedVariables false

def s0 : List Int := List.replicate 10 0
def s1 : List Int := made s0 0 2 1 0 0 1 (intW 0)
def s2 : List Int := made s1 5 2 3 3 0 2 0
def g0 : List Bool := List.replicate 11 false
def g1 : List Bool := g0.set 1 true
def g2 : List Bool := g1.set 6 true
theorem size6 : sizeI s2 g2 6 = 5 := by decide +kernel
theorem next1 : nextN g2 1 = 6 := by
  rw [next_no g2 1 (by decide) (by decide), next_no g2 2 (by decide) (by decide), next_no g2 3 (by decide) (by decide), next_no g2 4 (by decide) (by decide), next_yes g2 5 (by decide) (by decide)]
set_option maxHeartbeats 1000000 in
theorem awake (w : World) : Calls Try.prog 18 #[] w fun e w' => e = .returned (.bool true) ∧ Ext w w' := by
  go_enter Try.func18, Try.ntmps18
  go_wp2_with fail
  refine (new 10 10 10 w rfl rfl (by omega)).mono ?_
  rintro e w1 ⟨⟨h, rfl, H1⟩, x1⟩
  have H1 : Heap w1 h w.heap.size s0 [(0, 10)] g0 := H1
  go_wp2_with fail
  refine (make_plain H1 1 (.inl rfl) 2 0 1 (by omega) (by omega) (by omega) (by omega) (by omega)).mono ?_
  rintro e w2 hp
  obtain ⟨k, hk, rfl, H2, K2⟩ := hp.2 0 rfl
  obtain rfl : k = 0 := by have : (0 : Int) = (k : Int) := hk; omega
  have H2 : Heap w2 h w.heap.size s1 [(5, 5)] g1 := H2
  clear hp hk
  go_wp2_with fail
  refine (make_bytes H2 5 0 2 2 (by omega) (by omega) (by omega) (by omega) (by omega) (by omega)).mono ?_
  rintro e w3 hp
  obtain ⟨k, hk, rfl, H3, K3⟩ := hp.2 0 rfl
  obtain rfl : k = 5 := by have : (5 : Int) = (k : Int) := hk; omega
  have H3 : Heap w3 h w.heap.size s2 [] g2 := H3
  clear hp hk
  go_wp2_with fail
  refine (make_bytes H3 0 0 3 0 (by omega) (by omega) (by omega) (by omega) (by omega) (by omega)).mono ?_
  rintro e w4 hp
  obtain ⟨rfl, x4⟩ := hp.1 rfl
  clear hp
  have H4 := H3.ext x4
  have sz := size H4 6 (by omega) (by omega)
  rw [size6] at sz
  have SZ := Lib.hid sz
  clear sz
  go_wp2_with fail
  refine SZ.out.mono ?_
  rintro e w5 ⟨rfl, x5⟩
  have nx := next (H4.ext x5) 1 1 rfl (by omega)
  rw [next1] at nx
  have NX := Lib.hid nx
  clear nx
  go_wp2_with fail
  refine NX.out.mono ?_
  rintro e w6 ⟨rfl, rfl⟩
  go_wp2_with fail
  go_ret
  exact ⟨rfl, (hk_ext (hk_ext x1 (Nat.le_refl _) K2) (Nat.le_refl _) K3).trans (x4.trans x5)⟩
def zeros32 : Array Value := Array.replicate 32 (.int .i64 0)
theorem zero32 (w : World) : Sem.run Try.prog (zeroValue 35) w = .ok (.agg zeros32) w := by kernel_rfl
def tab (n : Int) : Array Value := #[.int .i64 0, .int .i64 1, .int .i64 0, .int .i64 1, .int .i64 (3 + n), .int .i64 1, .int .i64 0, .int .i64 1, .int .i64 1, .int .i64 (60 + n), .int .i64 0, .int .i64 1, .int .i64 2, .int .i64 (-n), .int .i64 0, .int .i64 1, .int .i64 3, .int .i64 (200 + n), .int .i64 0, .int .i64 1, .int .i64 1, .int .i64 1, .int .i64 (-n), .int .i64 1, .int .i64 1, .int .i64 1, .int .i64 (65536 + n), .int .i64 1, .int .i64 1, .int .i64 1, .int .i64 0, .int .i64 (3000 + n)]
theorem tab_one (n : Int) : (tab n).all (·.oneCell') = true := by simp [tab, Value.oneCell']
theorem keep_setRow (w : World) (g : Nat) (cs : Array Value) : Keep (· = g) w (w.setRow g cs) :=
  ⟨rfl, rfl, rfl, by simp [World.setRow], fun k hk hn => setRow_other w g k cs hn⟩
theorem wpList_built {P : Program} {ops : Array Oper} {rest : List Oper} {o : Oper} {a : Act} {w : World} {Q : Exit → Act → World → Prop} (hg : o.guard = none) (t : TypeId) (parts : Array (Nat × Operand)) (ho : o.op = .build t parts) (cells : Array Value)
    (hc : P.built t (parts.map fun (i, x) => (i, a.eval x)).toList = some cells) (h : wpList P ops Q rest (a.put o.dst (.agg cells)) w) : wpList P ops Q (o :: rest) a w :=
  wpList_build hg t parts ho (by rw [hc]; rfl) (by rw [hc]; exact h)
theorem built8 (x0 x1 x2 x3 x4 x5 x6 x7 x8 x9 x10 x11 x12 x13 x14 x15 x16 x17 x18 x19 x20 x21 x22 x23 x24 x25 x26 x27 x28 x29 x30 x31 : Int) : Try.prog.built 35 [(0, .agg #[.int .i64 x0, .int .i64 x1, .int .i64 x2, .int .i64 x3]), (1, .agg #[.int .i64 x4, .int .i64 x5, .int .i64 x6, .int .i64 x7]), (2, .agg #[.int .i64 x8, .int .i64 x9, .int .i64 x10, .int .i64 x11]), (3, .agg #[.int .i64 x12, .int .i64 x13, .int .i64 x14, .int .i64 x15]), (4, .agg #[.int .i64 x16, .int .i64 x17, .int .i64 x18, .int .i64 x19]), (5, .agg #[.int .i64 x20, .int .i64 x21, .int .i64 x22, .int .i64 x23]), (6, .agg #[.int .i64 x24, .int .i64 x25, .int .i64 x26, .int .i64 x27]), (7, .agg #[.int .i64 x28, .int .i64 x29, .int .i64 x30, .int .i64 x31])] = some #[.int .i64 x0, .int .i64 x1, .int .i64 x2, .int .i64 x3, .int .i64 x4, .int .i64 x5, .int .i64 x6, .int .i64 x7, .int .i64 x8, .int .i64 x9, .int .i64 x10, .int .i64 x11, .int .i64 x12, .int .i64 x13, .int .i64 x14, .int .i64 x15, .int .i64 x16, .int .i64 x17, .int .i64 x18, .int .i64 x19, .int .i64 x20, .int .i64 x21, .int .i64 x22, .int .i64 x23, .int .i64 x24, .int .i64 x25, .int .i64 x26, .int .i64 x27, .int .i64 x28, .int .i64 x29, .int .i64 x30, .int .i64 x31] := by kernel_rfl
def S5 : List Int := List.replicate 500 0
def G5 : List Bool := List.replicate 501 false
theorem has1 : hasB G5 1 = false := by decide +kernel
theorem size1 : sizeI S5 G5 1 = -1 := by unfold sizeI; rw [has1]; rfl
theorem next_none (k n : Nat) : nextN (List.replicate n false) k = 0 := by
  by_cases h : k + 1 < n
  · rw [next_no _ k (by simpa using h) (by simp [List.getD, h]), next_none (k + 1) n]
  · rw [next_end _ k (by simp; omega)]
  termination_by n - k
theorem words5 : wordsL [(0, 500)] = 500 := rfl
theorem nine (j : Nat) (hj : j < 8) (n : Int) (hn : 1 ≤ n) (hn2 : n ≤ 1000) : ∃ f m c a : Int, (tab n)[j * 4]? = some (.int .i64 f) ∧ (tab n)[j * 4 + 1]? = some (.int .i64 m) ∧ (tab n)[j * 4 + 2]? = some (.int .i64 c) ∧ (tab n)[j * 4 + 3]? = some (.int .i64 a) ∧ badB f m c a = true := by
  rcases (by omega : j = 0 ∨ j = 1 ∨ j = 2 ∨ j = 3 ∨ j = 4 ∨ j = 5 ∨ j = 6 ∨ j = 7) with rfl | rfl | rfl | rfl | rfl | rfl | rfl | rfl
  all_goals refine ⟨_, _, _, _, rfl, rfl, rfl, rfl, ?_⟩
  all_goals (unfold badB mostI; apply decide_eq_true)
  all_goals (split <;> omega)
set_option maxRecDepth 100000 in
set_option maxHeartbeats 4000000 in
theorem heapRefuses (a0 a1 : Int) (w : World) (w0 : (Lit.int .i64 a0).wf = true) (w1 : (Lit.int .i64 a1).wf = true) :
    Calls Try.prog 4 #[.int .i64 a0, .int .i64 a1] w fun e w' => e = .returned (.bool true) ∧ Below w.heap.size w w' := by
  obtain ⟨x1, x2⟩ := bounds_i64 w0
  obtain ⟨y1, y2⟩ := bounds_i64 w1
  have hz := zero32
  go_enter Try.func4, Try.ntmps4
  go_wp2_with fail
  refine (new 500 500 500 w rfl rfl (by omega)).mono ?_
  rintro e w1 ⟨⟨h, rfl, H1⟩, x1⟩
  have HH1 : Hid (Heap w1 h w.heap.size S5 [(0, 500)] G5) := H1
  clear H1
  go_wp2_with fail
  refine (Word.place _ _ _ (by omega) (by omega) (by omega) (by omega)).mono ?_
  rintro e w' ⟨rfl, rfl⟩
  have n0 : 0 ≤ a1 % 1000 := by omega
  have n1 : a1 % 1000 ≤ 999 := by omega
  generalize a1 % 1000 = m at *
  go_upto_region 5 with (fail)
  iterate 67 go_step
  refine wpList_built rfl 35 _ rfl (tab (1 + m)) ?_ ?_
  · kernel_rfl
  refine Go.Great.wpList_allocTo rfl (some 7) rfl (.pointer (some ⟨w1.heap.size, 0, none⟩)) (.cells zeros32 35) (by kernel_rfl) ?_
  refine wpList_store_row rfl 35 _ _ rfl w1.heap.size (tab (1 + m)) rfl rfl 35 zeros32 (Blk.new w1 _ _) (by kernel_rfl) rfl (tab_one (1 + m)) ?_
  apply wpList_nil
  refine then_name (fun W hW => ?_)
  have hb : Blk W w1.heap.size 35 (tab (1 + m)) := by rw [hW]; exact setRow_heap _ _ _ _ _ _ (Blk.new w1 _ _)
  have hx : Ext w1 W := by rw [hW]; exact (Keep.trans (Keep.of_ext ((Ext.refl w1).alloc _) _) (keep_setRow _ _ _)).toExt (fun k hk h => by omega)
  clear hW hz
  have j0 : 0 ≤ a0 % 8 := by omega
  have j1 : a0 % 8 < 8 := by omega
  obtain ⟨j, hj⟩ := Int.eq_ofNat_of_zero_le j0
  obtain ⟨f, mm, c, a, t0, t1, t2, t3, hbad⟩ := nine j (by omega) (1 + m) (by omega) (by omega)
  have c0 := (hb.cell (j * 4)).trans t0
  have c1 := (hb.cell (j * 4 + 1)).trans t1
  have c2 := (hb.cell (j * 4 + 2)).trans t2
  have c3 := (hb.cell (j * 4 + 3)).trans t3
  have hlt := hb.lt
  have HJ := Lib.hid hj
  have HBAD := Lib.hid hbad
  have jl : (j : Int) < 8 := by omega
  generalize w1.heap.size = g at *
  clear hb t0 t1 t2 t3 hj hbad j0 j1
  go_wp2_with fail
  refine (Word.place _ _ _ (by omega) (by omega) (by omega) (by omega)).mono ?_
  rintro e w' ⟨rfl, rfl⟩
  rw [HJ.out]
  go_wp2_with fail
  refine (make_no _ _ _ _ _ _ HBAD.out).mono ?_
  rintro e w' ⟨rfl, rfl⟩
  have xw := (Ext.refl W).alloc (.cells #[.int .i64 f, .int .i64 mm, .int .i64 c, .int .i64 a] 34)
  have H2 := (HH1.out.ext hx).ext xw
  have wd := words H2
  have HWD := Lib.hid wd
  clear wd
  go_wp2_with fail
  refine HWD.out.mono ?_
  rintro e w4 ⟨rfl, x4⟩
  have H4 := Lib.hid (H2.ext x4)
  have XX := Lib.hid (((x1.trans hx).trans xw).trans x4)
  clear H2 HWD
  rw [words5]
  have e5 : ((S5.length : Int) - 500) = 0 := rfl
  have e6 : (S5.length : Int) = 500 := rfl
  rw [e5, e6]
  clear e5 e6 c0 c1 c2 c3
  go_wp2_with fail
  have nx := next H4.out 0 0 rfl (by omega)
  rw [show nextN G5 0 = 0 from next_none 0 501] at nx
  refine nx.mono ?_
  rintro e w5 ⟨rfl, rfl⟩
  clear nx
  go_wp2_with fail
  have sz := size H4.out 1 (by omega) (by omega)
  rw [size1] at sz
  refine sz.mono ?_
  rintro e w6 ⟨rfl, x6⟩
  clear sz
  go_wp2_with fail
  refine (setmark_no (H4.out.ext x6) _ _ _ has1).mono ?_
  rintro e w7 ⟨rfl, rfl⟩
  go_wp2_with fail
  refine (awake _).mono ?_
  rintro e w8 ⟨rfl, x8⟩
  go_wp2_with fail
  go_ret
  exact ⟨rfl, ((XX.out.trans x6).trans x8).below⟩
end Go.Proofs.Ytiffoapjhkapfaa.Heap
