/-
  ToldBare, RealNew, as one text (a claim has at most 60 files).
-/
import Derived.Test.YtjpalcejmloocaaGreatVq27
import Derived.Test.YtjpalcejmloocaaGreatVq32
import Derived.Test.YtjpalcejmloocaaGreatVq33
namespace Go.Proofs.YtjpalcejmloocaaGreat.World
open Go.RowKit Go.Proofs.YtjpalcejmloocaaGreat.Plain
set_option linter.unusedVariables false
theorem told1z {w : World} {b o g3 : Nat} {T : TypeId} {cs : Array Value} (hb : Blk w b T cs) (ho : cs[o]? = some (.int .i64 0)) :
    Calls Tryz.prog 127 #[.pointer (some ⟨b, o, none⟩), .pointer (some ⟨g3, 0, none⟩)] w fun e w' => e = .returned (.tuple #[]) ∧ w = w' := by
  have cb : w.cell? ⟨b, o, none⟩ = some (.int .i64 0) := by rw [hb.cell]; exact ho
  have fb : w.frozen? ⟨b, o, none⟩ = false := hb.frozen o
  have lb := hb.lt
  clear hb ho
  go_enter Tryz.func127, Tryz.ntmps127
  go_wp2
  go_end0
  exact ⟨rfl, rfl⟩
set_option maxRecDepth 100000 in
set_option maxHeartbeats 1000000 in
theorem told_bare {w : World} {g : Nat} {f v5 v6 v7 v8 v9 : Value} {A1 A2 A3 : Option Addr} {c1 c2 c3 : Nat} (b : Blk w g 29 #[.int .i64 0, .int .i64 0, .slice A1 0 c1, .slice A2 0 c2, .slice A3 0 c3, v5, v6, v7, v8, v9]) :
    Calls Tryz.prog 99 #[.pointer (some ⟨g, 0, none⟩), f] w fun e w' => e = .returned (.tuple #[]) ∧ Ext w w' := by
  have hk : ∀ (args : Array Value) (W : World), (callFunc 127 args).run Tryz.prog W = .ok (.enter 127 args) W := fun _ _ => by kernel_rfl
  have B0 := Lib.hid b
  clear b
  go_enter Tryz.func99, Tryz.ntmps99
  go_upto_region 2 with (fail)
  refine wp_name (fun w1 hW => ?_)
  have x1 : Ext w w1 := by rw [hW]; exact (Ext.refl _).alloc _
  have X := Lib.hid x1
  have B := Lib.hid (B0.out.ext x1)
  clear hW x1 B0
  generalize w.heap.size = g3 at *
  go_wp2_with fail
  refine (told1z (o := 0) B.out (by rfl)).mono ?_
  rintro e w2 ⟨rfl, rfl⟩
  go_wp2_with fail
  refine (told1z (o := 1) B.out (by rfl)).mono ?_
  rintro e w3 ⟨rfl, rfl⟩
  have cR := B.out.cell 2
  have cW := B.out.cell 3
  have cD := B.out.cell 4
  have lR := B.out.lt
  simp only [List.getElem?_toArray, List.getElem?_cons_zero, List.getElem?_cons_succ] at cR cW cD
  go_wp2_with fail
  go_loopw [24] (fun iv wr => iv = .int .i64 0 ∧ w1 = wr) (fun _ _ => 0)
  case atStart => exact ⟨rfl, rfl⟩
  case round =>
    obtain ⟨rfl, rfl⟩ := hrel
    go_wp2_with fail
    go_loopw [41] (fun iv wr => iv = .int .i64 0 ∧ w1 = wr) (fun _ _ => 0)
    case atStart => exact ⟨rfl, rfl⟩
    case round =>
      obtain ⟨rfl, rfl⟩ := hrel
      go_wp2_with fail
      go_loopw [68] (fun iv wr => iv = .int .i64 0 ∧ w1 = wr) (fun _ _ => 0)
      case atStart => exact ⟨rfl, rfl⟩
      case round =>
        obtain ⟨rfl, rfl⟩ := hrel
        go_wp2_with fail
        go_end0
        exact ⟨rfl, X.out⟩
end Go.Proofs.YtjpalcejmloocaaGreat.World
namespace Go.Proofs.YtjpalcejmloocaaGreat.World
open Go.RowKit Go.Proofs.YtjpalcejmloocaaGreat.Plain
set_option linter.unusedVariables false
attribute [local go_sem ↓] Go.wp_at_zero Go.wp_at_succ
/-- a world of the first things alone, its registers bare -/
structure Bare (W : PW) : Prop where
  L : W.L = firstL 23
  dead : W.dead = []
  check : checkB W = true
  proc : W.R.proc = 0
  frame : W.R.frame = 0
  ready : W.R.ready = []
  wait : W.R.wait = []
  due : W.R.due = []
  snaps : W.R.snaps = []
  how : W.R.how = 0
theorem WorldAt.regs {w : World} {x : WV} {W : PW} (h : WorldAt w x W) (B : Bare W) : RegsAt w W.R x.ready x.wait x.due x.snaps :=
  ⟨h.ready, h.wait, h.due, h.snaps, by rw [B.ready]; exact Nat.zero_le _, by rw [B.wait]; exact Nat.zero_le _, by rw [B.due]; exact Nat.zero_le _, by rw [B.snaps]; exact Nat.zero_le _⟩
section
variable {w w' : World} {x : WV} {W : PW}
set_option maxRecDepth 100000 in
set_option maxHeartbeats 4000000 in
theorem rnew (h : WorldAt w x W) (B : Bare W) :
    Calls Tryz.prog 74 #[.agg (cellsW W x), .int .i64 1000, .int .i64 5] w fun e w' => (∃ M, e = .returned (.tuple #[.pointer (some ⟨M, 0, none⟩), .int .i64 0]) ∧ MachAt w' M W.R) ∧ Ext w w' := by
  have CK := Lib.hid (fun w' (e : Ext w w') => check (h.ext e))
  rw [B.check] at CK
  have CD := Lib.hid (fun w' (e : Ext w w') => containsBool (h.dead.ext e))
  rw [B.dead] at CD
  have CD : Hid (∀ w', Ext w w' → Calls Tryz.prog 97 #[x.dead, .bool true] w' fun e w'' => e = .returned (.bool false) ∧ Ext w' w'') := CD
  have CL := Lib.hid (fun w' (e : Ext w w') => load_ (h.ext e) B.L B.dead B.check)
  have CR := Lib.hid (fun w' (e : Ext w w') => (h.regs B |>.ext e).regs)
  have HF := Lib.hid (h.regs B).fit
  have CM := Lib.hid (fun w' (q : Nat) (last most : Int) re wa du sn (r : RegsAt w' W.R re wa du sn) => mrnew (q := q) (last := last) (most := most) r)
  have HB := Lib.hid B
  obtain ⟨vL, fs, vD, vRe, vWa, vDu, vSn⟩ := x
  obtain ⟨A1, c1, e1, _⟩ := h.L.row.form
  replace e1 : vL = .slice A1 W.L.length c1 := e1
  subst e1
  obtain ⟨A2, c2, e2, _⟩ := Row.form h.dead
  replace e2 : vD = .slice A2 W.dead.length c2 := e2
  subst e2
  obtain ⟨A3, c3, e3, _⟩ := Row.form h.ready
  replace e3 : vRe = .slice A3 W.R.ready.length c3 := e3
  subst e3
  obtain ⟨A4, c4, e4, _⟩ := Row.form h.wait
  replace e4 : vWa = .slice A4 W.R.wait.length c4 := e4
  subst e4
  obtain ⟨A5, c5, e5, _⟩ := Row.form h.due
  replace e5 : vDu = .slice A5 W.R.due.length c5 := e5
  subst e5
  obtain ⟨A6, c6, e6, _⟩ := Row.form h.snaps
  replace e6 : vSn = .slice A6 W.R.snaps.length c6 := e6
  subst e6
  clear h B
  unfold cellsW cellsR at *
  have hmm := @run_makeMap Tryz.prog
  go_enter Tryz.func74, Tryz.ntmps74
  go_upto_region 1 with (fail)
  refine wp_name (fun W0 hW => ?_)
  have B0 := Lib.hid (Blk.new' hW)
  have X0 := Lib.hid ((Ext.refl w).alloc' hW)
  clear hW
  generalize w.heap.size = g0 at *
  obtain ⟨r1, r2, r3⟩ := B0.out.rules
  go_upto_region 3 with ((first | (go_at_call 20; refine (CK.out _ X0.out).mono ?_; rintro e w2 ⟨rfl, x2⟩; obtain ⟨q1, q2, q3⟩ := (B0.out.ext x2).rules) | (go_at_call 97; refine (CD.out _ (X0.out.trans x2)).mono ?_; rintro e w3 ⟨rfl, x3⟩; have X3 := Lib.hid ((X0.out.trans x2).trans x3); have B3 := Lib.hid (B0.out.ext (x2.trans x3)))))
  clear r1 r2 r3 q1 q2 q3 x2 x3 CK CD X0 B0
  obtain ⟨r1, r2, r3⟩ := B3.out.rules
  go_wp2_with fail
  refine (CL.out _ X3.out).mono ?_
  rintro e w4 ⟨⟨hp, A, c, rfl, O⟩, x4⟩
  have rO : Row w4 (.slice A 23 c) 23 1 (fun i _ => .int .i64 ((Heap.atL 23).getD i 0)) := O.own.row
  obtain ⟨b9, o9, eA, _⟩ := Row.at_ rO 0 (by omega)
  obtain ⟨_, _, e9, l9, l9'⟩ := Row.form rO
  injection e9 with _ _ e9
  subst e9 eA
  have c23 : (23 : Int) ≤ (c : Int) := by omega
  clear rO
  have O4 := Lib.hid O
  have X4 := Lib.hid (X3.out.trans x4)
  have B4 := Lib.hid (B3.out.ext x4)
  clear O x4 CL X3 B3 r1 r2 r3
  go_upto_region 6 with (fail)
  refine wp_name (fun W1 hW => ?_)
  have BA := Lib.hid (Blk.new' hW)
  have X5 := Lib.hid (X4.out.alloc' hW)
  have B5 := Lib.hid (B4.out.alloc' hW)
  have O5 := Lib.hid (O4.out.ext ((Ext.refl _).alloc' hW))
  clear hW X4 B4 O4
  generalize w4.heap.size = ga at *
  obtain ⟨r1, r2, r3⟩ := B5.out.rules
  go_wp2_with fail
  refine (CR.out _ X5.out).mono ?_
  rintro e w6 ⟨⟨re, wa, du, sn, rfl, rn⟩, x6⟩
  have N6 := Lib.hid (rn.at_ HF.out)
  have X6 := Lib.hid (X5.out.trans x6)
  have B6 := Lib.hid (B5.out.ext x6)
  have BA6 := Lib.hid (BA.out.ext x6)
  clear rn x6 X5 B5 BA O5 r1 r2 r3 CR
  obtain ⟨A7, k7, e7, _⟩ := N6.out.h1.form
  obtain ⟨A8, k8, e8, _⟩ := N6.out.h2.form
  obtain ⟨A9, k9, e9, _⟩ := N6.out.h3.form
  obtain ⟨A10, k10, e10, _⟩ := N6.out.h4.form
  subst e7 e8 e9 e10
  go_upto_region 7 with (fail)
  refine wp_name (fun W2 hW => ?_)
  have BR := Lib.hid (Blk.new' hW)
  have N7 := Lib.hid (N6.out.ext ((Ext.refl _).alloc' hW))
  have X7 := Lib.hid (X6.out.alloc' hW)
  have B7 := Lib.hid (B6.out.alloc' hW)
  have BA7 := Lib.hid (BA6.out.alloc' hW)
  clear hW X6 B6 BA6 N6
  generalize w6.heap.size = gr at *
  have BR0 := BR.out
  rw [HB.out.proc, HB.out.frame, HB.out.ready, HB.out.wait, HB.out.due] at BR0
  have TB := Lib.hid (fun f => told_bare (f := f) BR0)
  clear BR0
  go_wp2_with fail
  refine (TB.out _).mono ?_
  rintro e w8 ⟨rfl, x8⟩
  have X8 := Lib.hid (X7.out.trans x8)
  have B8 := Lib.hid (B7.out.ext x8)
  have BA8 := Lib.hid (BA7.out.ext x8)
  have BR8 := Lib.hid (BR.out.ext x8)
  have N8 := Lib.hid (N7.out.ext x8)
  clear TB x8 X7 B7 BA7 BR N7
  obtain ⟨r1, r2, r3⟩ := BA8.out.rules
  go_upto_region 9 with (fail)
  refine wp_name (fun W3 hW => ?_)
  have X9 := Lib.hid ((X8.out.alloc _).alloc' hW)
  have B9 := Lib.hid ((B8.out.alloc _).alloc' hW)
  have BR9 := Lib.hid ((BR8.out.alloc _).alloc' hW)
  have N9 := Lib.hid (N8.out.ext (((Ext.refl _).alloc _).alloc' hW))
  clear hW X8 B8 BA8 BR8 N8 r1 r2 r3
  generalize w8.heap.size + 1 = q at *
  obtain ⟨r1, r2, r3⟩ := B9.out.rules
  obtain ⟨s1, s2, s3⟩ := BR9.out.rules
  go_wp2_with fail
  refine (CM.out _ _ _ _ _ _ _ _ N9.out).mono ?_
  rintro e w10 ⟨⟨m, re', wa', du', sn', sb, rfl, BM, N⟩, x10⟩
  have M10 := Lib.hid BM
  have N10 := Lib.hid N
  have X10 := Lib.hid (X9.out.trans x10)
  clear BM N x10 X9 B9 BR9 N9 r1 r2 r3 s1 s2 s3
  go_wp2_with fail
  go_ret2
  exact ⟨⟨w10.heap.size, rfl, m, q, re', wa', du', sn', _, sb, Blk.new _ _ _, M10.out.alloc _, N10.out.ext ((Ext.refl _).alloc _)⟩, X10.out.alloc _⟩
end
end Go.Proofs.YtjpalcejmloocaaGreat.World
