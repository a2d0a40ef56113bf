/-
  Contract of frame.Next: a frame that is at an instruction of a code.
-/
import Derived.Test.YtnhijjcplnomgaaGreatThing
namespace Go.Proofs.YtnhijjcplnomgaaGreat.World
open Go.RowKit Go.Proofs.YtnhijjcplnomgaaGreat.Plain
set_option linter.unusedVariables false
attribute [local go_sem ↓] Go.wp_at_zero Go.wp_at_succ
namespace MS
/-- a frame at an instruction: its method, the method's code -/
structure Nx (S : MS) (id mt cd pc : Int) (B : ByteArray) : Prop where
  fr : Fr S id
  ph : S.phase ≠ 1
  pc : S.get id 1 = num pc
  meth : S.get id 3 = objV mt
  code : S.get mt 3 = objV cd
  ne : mt ≠ id
  has : S.has cd = true
  fmt : S.fmt cd = 3
  txt : (S.t cd).B = B
theorem Nx.step {S : MS} {id mt cd pc n : Int} {B : ByteArray} (h : Nx S id mt cd pc B) (hn : 0 ≤ n ∧ n ≤ 5000) : S.setOK id 1 (num n) = true ∧ Nx (S.set id 1 (num n)) id mt cd n B := by
  obtain ⟨a, e, f, m, g⟩ := h.fr.next hn
  refine ⟨a, ?_⟩
  rw [e]
  exact ⟨f, by rw [m.phase]; exact h.ph, by rw [g, if_pos ⟨rfl, rfl⟩], by rw [g, if_neg (by omega)]; exact h.meth, by rw [g, if_neg (fun c => h.ne c.1)]; exact h.code, h.ne, by rw [m.has]; exact h.has, by rw [m.fmt]; exact h.fmt, by rw [m.text]; exact h.txt⟩
end MS
section
variable {w w' w2 : World} {F F' F2 : Nat → Prop} {m : Nat} {S S' : MS} {X : MX}
set_option maxRecDepth 100000 in
set_option maxHeartbeats 2000000 in
theorem fnext_in (h : M w F m S) {id mt cd : Int} {k : Nat} {B : ByteArray} (N : S.Nx id mt cd k B) (hB : B.size ≤ 1000) (hk : 3 * k + 3 ≤ B.size) : Calls Tryz.prog 19 #[.pointer (some ⟨m, 0, none⟩), .int .i64 id] w fun e w' => e = .returned (.tuple #[.agg #[.int .i64 (byteN B (3 * k)), .int .i64 (byteN B (3 * k + 1)), .int .i64 (byteN B (3 * k + 2))], .bool true]) ∧ M w' F m (S.set id 1 (num ((k : Int) + 1))) ∧ Keep F w w' := by
  obtain ⟨ok, _⟩ := N.step (n := ((k : Int) + 1)) (by omega)
  have C1 := Lib.hid (fun W [x : IsExt w W] => fis (h.ext x.out) id)
  have CP := Lib.hid (fun W [x : IsExt w W] => mget (h.ext x.out) id 1)
  have CM := Lib.hid (fun W [x : IsExt w W] => mget (h.ext x.out) id 3)
  have CC := Lib.hid (fun W [x : IsExt w W] => mget (h.ext x.out) mt 3)
  have CT := Lib.hid (fun W [x : IsExt w W] => mthingB (h.ext x.out) cd N.has N.fmt)
  have CG := Lib.hid (fun W => cget_in W B hB k hk)
  have CW := Lib.hid (fun W [x : IsExt w W] => mset (h.ext x.out) N.ph id 1 (num ((k : Int) + 1)))
  rw [ok] at CW
  rw [N.fr.is] at C1
  rw [N.pc] at CP
  rw [N.meth] at CM
  rw [N.code] at CC
  rw [N.txt] at CT
  have HF := Lib.hid h.lt
  have tl : (k : Int) ≤ 400 := by omega
  clear h ok N
  unfold val num objV at *
  unfold tcells at CT
  generalize S.set id 1 ⟨false, ((k : Int) + 1)⟩ = P at *
  generalize (S.t cd).cls = tc at *
  generalize (S.t cd).fmt = tf at *
  generalize (S.t cd).hash = th at *
  generalize (S.t cd).fin = tn at *
  generalize byteN B (3 * k) = y0 at *
  generalize byteN B (3 * k + 1) = y1 at *
  generalize byteN B (3 * k + 2) = y2 at *
  go_enter Tryz.func19, Tryz.ntmps19
  go_wp2_with fail
  refine (C1.out _).mono ?_
  rintro e w1 ⟨rfl, x1⟩
  have B4 := (Blk.new w 50 #[.int .i64 0, .int .i64 0, .int .i64 0]).ext x1
  have i1 : IsExt w w1 := ⟨(is_ext w _).trans x1⟩
  clear x1 C1
  go_wp2_with fail
  refine (CP.out w1).mono ?_
  rintro e w2 ⟨rfl, x2⟩
  replace B4 := B4.ext x2
  have i2 : IsExt w w2 := ⟨i1.out.trans x2⟩
  clear x2 i1 CP
  go_wp2_with fail
  refine (CM.out w2).mono ?_
  rintro e w3 ⟨rfl, x3⟩
  replace B4 := B4.ext x3
  have i3 : IsExt w w3 := ⟨i2.out.trans x3⟩
  clear x3 i2 CM
  go_wp2_with fail
  refine (CC.out w3).mono ?_
  rintro e w4 ⟨rfl, x4⟩
  replace B4 := B4.ext x4
  have i4 : IsExt w w4 := ⟨i3.out.trans x4⟩
  clear x4 i3 CC
  go_wp2_with fail
  refine (CT.out w4).mono ?_
  rintro e w5 ⟨rfl, x5⟩
  replace B4 := B4.ext x5
  have i5 : IsExt w w5 := ⟨i4.out.trans x5⟩
  clear x5 i4 CT
  have FLD : ∀ W, Sem.run Tryz.prog (Instr.field 62 (.agg #[.int .i64 tc, .int .i64 tf, .int .i64 th, .bool tn, .slice none 0 0, .string B]) 5) W = .ok (.string B) W := fun W => by kernel_rfl
  go_wp2_with fail
  refine (CG.out w5).mono ?_
  rintro e w6 ⟨rfl, x6⟩
  replace B4 := B4.ext x6
  have i6 : IsExt w w6 := ⟨i5.out.trans x6⟩
  have hlt6 := B4.lt
  have h46 : w.heap.size ≤ w6.heap.size := i6.out.below.size
  clear x6 i5 CG
  go_wp2_with fail
  refine (CW.out _).mono ?_
  rintro e w7 ⟨rfl, m7, k7⟩
  have nF : ¬ F w.heap.size := fun hf => by have := HF.out _ hf; omega
  have nF6 : ¬ F w6.heap.size := fun hf => by have := HF.out _ hf; omega
  have B8 := (Blk.new w6 50 #[.int .i64 y0, .int .i64 y1, .int .i64 y2]).keep k7 nF6
  replace B4 := (B4.alloc _).keep k7 nF
  have K7 := Lib.hid ((Keep.of_ext (i6.out.alloc _) F).trans k7)
  have M7 := Lib.hid m7
  have NF := Lib.hid nF
  obtain ⟨p1, p2, p3⟩ := B4.rules
  obtain ⟨q1, q2, q3⟩ := B8.rules
  have hne : w.heap.size ≠ w6.heap.size := by omega
  clear B4 B8 k7 m7 CW nF nF6 i6
  go_wp2_with fail
  refine bodyPost_ret (v := .tuple #[.agg #[.int .i64 y0, .int .i64 y1, .int .i64 y2], .bool true]) (by simp [results, Tryz.results19, go_sem, p1]) rfl ⟨rfl, ?_, ?_⟩
  · exact M7.out.far ((((Keep.refl (· = w.heap.size) w7).setCell (p := ⟨w.heap.size, 0, none⟩) rfl _).setCell (p := ⟨w.heap.size, 1, none⟩) rfl _).setCell (p := ⟨w.heap.size, 2, none⟩) rfl _) (fun j e hf => NF.out (e ▸ hf))
  · exact (((K7.out.setNew (p := ⟨w.heap.size, 0, none⟩) (Nat.le_refl _) _).setNew (p := ⟨w.heap.size, 1, none⟩) (Nat.le_refl _) _).setNew (p := ⟨w.heap.size, 2, none⟩) (Nat.le_refl _) _)
set_option maxRecDepth 100000 in
set_option maxHeartbeats 2000000 in
theorem fnext_out (h : M w F m S) {id mt cd : Int} {k : Nat} {B : ByteArray} (N : S.Nx id mt cd k B) (hB : B.size ≤ 1000) (hk : B.size < 3 * k + 3) (k4 : k ≤ 4000) : Calls Tryz.prog 19 #[.pointer (some ⟨m, 0, none⟩), .int .i64 id] w fun e w' => e = .returned (.tuple #[.agg #[.int .i64 0, .int .i64 0, .int .i64 0], .bool false]) ∧ Ext w w' := by
  have C1 := Lib.hid (fun W [x : IsExt w W] => fis (h.ext x.out) id)
  have CP := Lib.hid (fun W [x : IsExt w W] => mget (h.ext x.out) id 1)
  have CM := Lib.hid (fun W [x : IsExt w W] => mget (h.ext x.out) id 3)
  have CC := Lib.hid (fun W [x : IsExt w W] => mget (h.ext x.out) mt 3)
  have CT := Lib.hid (fun W [x : IsExt w W] => mthingB (h.ext x.out) cd N.has N.fmt)
  have CG := Lib.hid (fun W => cget_hi W B hB k (by omega))
  rw [N.fr.is] at C1
  rw [N.pc] at CP
  rw [N.meth] at CM
  rw [N.code] at CC
  rw [N.txt] at CT
  have HF := Lib.hid h.lt
  have tl : (k : Int) ≤ 4000 := by omega
  clear h N
  unfold val num objV at *
  unfold tcells at CT
  generalize (S.t cd).cls = tc at *
  generalize (S.t cd).fmt = tf at *
  generalize (S.t cd).hash = th at *
  generalize (S.t cd).fin = tn at *
  go_enter Tryz.func19, Tryz.ntmps19
  go_wp2_with fail
  refine (C1.out _).mono ?_
  rintro e w1 ⟨rfl, x1⟩
  have B4 := (Blk.new w 50 #[.int .i64 0, .int .i64 0, .int .i64 0]).ext x1
  have i1 : IsExt w w1 := ⟨(is_ext w _).trans x1⟩
  clear x1 C1
  go_wp2_with fail
  refine (CP.out w1).mono ?_
  rintro e w2 ⟨rfl, x2⟩
  replace B4 := B4.ext x2
  have i2 : IsExt w w2 := ⟨i1.out.trans x2⟩
  clear x2 i1 CP
  go_wp2_with fail
  refine (CM.out w2).mono ?_
  rintro e w3 ⟨rfl, x3⟩
  replace B4 := B4.ext x3
  have i3 : IsExt w w3 := ⟨i2.out.trans x3⟩
  clear x3 i2 CM
  go_wp2_with fail
  refine (CC.out w3).mono ?_
  rintro e w4 ⟨rfl, x4⟩
  replace B4 := B4.ext x4
  have i4 : IsExt w w4 := ⟨i3.out.trans x4⟩
  clear x4 i3 CC
  go_wp2_with fail
  refine (CT.out w4).mono ?_
  rintro e w5 ⟨rfl, x5⟩
  replace B4 := B4.ext x5
  have i5 : IsExt w w5 := ⟨i4.out.trans x5⟩
  clear x5 i4 CT
  have FLD : ∀ W, Sem.run Tryz.prog (Instr.field 62 (.agg #[.int .i64 tc, .int .i64 tf, .int .i64 th, .bool tn, .slice none 0 0, .string B]) 5) W = .ok (.string B) W := fun W => by kernel_rfl
  go_wp2_with fail
  refine (CG.out w5).mono ?_
  rintro e w6 ⟨rfl, x6⟩
  replace B4 := B4.ext x6
  have i6 : IsExt w w6 := ⟨i5.out.trans x6⟩
  have hlt6 := B4.lt
  have h46 : w.heap.size ≤ w6.heap.size := i6.out.below.size
  clear x6 i5 CG
  go_upto_region 8 with (fail)
  refine wp_name (fun w7 hW => ?_)
  have x7 : Ext w6 w7 := by rw [hW]; exact is_ext _ _
  have B8 : Blk w7 w6.heap.size 50 #[.int .i64 0, .int .i64 0, .int .i64 0] := by rw [hW]; exact Blk.new _ _ _
  replace B4 := B4.ext x7
  have X7 := Lib.hid (i6.out.trans x7)
  obtain ⟨p1, p2, p3⟩ := B4.rules
  obtain ⟨q1, q2, q3⟩ := B8.rules
  have hne : w.heap.size ≠ w6.heap.size := by omega
  clear B4 B8 hW x7 i6
  go_wp2_with fail
  refine bodyPost_ret (v := .tuple #[.agg #[.int .i64 0, .int .i64 0, .int .i64 0], .bool false]) (by simp [results, Tryz.results19, go_sem, p1]) rfl ⟨rfl, ?_⟩
  exact (((X7.out.setNew (p := ⟨w.heap.size, 0, none⟩) (Nat.le_refl _) _).setNew (p := ⟨w.heap.size, 1, none⟩) (Nat.le_refl _) _).setNew (p := ⟨w.heap.size, 2, none⟩) (Nat.le_refl _) _)
end
end Go.Proofs.YtnhijjcplnomgaaGreat.World
