/-
  AppNil, RefCopyRegs, as one text (a claim has at most 60 files).
-/
import Derived.Test.YtadhkmplhgcgkaaMc08
import Derived.Deep.AppendLies
import Derived.Deep.Upon
import Derived.Deep.DeepCutAuto
namespace Go.Proofs.Ytadhkmplhgcgkaa.World
open Go.RowKit Go.Proofs.Ytadhkmplhgcgkaa.Plain
set_option linter.unusedVariables false
theorem grown_ext0 {w w3 : World} (g : w.grownBy w3 (Value.slice none 0 0).ownBlock) : Ext w w3 :=
  Ext.of_below ⟨g.os, g.tape, g.output, g.size, fun k hk => g.block k hk (by simp [Value.ownBlock])⟩
section
variable {P : Program}
theorem run_append_nil {w : World} (t ty e : TypeId) (i : TypeInfo) (z : Value) (size bytes : Nat) (ht : P.underlying t = some (.slice e)) (hi : P.info? e = some i) (hz : i.zero = some z)
    (hsize : i.size = size) (hby : i.bytes = bytes) (hzs : z.cells.size = size) (hsz : 0 < size) (hb100 : bytes ≤ 100) {A : Option Addr} {n cap : Nat} {c : Nat → Nat → Value}
    (h : Row w (.slice A n cap) n size c) (h1 : ∀ i j, (c i j).oneCell' = true) (hn : n ≤ 1000000) :
    ∃ v' w', (Builtin.append_ #[t, t] ty #[.slice none 0 0, .slice A n cap]).run P w = .ok v' w' ∧ Own w' w.heap.size e v' n size c ∧ Ext w w' := by
  have hnil : n = 0 → Own w w.heap.size e (.slice none 0 0) n size c := fun h0 => by
    subst h0
    exact ⟨by rw [flat_len], .inl ⟨rfl, rfl⟩⟩
  cases A with
  | none =>
    have hn0 : n = 0 := by
      rcases Nat.eq_zero_or_pos n with h0 | h0
      · exact h0
      · obtain ⟨b, off, e, _⟩ := Row.at_ h 0 h0
        cases e
    refine ⟨.slice none 0 0, w, ?_, hnil hn0, Ext.refl _⟩
    subst hn0
    exact run_append_nothing w t t ty e i ht hi none 0 0 (Nat.le_refl _) _ (Src.ofNil _ ht cap)
  | some a =>
    rcases Nat.eq_zero_or_pos n with h0 | h0
    · refine ⟨.slice none 0 0, w, ?_, hnil h0, Ext.refl _⟩
      subst h0
      exact run_append_nothing w t t ty e i ht hi none 0 0 (Nat.le_refl _) _ (Src.ofSlice _ ht a 0 cap [] (by simp) (by intro j u hj; simp at hj) (by intro u hu; cases hu))
    · obtain ⟨b, off, ea, _⟩ := Row.at_ h 0 h0
      injection ea with ea
      subst ea
      have hN := h.news
      obtain ⟨g, cap', w', hr, h2, h3, _, _⟩ := run_append_lies (P := P) w t ty w.heap.size e i z size bytes ht hi hz hsize hby hzs hsz (.slice none 0 0) 0 [] (World.ownsRow_nil _ _ _ _)
        ⟨b, off, none⟩ n cap (flat n size c) (flat_len _ _ _) hN (by
          intro u hu
          obtain ⟨q, hq, e⟩ := List.getElem_of_mem hu
          obtain ⟨_, _, rfl⟩ := flat_some (by rw [List.getElem?_eq_getElem hq, e])
          exact h1 _ _) h0 (by unfold maxLen; omega) (by
          have : (0 + n) * bytes ≤ 1000000 * 100 := Nat.mul_le_mul (by omega) hb100
          omega) (Nat.le_refl _) _ rfl
      rw [Nat.zero_add, List.nil_append] at h2
      rw [Nat.zero_add] at hr
      exact ⟨_, w', hr, h2, grown_ext0 h3⟩
theorem wp_append_nil {w : World} {o : Oper} {a : Act} {K : Act → World → Prop} {Q : Exit → Act → World → Prop} (x : Operand) (t : TypeId)
    (ho : o.op = .call { callee := .builtin .append, args := #[.const (.slice none 0 0), x], argTypes := #[t, t] })
    (e : TypeId) (i : TypeInfo) (z : Value) (size bytes : Nat) (ht : P.underlying t = some (.slice e)) (hi : P.info? e = some i) (hz : i.zero = some z)
    (hsize : i.size = size) (hby : i.bytes = bytes) (hzs : z.cells.size = size) (hsz : 0 < size) (hb100 : bytes ≤ 100) {A : Option Addr} {n cap : Nat} {c : Nat → Nat → Value}
    (hx : a.eval x = .slice A n cap) (h : Row w (.slice A n cap) n size c) (h1 : ∀ i j, (c i j).oneCell' = true) (hn : n ≤ 1000000)
    (hk : ∀ v' w', Own w' w.heap.size e v' n size c → Ext w w' → K (a.put o.dst v') w') : o.wp P a w K Q := by
  obtain ⟨v', w', hr, h2, h3⟩ := run_append_nil (P := P) t o.type e i z size bytes ht hi hz hsize hby hzs hsz hb100 h h1 hn
  have hs : a.eval (.const (.slice none 0 0)) = .slice none 0 0 := rfl
  unfold Oper.wp execOp
  simp only [ho, resolve, invoke, builtin, Sem.run_bind, Sem.run_pure, Result.andThen_ok, List.map_toArray, List.map_cons, List.map_nil, hs, hx, hr]
  exact hk v' w' h2 h3
theorem wpList_append_nil {w : World} {ops : Array Oper} {rest : List Oper} {o : Oper} {a : Act} {Q : Exit → Act → World → Prop} (hgd : o.guard = none) (x : Operand) (t : TypeId)
    (ho : o.op = .call { callee := .builtin .append, args := #[.const (.slice none 0 0), x], argTypes := #[t, t] })
    (e : TypeId) (i : TypeInfo) (z : Value) (size bytes : Nat) (ht : P.underlying t = some (.slice e)) (hi : P.info? e = some i) (hz : i.zero = some z)
    (hsize : i.size = size) (hby : i.bytes = bytes) (hzs : z.cells.size = size) (hsz : 0 < size) (hb100 : bytes ≤ 100) {A : Option Addr} {n cap : Nat} {c : Nat → Nat → Value}
    (hx : a.eval x = .slice A n cap) (h : Row w (.slice A n cap) n size c) (h1 : ∀ i j, (c i j).oneCell' = true) (hn : n ≤ 1000000)
    (hk : ∀ v' w', Own w' w.heap.size e v' n size c → Ext w w' → wpList P ops Q rest (a.put o.dst v') w') : wpList P ops Q (o :: rest) a w :=
  wpList_plain hgd fun _ hK => wp_append_nil x t ho e i z size bytes ht hi hz hsize hby hzs hsz hb100 hx h h1 hn fun v' w' h2 h3 => hK _ _ (hk v' w' h2 h3)
end
end Go.Proofs.Ytadhkmplhgcgkaa.World
namespace Go.Proofs.Ytadhkmplhgcgkaa.World
open Go.RowKit Go.Proofs.Ytadhkmplhgcgkaa.Plain
set_option linter.unusedVariables false
attribute [local go_sem ↓] Go.wp_at_zero Go.wp_at_succ
theorem infoI' : (Try.prog.info? 3).map (fun i => (i.zero, i.size, i.bytes)) = some (some (.int .i64 0), 1, 8) := by kernel_rfl
theorem infoW' : (Try.prog.info? 75).map (fun i => (i.zero, i.size, i.bytes)) = some (some (.agg #[.int .i64 0, .int .i64 0]), 2, 16) := by kernel_rfl
theorem infoS' : (Try.prog.info? 9).map (fun i => (i.zero, i.size, i.bytes)) = some (some (.string ⟨#[]⟩), 1, 16) := by kernel_rfl
def zeroR : Array Value := #[.int .i64 0, .int .i64 0, .slice none 0 0, .slice none 0 0, .slice none 0 0, .string ⟨#[]⟩, .string ⟨#[]⟩, .int .i64 0, .int .i64 0, .slice none 0 0]
theorem cells10 (x0 x1 x2 x3 x4 x5 x6 x7 x8 x9 : Value) : (((((((((zeroR.setIfInBounds 0 x0).setIfInBounds 1 x1).setIfInBounds 2 x2).setIfInBounds 3 x3).setIfInBounds 4 x4).setIfInBounds 5 x5).setIfInBounds 6 x6).setIfInBounds 7 x7).setIfInBounds 8 x8).setIfInBounds 9 x9 = #[x0, x1, x2, x3, x4, x5, x6, x7, x8, x9] := by simp [zeroR]
theorem far10 {w : World} {g q : Nat} {T : TypeId} {cs : Array Value} (h : Blk w g T cs) (hn : g ≠ q) (x0 x1 x2 x3 x4 x5 x6 x7 x8 x9 : Value) :
    Blk ((((((((((w.setCell ⟨q, 0, none⟩ x0).setCell ⟨q, 1, none⟩ x1).setCell ⟨q, 2, none⟩ x2).setCell ⟨q, 3, none⟩ x3).setCell ⟨q, 4, none⟩ x4).setCell ⟨q, 5, none⟩ x5).setCell ⟨q, 6, none⟩ x6).setCell ⟨q, 7, none⟩ x7).setCell ⟨q, 8, none⟩ x8).setCell ⟨q, 9, none⟩ x9) g T cs :=
  (((((((((h.far (p := ⟨q, 0, none⟩) hn _).far (p := ⟨q, 1, none⟩) hn _).far (p := ⟨q, 2, none⟩) hn _).far (p := ⟨q, 3, none⟩) hn _).far (p := ⟨q, 4, none⟩) hn _).far (p := ⟨q, 5, none⟩) hn _).far (p := ⟨q, 6, none⟩) hn _).far (p := ⟨q, 7, none⟩) hn _).far (p := ⟨q, 8, none⟩) hn _).far (p := ⟨q, 9, none⟩) hn _
theorem ext10 {a w : World} {q : Nat} (h : Ext a w) (hn : a.heap.size ≤ q) (x0 x1 x2 x3 x4 x5 x6 x7 x8 x9 : Value) :
    Ext a ((((((((((w.setCell ⟨q, 0, none⟩ x0).setCell ⟨q, 1, none⟩ x1).setCell ⟨q, 2, none⟩ x2).setCell ⟨q, 3, none⟩ x3).setCell ⟨q, 4, none⟩ x4).setCell ⟨q, 5, none⟩ x5).setCell ⟨q, 6, none⟩ x6).setCell ⟨q, 7, none⟩ x7).setCell ⟨q, 8, none⟩ x8).setCell ⟨q, 9, none⟩ x9) :=
  (((((((((h.setNew (p := ⟨q, 0, none⟩) hn _).setNew (p := ⟨q, 1, none⟩) hn _).setNew (p := ⟨q, 2, none⟩) hn _).setNew (p := ⟨q, 3, none⟩) hn _).setNew (p := ⟨q, 4, none⟩) hn _).setNew (p := ⟨q, 5, none⟩) hn _).setNew (p := ⟨q, 6, none⟩) hn _).setNew (p := ⟨q, 7, none⟩) hn _).setNew (p := ⟨q, 8, none⟩) hn _).setNew (p := ⟨q, 9, none⟩) hn _
theorem set10 {w : World} {g : Nat} {T : TypeId} (h : Blk w g T zeroR) (x0 x1 x2 x3 x4 x5 x6 x7 x8 x9 : Value) :
    Blk ((((((((((w.setCell ⟨g, 0, none⟩ x0).setCell ⟨g, 1, none⟩ x1).setCell ⟨g, 2, none⟩ x2).setCell ⟨g, 3, none⟩ x3).setCell ⟨g, 4, none⟩ x4).setCell ⟨g, 5, none⟩ x5).setCell ⟨g, 6, none⟩ x6).setCell ⟨g, 7, none⟩ x7).setCell ⟨g, 8, none⟩ x8).setCell ⟨g, 9, none⟩ x9) g T #[x0, x1, x2, x3, x4, x5, x6, x7, x8, x9] := by
  have := (((((((((h.set 0 x0).set 1 x1).set 2 x2).set 3 x3).set 4 x4).set 5 x5).set 6 x6).set 7 x7).set 8 x8).set 9 x9
  rw [cells10] at this
  exact this
theorem Own.r10 {w : World} {b rb : Nat} {e T : TypeId} {v : Value} {n sz : Nat} {c : Nat → Nat → Value} {cs : Array Value} (h : Own w b e v n sz c) (hb : Blk w rb T cs) (hne : e ≠ T) (x0 x1 x2 x3 x4 x5 x6 x7 x8 x9 : Value) :
    Own ((((((((((w.setCell ⟨rb, 0, none⟩ x0).setCell ⟨rb, 1, none⟩ x1).setCell ⟨rb, 2, none⟩ x2).setCell ⟨rb, 3, none⟩ x3).setCell ⟨rb, 4, none⟩ x4).setCell ⟨rb, 5, none⟩ x5).setCell ⟨rb, 6, none⟩ x6).setCell ⟨rb, 7, none⟩ x7).setCell ⟨rb, 8, none⟩ x8).setCell ⟨rb, 9, none⟩ x9) b e v n sz c := by
  have K := (((((((((((Keep.refl (· = rb) w).setCell (p := ⟨rb, 0, none⟩) rfl x0).setCell (p := ⟨rb, 1, none⟩) rfl x1).setCell (p := ⟨rb, 2, none⟩) rfl x2).setCell (p := ⟨rb, 3, none⟩) rfl x3).setCell (p := ⟨rb, 4, none⟩) rfl x4).setCell (p := ⟨rb, 5, none⟩) rfl x5).setCell (p := ⟨rb, 6, none⟩) rfl x6).setCell (p := ⟨rb, 7, none⟩) rfl x7).setCell (p := ⟨rb, 8, none⟩) rfl x8).setCell (p := ⟨rb, 9, none⟩) rfl x9)
  exact h.keep K hb hne
section
variable {w : World}
set_option maxRecDepth 100000 in
set_option maxHeartbeats 4000000 in
theorem rcopyRegs {R : PR} {re wa du sn : Value} (h1 : Row w re R.ready.length 1 (cI R.ready)) (h2 : Row w wa R.wait.length 2 (cWs R.wait)) (h3 : Row w du R.due.length 1 (cI R.due)) (h4 : Row w sn R.snaps.length 1 (cS R.snaps)) (m1 : R.ready.length ≤ 1000000) (m2 : R.wait.length ≤ 1000000) (m3 : R.due.length ≤ 1000000) (m4 : R.snaps.length ≤ 1000000) :
    Calls Try.prog 85 #[.agg (cellsR R re wa du sn)] w fun e w' => (∃ re' wa' du' sn', e = .returned (.agg (cellsR R re' wa' du' sn')) ∧ RegsNew w' w.heap.size R re' wa' du' sn') ∧ Ext w w' := by
  obtain ⟨A1, c1, rfl, l1, l1'⟩ := h1.form
  obtain ⟨A2, c2, rfl, l2, l2'⟩ := h2.form
  obtain ⟨A3, c3, rfl, l3, l3'⟩ := h3.form
  obtain ⟨A4, c4, rfl, l4, l4'⟩ := h4.form
  obtain ⟨iI, hI, hI0, hI1, hI2⟩ := info_parts infoI'
  obtain ⟨iW, hW, hW0, hW1, hW2⟩ := info_parts infoW'
  obtain ⟨iS, hS, hS0, hS1, hS2⟩ := info_parts infoS'
  unfold cellsR
  go_enter Try.func85, Try.ntmps85
  go_upto_region 2 with (fail)
  refine wp_name (fun w1 hw => ?_)
  have B0 := (Blk.new w 29 #[.int .i64 R.proc, .int .i64 R.frame, .slice A1 R.ready.length c1, .slice A2 R.wait.length c2, .slice A3 R.due.length c3, .string R.out, .string R.inp, .int .i64 R.how, .int .i64 R.exit, .slice A4 R.snaps.length c4])
  have P0 : Blk ((w.alloc (.cells #[.int .i64 R.proc, .int .i64 R.frame, .slice A1 R.ready.length c1, .slice A2 R.wait.length c2, .slice A3 R.due.length c3, .string R.out, .string R.inp, .int .i64 R.how, .int .i64 R.exit, .slice A4 R.snaps.length c4] 29)).alloc (.cells zeroR 29)) (w.heap.size + 1) 29 zeroR := by have := Blk.new (w.alloc (.cells #[.int .i64 R.proc, .int .i64 R.frame, .slice A1 R.ready.length c1, .slice A2 R.wait.length c2, .slice A3 R.due.length c3, .string R.out, .string R.inp, .int .i64 R.how, .int .i64 R.exit, .slice A4 R.snaps.length c4] 29)) 29 zeroR; rw [World.size_alloc] at this; exact this
  have Y0 := ((Ext.refl w).alloc (.cells #[.int .i64 R.proc, .int .i64 R.frame, .slice A1 R.ready.length c1, .slice A2 R.wait.length c2, .slice A3 R.due.length c3, .string R.out, .string R.inp, .int .i64 R.how, .int .i64 R.exit, .slice A4 R.snaps.length c4] 29)).alloc (.cells zeroR 29)
  have Z0 : Blk (((w.alloc (.cells #[.int .i64 R.proc, .int .i64 R.frame, .slice A1 R.ready.length c1, .slice A2 R.wait.length c2, .slice A3 R.due.length c3, .string R.out, .string R.inp, .int .i64 R.how, .int .i64 R.exit, .slice A4 R.snaps.length c4] 29)).alloc (.cells zeroR 29)).alloc (.cells #[.int .i64 R.proc, .int .i64 R.frame, .slice A1 R.ready.length c1, .slice A2 R.wait.length c2, .slice A3 R.due.length c3, .string R.out, .string R.inp, .int .i64 R.how, .int .i64 R.exit, .slice A4 R.snaps.length c4] 29)) (w.heap.size + 1 + 1) 29 #[.int .i64 R.proc, .int .i64 R.frame, .slice A1 R.ready.length c1, .slice A2 R.wait.length c2, .slice A3 R.due.length c3, .string R.out, .string R.inp, .int .i64 R.how, .int .i64 R.exit, .slice A4 R.snaps.length c4] := by have := Blk.new ((w.alloc (.cells #[.int .i64 R.proc, .int .i64 R.frame, .slice A1 R.ready.length c1, .slice A2 R.wait.length c2, .slice A3 R.due.length c3, .string R.out, .string R.inp, .int .i64 R.how, .int .i64 R.exit, .slice A4 R.snaps.length c4] 29)).alloc (.cells zeroR 29)) 29 #[.int .i64 R.proc, .int .i64 R.frame, .slice A1 R.ready.length c1, .slice A2 R.wait.length c2, .slice A3 R.due.length c3, .string R.out, .string R.inp, .int .i64 R.how, .int .i64 R.exit, .slice A4 R.snaps.length c4]; rw [World.size_alloc, World.size_alloc] at this; exact this
  have b0 : Blk w1 w.heap.size 29 #[.int .i64 R.proc, .int .i64 R.frame, .slice A1 R.ready.length c1, .slice A2 R.wait.length c2, .slice A3 R.due.length c3, .string R.out, .string R.inp, .int .i64 R.how, .int .i64 R.exit, .slice A4 R.snaps.length c4] := by
    rw [hw]; exact (B0.alloc _).alloc _
  have bp : Blk w1 (w.heap.size + 1) 29 zeroR := by
    rw [hw]; exact P0.alloc _
  have b3 : Blk w1 (w.heap.size + 1 + 1) 29 #[.int .i64 R.proc, .int .i64 R.frame, .slice A1 R.ready.length c1, .slice A2 R.wait.length c2, .slice A3 R.due.length c3, .string R.out, .string R.inp, .int .i64 R.how, .int .i64 R.exit, .slice A4 R.snaps.length c4] := by
    rw [hw]; exact Z0
  have x0 : Ext w w1 := by
    rw [hw]; exact Y0.alloc _
  clear hw B0 P0 Y0 Z0
  have hq : w.heap.size ≤ w.heap.size ∧ w.heap.size ≤ w.heap.size + 1 ∧ w.heap.size ≤ w.heap.size + 1 + 1 ∧ w.heap.size ≠ w.heap.size + 1 + 1 ∧ w.heap.size + 1 ≠ w.heap.size + 1 + 1 ∧ w.heap.size + 1 + 1 ≠ w.heap.size + 1 := by omega
  generalize hqb : w.heap.size = qb at *
  generalize qb + 1 = qp at *
  generalize qp + 1 = q3 at *
  obtain ⟨hq0, hq1, hq2, n1, n2, n3⟩ := hq
  have BX := Lib.hid b0
  have BP := Lib.hid bp
  have B1 := Lib.hid b3
  have X1 := Lib.hid x0
  have QB := Lib.hid hqb
  have H1 := Lib.hid h1
  have H2 := Lib.hid h2
  have H3 := Lib.hid h3
  have H4 := Lib.hid h4
  clear b0 bp b3 x0 h1 h2 h3 h4 hqb
  obtain ⟨r1, r2, r3⟩ := BX.out.rules
  obtain ⟨s1, s2, s3⟩ := B1.out.rules
  go_upto_region 3 with (at_builtin; refine wpList_append_nil rfl (.tmp 6) 22 rfl 3 iI (.int .i64 0) 1 8 Try.underlying22 hI hI0 hI1 hI2 rfl (by decide) (by decide) rfl (H1.out.ext X1.out) (fun i j => rfl) m1 ?_; intro v' u2 o2 x2; obtain ⟨B2a, d2, e2⟩ := Own.form o2; subst e2; clear r1 r2 r3 s1 s2 s3; obtain ⟨r1, r2, r3⟩ := (BX.out.ext x2).rules; obtain ⟨s1, s2, s3⟩ := (B1.out.ext x2).rules; have O2 := Lib.hid o2; have Y2 := Lib.hid x2; clear o2 x2)
  refine wp_name (fun w2 hw => ?_)
  have BX2 : Blk w2 qb 29 #[.int .i64 R.proc, .int .i64 R.frame, .slice A1 R.ready.length c1, .slice A2 R.wait.length c2, .slice A3 R.due.length c3, .string R.out, .string R.inp, .int .i64 R.how, .int .i64 R.exit, .slice A4 R.snaps.length c4] := by rw [hw]; exact (BX.out.ext Y2.out).far (p := ⟨q3, 2, none⟩) n1 _
  have BP2 : Blk w2 qp 29 zeroR := by rw [hw]; exact (BP.out.ext Y2.out).far (p := ⟨q3, 2, none⟩) n2 _
  have b2 : Blk w2 q3 29 #[.int .i64 R.proc, .int .i64 R.frame, .slice B2a R.ready.length d2, .slice A2 R.wait.length c2, .slice A3 R.due.length c3, .string R.out, .string R.inp, .int .i64 R.how, .int .i64 R.exit, .slice A4 R.snaps.length c4] := by rw [hw]; have := (B1.out.ext Y2.out).set 2 (.slice B2a R.ready.length d2); simpa using this
  have x2 : Ext w w2 := by rw [hw]; exact (X1.out.trans Y2.out).setNew (p := ⟨q3, 2, none⟩) (by rw [QB.out]; exact hq2) _
  have O2_2 : Hid (Own w2 qb 3 (.slice B2a R.ready.length d2) R.ready.length 1 (cI R.ready)) := Lib.hid (by rw [hw]; exact Own.set (Own.base O2.out (by rw [← QB.out]; exact X1.out.below.size)) (B1.out.ext Y2.out) (by decide))
  clear hw r1 r2 r3 s1 s2 s3 BX BP
  have BX := Lib.hid BX2
  have BP := Lib.hid BP2
  have B2 := Lib.hid b2
  have X2 := Lib.hid x2
  clear BX2 BP2 b2 x2
  obtain ⟨r1, r2, r3⟩ := BX.out.rules
  obtain ⟨s1, s2, s3⟩ := B2.out.rules
  go_upto_region 4 with (at_builtin; refine wpList_append_nil rfl (.tmp 10) 26 rfl 75 iW (.agg #[.int .i64 0, .int .i64 0]) 2 16 Try.underlying26 hW hW0 hW1 hW2 rfl (by decide) (by decide) rfl (H2.out.ext X2.out) (fun i j => by unfold cWs cW; split <;> rfl) m2 ?_; intro v' u3 o2 x2; obtain ⟨B3a, d3, e2⟩ := Own.form o2; subst e2; clear r1 r2 r3 s1 s2 s3; obtain ⟨r1, r2, r3⟩ := (BX.out.ext x2).rules; obtain ⟨s1, s2, s3⟩ := (B2.out.ext x2).rules; have O3 := Lib.hid o2; have Y3 := Lib.hid x2; clear o2 x2)
  refine wp_name (fun w3 hw => ?_)
  have BX3 : Blk w3 qb 29 #[.int .i64 R.proc, .int .i64 R.frame, .slice A1 R.ready.length c1, .slice A2 R.wait.length c2, .slice A3 R.due.length c3, .string R.out, .string R.inp, .int .i64 R.how, .int .i64 R.exit, .slice A4 R.snaps.length c4] := by rw [hw]; exact (BX.out.ext Y3.out).far (p := ⟨q3, 3, none⟩) n1 _
  have BP3 : Blk w3 qp 29 zeroR := by rw [hw]; exact (BP.out.ext Y3.out).far (p := ⟨q3, 3, none⟩) n2 _
  have b3 : Blk w3 q3 29 #[.int .i64 R.proc, .int .i64 R.frame, .slice B2a R.ready.length d2, .slice B3a R.wait.length d3, .slice A3 R.due.length c3, .string R.out, .string R.inp, .int .i64 R.how, .int .i64 R.exit, .slice A4 R.snaps.length c4] := by rw [hw]; have := (B2.out.ext Y3.out).set 3 (.slice B3a R.wait.length d3); simpa using this
  have x3 : Ext w w3 := by rw [hw]; exact (X2.out.trans Y3.out).setNew (p := ⟨q3, 3, none⟩) (by rw [QB.out]; exact hq2) _
  have O2_3 : Hid (Own w3 qb 3 (.slice B2a R.ready.length d2) R.ready.length 1 (cI R.ready)) := Lib.hid (by rw [hw]; exact Own.set (O2_2.out.ext Y3.out) (B2.out.ext Y3.out) (by decide))
  have O3_3 : Hid (Own w3 qb 75 (.slice B3a R.wait.length d3) R.wait.length 2 (cWs R.wait)) := Lib.hid (by rw [hw]; exact Own.set (Own.base O3.out (by rw [← QB.out]; exact X2.out.below.size)) (B2.out.ext Y3.out) (by decide))
  clear hw r1 r2 r3 s1 s2 s3 BX BP
  have BX := Lib.hid BX3
  have BP := Lib.hid BP3
  have B3 := Lib.hid b3
  have X3 := Lib.hid x3
  clear BX3 BP3 b3 x3
  obtain ⟨r1, r2, r3⟩ := BX.out.rules
  obtain ⟨s1, s2, s3⟩ := B3.out.rules
  go_upto_region 5 with (at_builtin; refine wpList_append_nil rfl (.tmp 14) 22 rfl 3 iI (.int .i64 0) 1 8 Try.underlying22 hI hI0 hI1 hI2 rfl (by decide) (by decide) rfl (H3.out.ext X3.out) (fun i j => rfl) m3 ?_; intro v' u4 o2 x2; obtain ⟨B4a, d4, e2⟩ := Own.form o2; subst e2; clear r1 r2 r3 s1 s2 s3; obtain ⟨r1, r2, r3⟩ := (BX.out.ext x2).rules; obtain ⟨s1, s2, s3⟩ := (B3.out.ext x2).rules; have O4 := Lib.hid o2; have Y4 := Lib.hid x2; clear o2 x2)
  refine wp_name (fun w4 hw => ?_)
  have BX4 : Blk w4 qb 29 #[.int .i64 R.proc, .int .i64 R.frame, .slice A1 R.ready.length c1, .slice A2 R.wait.length c2, .slice A3 R.due.length c3, .string R.out, .string R.inp, .int .i64 R.how, .int .i64 R.exit, .slice A4 R.snaps.length c4] := by rw [hw]; exact (BX.out.ext Y4.out).far (p := ⟨q3, 4, none⟩) n1 _
  have BP4 : Blk w4 qp 29 zeroR := by rw [hw]; exact (BP.out.ext Y4.out).far (p := ⟨q3, 4, none⟩) n2 _
  have b4 : Blk w4 q3 29 #[.int .i64 R.proc, .int .i64 R.frame, .slice B2a R.ready.length d2, .slice B3a R.wait.length d3, .slice B4a R.due.length d4, .string R.out, .string R.inp, .int .i64 R.how, .int .i64 R.exit, .slice A4 R.snaps.length c4] := by rw [hw]; have := (B3.out.ext Y4.out).set 4 (.slice B4a R.due.length d4); simpa using this
  have x4 : Ext w w4 := by rw [hw]; exact (X3.out.trans Y4.out).setNew (p := ⟨q3, 4, none⟩) (by rw [QB.out]; exact hq2) _
  have AP := Lib.hid (Own.apart O4.out (O2_3.out))
  have O2_4 : Hid (Own w4 qb 3 (.slice B2a R.ready.length d2) R.ready.length 1 (cI R.ready)) := Lib.hid (by rw [hw]; exact Own.set (O2_3.out.ext Y4.out) (B3.out.ext Y4.out) (by decide))
  have O3_4 : Hid (Own w4 qb 75 (.slice B3a R.wait.length d3) R.wait.length 2 (cWs R.wait)) := Lib.hid (by rw [hw]; exact Own.set (O3_3.out.ext Y4.out) (B3.out.ext Y4.out) (by decide))
  have O4_4 : Hid (Own w4 qb 3 (.slice B4a R.due.length d4) R.due.length 1 (cI R.due)) := Lib.hid (by rw [hw]; exact Own.set (Own.base O4.out (by rw [← QB.out]; exact X3.out.below.size)) (B3.out.ext Y4.out) (by decide))
  clear hw r1 r2 r3 s1 s2 s3 BX BP
  have BX := Lib.hid BX4
  have BP := Lib.hid BP4
  have B4 := Lib.hid b4
  have X4 := Lib.hid x4
  clear BX4 BP4 b4 x4
  obtain ⟨r1, r2, r3⟩ := BX.out.rules
  obtain ⟨s1, s2, s3⟩ := B4.out.rules
  go_upto_region 6 with (at_builtin; refine wpList_append_nil rfl (.tmp 18) 27 rfl 9 iS (.string ⟨#[]⟩) 1 16 Try.underlying27 hS hS0 hS1 hS2 rfl (by decide) (by decide) rfl (H4.out.ext X4.out) (fun i j => rfl) m4 ?_; intro v' u5 o2 x2; obtain ⟨B5a, d5, e2⟩ := Own.form o2; subst e2; clear r1 r2 r3 s1 s2 s3; obtain ⟨r1, r2, r3⟩ := (BX.out.ext x2).rules; obtain ⟨s1, s2, s3⟩ := (B4.out.ext x2).rules; have O5 := Lib.hid o2; have Y5 := Lib.hid x2; clear o2 x2)
  refine wp_name (fun w5 hw => ?_)
  have BX5 : Blk w5 qb 29 #[.int .i64 R.proc, .int .i64 R.frame, .slice A1 R.ready.length c1, .slice A2 R.wait.length c2, .slice A3 R.due.length c3, .string R.out, .string R.inp, .int .i64 R.how, .int .i64 R.exit, .slice A4 R.snaps.length c4] := by rw [hw]; exact (BX.out.ext Y5.out).far (p := ⟨q3, 9, none⟩) n1 _
  have BP5 : Blk w5 qp 29 zeroR := by rw [hw]; exact (BP.out.ext Y5.out).far (p := ⟨q3, 9, none⟩) n2 _
  have b5 : Blk w5 q3 29 #[.int .i64 R.proc, .int .i64 R.frame, .slice B2a R.ready.length d2, .slice B3a R.wait.length d3, .slice B4a R.due.length d4, .string R.out, .string R.inp, .int .i64 R.how, .int .i64 R.exit, .slice B5a R.snaps.length d5] := by rw [hw]; have := (B4.out.ext Y5.out).set 9 (.slice B5a R.snaps.length d5); simpa using this
  have x5 : Ext w w5 := by rw [hw]; exact (X4.out.trans Y5.out).setNew (p := ⟨q3, 9, none⟩) (by rw [QB.out]; exact hq2) _
  have O2_5 : Hid (Own w5 qb 3 (.slice B2a R.ready.length d2) R.ready.length 1 (cI R.ready)) := Lib.hid (by rw [hw]; exact Own.set (O2_4.out.ext Y5.out) (B4.out.ext Y5.out) (by decide))
  have O3_5 : Hid (Own w5 qb 75 (.slice B3a R.wait.length d3) R.wait.length 2 (cWs R.wait)) := Lib.hid (by rw [hw]; exact Own.set (O3_4.out.ext Y5.out) (B4.out.ext Y5.out) (by decide))
  have O4_5 : Hid (Own w5 qb 3 (.slice B4a R.due.length d4) R.due.length 1 (cI R.due)) := Lib.hid (by rw [hw]; exact Own.set (O4_4.out.ext Y5.out) (B4.out.ext Y5.out) (by decide))
  have O5_5 : Hid (Own w5 qb 9 (.slice B5a R.snaps.length d5) R.snaps.length 1 (cS R.snaps)) := Lib.hid (by rw [hw]; exact Own.set (Own.base O5.out (by rw [← QB.out]; exact X4.out.below.size)) (B4.out.ext Y5.out) (by decide))
  clear hw r1 r2 r3 s1 s2 s3 BX BP
  have BX := Lib.hid BX5
  have BP := Lib.hid BP5
  have B5 := Lib.hid b5
  have X5 := Lib.hid x5
  clear BX5 BP5 b5 x5
  obtain ⟨s1, s2, s3⟩ := B5.out.rules
  obtain ⟨p1, p2, p3⟩ := BP.out.rules
  unfold zeroR at p1
  have hpw : w.heap.size ≤ qp := by rw [QB.out]; exact hq1
  clear BX
  go_wp2_with fail
  refine bodyPost_ret (v := .agg (cellsR R (.slice B2a R.ready.length d2) (.slice B3a R.wait.length d3) (.slice B4a R.due.length d4) (.slice B5a R.snaps.length d5))) (by simp [results, Try.results85, go_sem, p1, cellsR]) rfl ?_
  have XF := ext10 X5.out hpw (.int .i64 R.proc) (.int .i64 R.frame) (.slice B2a R.ready.length d2) (.slice B3a R.wait.length d3) (.slice B4a R.due.length d4) (.string R.out) (.string R.inp) (.int .i64 R.how) (.int .i64 R.exit) (.slice B5a R.snaps.length d5)
  rw [QB.out]
  refine ⟨⟨_, _, _, _, rfl, AP.out.symm, ?_, ?_, ?_, ?_⟩, XF⟩
  · exact O2_5.out.r10 BP.out (by decide) _ _ _ _ _ _ _ _ _ _
  · exact O3_5.out.r10 BP.out (by decide) _ _ _ _ _ _ _ _ _ _
  · exact O4_5.out.r10 BP.out (by decide) _ _ _ _ _ _ _ _ _ _
  · exact O5_5.out.r10 BP.out (by decide) _ _ _ _ _ _ _ _ _ _
end
end Go.Proofs.Ytadhkmplhgcgkaa.World
