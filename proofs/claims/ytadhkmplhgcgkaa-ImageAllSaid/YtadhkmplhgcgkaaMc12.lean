/-
  Reach, Reach2, Reach3, as one text (a claim has at most 60 files).
-/
import Derived.Test.YtadhkmplhgcgkaaMc08
import Derived.Deep.RegionHeld3
import Derived.Deep.DrawnRows
import Derived.Deep.AppendLies
namespace Go.Proofs.Ytadhkmplhgcgkaa.World
open Go.RowKit Go.Proofs.Ytadhkmplhgcgkaa.Plain
set_option linter.unusedVariables false
attribute [local go_sem ↓] Go.wp_at_zero Go.wp_at_succ

def has1 (l : List Int) (x : Int) (j : Nat) : Bool := l.getD j 0 == x
theorem has1_all (l : List Int) (x : Int) : (!allTo (fun j => !has1 l x j) l.length) = l.contains x := by
  rw [Bool.eq_iff_iff, Bool.not_eq_true', ← Bool.not_eq_true, allTo_iff, List.contains_iff_mem]
  constructor
  · intro h
    refine Classical.byContradiction fun hn => h fun i hi => ?_
    unfold has1
    rw [Bool.not_eq_true', beq_eq_false_iff_ne]
    rintro rfl
    apply hn
    rw [List.getD_eq_getElem?_getD, List.getElem?_eq_getElem hi]; exact List.getElem_mem hi
  · intro hm h
    obtain ⟨i, hi, e⟩ := List.getElem_of_mem hm
    have := h i hi
    unfold has1 at this
    rw [List.getD_eq_getElem?_getD, List.getElem?_eq_getElem hi, Bool.not_eq_true', beq_eq_false_iff_ne] at this
    exact this e
section
variable {w : World}
set_option maxRecDepth 100000 in
set_option maxHeartbeats 1000000 in
theorem indexInt {l : List Int} {v : Value} (hv : IntsAt w v l) (x : Int) : Calls Try.prog 125 #[v, .int .i64 x] w (IdxPost w l.length (has1 l x)) := by
  obtain ⟨A, c, rfl, h1, h2⟩ := Row.form hv
  have hv : Row w (.slice A l.length c) l.length 1 (fun i _ => .int .i64 (l.getD i 0)) := hv
  have HR := Lib.hid hv
  have AF := Lib.hid (allTo_false (fun j => !has1 l x j) l.length)
  have AS := Lib.hid (allTo_succ (fun j => !has1 l x j))
  have HE : Hid (∀ j, has1 l x j = (l.getD j 0 == x)) := Lib.hid (fun _ => rfl)
  clear hv
  generalize hn : l.length = n at *
  clear hn
  go_enter Try.func125, Try.ntmps125
  go_wp2
  go_loopw [8] (fun iv wr => ∃ i : Nat, i ≤ n ∧ iv = .int .i64 i ∧ allTo (fun j => !has1 l x j) i = true ∧ w = wr) (fun iv _ => n - (intOf iv).toNat)
  case atStart => exact ⟨0, Nat.zero_le _, rfl, rfl, rfl⟩
  case round =>
    obtain ⟨i, hi, rfl, ha, rfl⟩ := hrel
    have HA := Lib.hid ha
    clear ha
    by_cases hlt : i < n
    · obtain ⟨b, off, rfl, hb, hc⟩ := Row.at_ HR.out i hlt
      have c0 : w.cell? ⟨b, off + i * 1, none⟩ = some (.int .i64 (l.getD i 0)) := hc 0 (by omega)
      rw [Nat.mul_one] at c0
      have iI : (i : Int) < (n : Int) := by omega
      have HEi := HE.out i
      clear hc
      generalize l.getD i 0 = y at *
      cases hp : (y == x) with
      | true =>
        have AN := Lib.hid (AF.out i hlt (by rw [HEi, hp]; rfl))
        have hp' : (x == y) = true := by rw [beq_iff_eq] at hp ⊢; exact hp.symm
        clear hp HEi
        go_wp2
        go_ret
        exact ⟨_, rfl, .inr ⟨AN.out, by omega, by omega⟩, Ext.refl _⟩
      | false =>
        have AN := Lib.hid (AS.out i HA.out (by rw [HEi, hp]; rfl))
        have hp' : (x == y) = false := by rw [beq_eq_false_iff_ne] at hp ⊢; exact fun e => hp e.symm
        clear hp HEi
        go_wp2
        go_roundw
        case rel => exact ⟨i + 1, by omega, by go_num, AN.out, trivial⟩
        case measure => simp [intOf]; omega
    · obtain rfl : i = n := by omega
      go_wp2
      go_ret
      exact ⟨_, rfl, .inl ⟨HA.out, rfl⟩, Ext.refl _⟩
set_option maxRecDepth 100000 in
set_option maxHeartbeats 1000000 in
theorem containsInt {l : List Int} {v : Value} (hv : IntsAt w v l) (x : Int) : Calls Try.prog 121 #[v, .int .i64 x] w fun e w' => e = .returned (.bool (l.contains x)) ∧ Ext w w' := by
  have C := Lib.hid (indexInt hv x)
  have E := has1_all l x
  clear hv
  go_enter Try.func121, Try.ntmps121
  go_wp2_with fail
  refine C.out.mono ?_
  rintro e w2 ⟨r, rfl, hr, x⟩
  have X := Lib.hid x
  have HE := Lib.hid E
  clear E x
  rcases hr with ⟨h1, rfl⟩ | ⟨h1, h2, h3⟩
  · have H1 := Lib.hid h1
    clear h1
    go_wp2_with fail
    go_ret
    exact ⟨ret_bool (by rw [← HE.out, H1.out]; rfl), X.out⟩
  · have H1 := Lib.hid h1
    clear h1 h3
    go_wp2_with fail
    go_ret
    exact ⟨ret_bool (by rw [← HE.out, H1.out]; rfl), X.out⟩
end
end Go.Proofs.Ytadhkmplhgcgkaa.World
namespace Go.Proofs.Ytadhkmplhgcgkaa.World
open Go.RowKit Go.Proofs.Ytadhkmplhgcgkaa.Plain
set_option linter.unusedVariables false
attribute [local go_sem ↓] Go.wp_at_zero Go.wp_at_succ

/-- a slice of numbers of the call's own -/
def OwnI (w : World) (base : Nat) (v : Value) (zs : List Int) : Prop := w.ownsRow base 3 1 v zs.length (zs.map (Value.int .i64))
theorem OwnI.nil (w : World) (base : Nat) : OwnI w base (.slice none 0 0) [] := World.ownsRow_nil _ _ _ _
theorem flat_one (zs : List Int) : flat zs.length 1 (fun i _ => .int .i64 (zs.getD i 0)) = zs.map (Value.int .i64) := by
  refine List.ext_getElem? fun i => ?_
  rcases Nat.lt_or_ge i zs.length with h | h
  · have := flat_at zs.length 1 (fun i _ => Value.int .i64 (zs.getD i 0)) i 0 h (by omega)
    rw [Nat.mul_one, Nat.add_zero] at this
    rw [this, List.getElem?_map, List.getElem?_eq_getElem h, List.getD_eq_getElem?_getD, List.getElem?_eq_getElem h]; rfl
  · rw [List.getElem?_eq_none (by rw [flat_len]; omega), List.getElem?_eq_none (by simpa using h)]
theorem OwnI.own {w : World} {base : Nat} {v : Value} {zs : List Int} (h : OwnI w base v zs) : Own w base 3 v zs.length 1 (fun i _ => .int .i64 (zs.getD i 0)) := by
  unfold Own; rw [flat_one]; exact h
theorem OwnI.ints {w : World} {base : Nat} {v : Value} {zs : List Int} (h : OwnI w base v zs) : IntsAt w v zs := h.own.row
theorem OwnI.ext {w w' : World} {base : Nat} {v : Value} {zs : List Int} (h : OwnI w base v zs) (x : Ext w w') : OwnI w' base v zs := by
  have := h.own.ext x
  unfold Own at this; rw [flat_one] at this; exact this
theorem OwnI.set {w : World} {base b i : Nat} {v u : Value} {zs : List Int} {T : TypeId} {cs : Array Value} (h : OwnI w base v zs) (hb : Blk w b T cs) (hne : 3 ≠ T) : OwnI (w.setCell ⟨b, i, none⟩ u) base v zs := by
  have := h.own.set (i := i) (u := u) hb hne
  unfold Own at this; rw [flat_one] at this; exact this
/-- what `add` makes of a list -/
def add1 (l : List Int) (x : Int) : List Int := if x ≠ 0 ∧ l.contains x = false then l ++ [x] else l
theorem add1_zero (l : List Int) : add1 l 0 = l := by unfold add1; rw [if_neg]; simp
theorem add1_has {l : List Int} {x : Int} (h : l.contains x = true) : add1 l x = l := by unfold add1; rw [if_neg]; rw [h]; simp
theorem add1_new {l : List Int} {x : Int} (h0 : x ≠ 0) (h : l.contains x = false) : add1 l x = l ++ [x] := by unfold add1; rw [if_pos ⟨h0, h⟩]
theorem infoN : (Try.prog.info? 3).map (fun i => (i.zero, i.size, i.bytes)) = some (some (.int .i64 0), 1, 8) := by kernel_rfl
def AddPost (w : World) (b base : Nat) (v : Value) (l : List Int) (w' : World) : Prop :=
  ∃ v', Blk w' b 22 #[v'] ∧ OwnI w' base v' l ∧ Keep (fun k => k = b ∨ v.ownBlock = some k) w w'
set_option maxRecDepth 100000 in
set_option maxHeartbeats 2000000 in
theorem listAdd {w : World} {b base : Nat} {v : Value} {l : List Int} (x : Int) (hb : Blk w b 22 #[v]) (h : OwnI w base v l) (hbase : base ≤ w.heap.size) (hlen : l.length < 1000000) :
    Calls Try.prog 120 #[.int .i64 x, .pointer (some ⟨b, 0, none⟩)] w fun e w' => e = .returned (.tuple #[]) ∧ AddPost w b base v (add1 l x) w' := by
  obtain ⟨A, c, rfl⟩ := h.own.form
  obtain ⟨i0, hi, hz0, hz1, hz2⟩ := info_parts infoN
  have far : ∀ k, (Value.slice A l.length c).ownBlock = some k → some b ≠ (Value.slice A l.length c).ownBlock := fun k hk e => by
    obtain ⟨_, cs, hc⟩ := h.own.block (e ▸ rfl : (Value.slice A l.length c).ownBlock = some b)
    exact hb.ne hc (by decide) rfl
  have FAR : Hid (some b ≠ (Value.slice A l.length c).ownBlock) := Lib.hid (fun e => far b e.symm e)
  clear far
  have HB := Lib.hid hb
  have HO := Lib.hid h
  have C : Hid (∀ W, Ext w W → Calls Try.prog 121 #[.slice A l.length c, .int .i64 x] W fun e w' => e = .returned (.bool (l.contains x)) ∧ Ext W w') := Lib.hid fun W e => containsInt (h.ints.ext e) x
  have AD := Lib.hid (add1_zero l)
  have AH := Lib.hid (@add1_has l x)
  have AN := Lib.hid (@add1_new l x)
  have hc0 : w.cell? ⟨b, 0, none⟩ = some (.slice A l.length c) := hb.cell 0
  have hf0 : w.frozen? ⟨b, 0, none⟩ = false := hb.frozen 0
  clear h hb
  generalize hn : l.length = n at *
  go_enter Try.func120, Try.ntmps120
  by_cases hx : x = 0
  · subst hx
    go_wp2
    go_end0
    rw [AD.out]
    exact ⟨rfl, _, HB.out, HO.out, Keep.refl _ _⟩
  · have hx' : (x == 0) = false := beq_eq_false_iff_ne.2 hx
    have AN' := Lib.hid (AN.out hx)
    clear AN
    go_wp2_with fail
    refine (C.out _ (Ext.refl _)).mono ?_
    rintro e w2 ⟨rfl, x2⟩
    have X2 := Lib.hid x2
    have c2 : w2.cell? ⟨b, 0, none⟩ = some (.slice A n c) := (HB.out.ext x2).cell 0
    have f2 : w2.frozen? ⟨b, 0, none⟩ = false := (HB.out.ext x2).frozen 0
    clear x2 hc0 hf0
    cases hc : l.contains x with
    | true =>
      have AH' := Lib.hid (AH.out hc)
      clear AN' AH hc
      go_wp2
      go_end0
      rw [AH'.out]
      exact ⟨rfl, _, HB.out.ext X2.out, HO.out.ext X2.out, Keep.of_ext X2.out _⟩
    | false =>
      have AN'' := Lib.hid (AN'.out hc)
      clear AN' AH hc
      have o2 : w2.ownsRow base 3 1 (.slice A n c) n (l.map (Value.int .i64)) := by have := HO.out.ext X2.out; unfold OwnI at this; rw [hn] at this; exact this
      have O2 := Lib.hid (o2.alloc (.cells #[.int .i64 x] 3))
      have s2 := X2.out.below.size
      have lt2 : b < w2.heap.size := (HB.out.ext X2.out).lt
      clear o2
      go_wp2_with (at_builtin; refine wpList_append_lies _ rfl _ _ _ rfl base 3 i0 (.int .i64 0) 1 8 Try.underlying22 hi hz0 hz1 hz2 rfl (by decide) _ _ _ (by rfl) O2.out ⟨w2.heap.size, 0, none⟩ 1 1 [.int .i64 x] (by rfl) (by rfl) (World.news_of_block (heap_alloc_new w2 _)) (by simp [Value.oneCell']) (by omega) (by unfold maxLen; omega) (by omega) (by simp; omega) (w2.heap.size + 1) (by simp) ?_; intro gg cc w3 o3 g3 hat hlt3; have B3 : Hid (Blk w3 b 22 #[.slice A n c]) := Lib.hid ((g3.block b (by simp; omega) FAR.out).trans ((HB.out.ext X2.out).alloc _)); have c3 := B3.out.cell 0; have f3 := B3.out.frozen 0; replace c3 : w3.cell? ⟨b, 0, none⟩ = some (.slice A n c) := c3; have O3 := Lib.hid o3; have G3 := Lib.hid g3; clear o3 g3 hat)
      go_end0
      rw [AN''.out]
      have K3 : Keep (fun k => k = b ∨ (Value.slice A n c).ownBlock = some k) w w3 := ((Keep.of_ext X2.out _).alloc _).trans ⟨G3.out.os, G3.out.tape, G3.out.output, G3.out.size, fun k hk hn => G3.out.block k hk (fun e => hn (.inr e.symm))⟩
      refine ⟨rfl, .slice (some ⟨gg, 0, none⟩) (n + 1) cc, B3.out.set 0 _, ?_, K3.setCell (.inl rfl) _⟩
      refine OwnI.set ?_ B3.out (by decide)
      have := O3.out
      unfold OwnI
      rw [List.length_append, List.map_append, hn]
      exact this
end Go.Proofs.Ytadhkmplhgcgkaa.World
namespace Go.Proofs.Ytadhkmplhgcgkaa.World
open Go.RowKit Go.Proofs.Ytadhkmplhgcgkaa.Plain
set_option linter.unusedVariables false
attribute [local go_sem ↓] Go.wp_at_zero Go.wp_at_succ

theorem add1_len (l : List Int) (x : Int) : (add1 l x).length ≤ l.length + 1 := by
  unfold add1; split
  · simp
  · omega
/-- the list under way: box and closure's variable known whole -/
structure LS (w wr : World) (cs : Array Value) (v : Value) (l : List Int) : Prop where
  x : Ext w wr
  b1 : Blk wr w.heap.size 29 cs
  b3 : Blk wr (w.heap.size + 1) 22 #[v]
  own : OwnI wr w.heap.size v l
theorem LS.step {w wr w' : World} {cs : Array Value} {v : Value} {l l' : List Int} (h : LS w wr cs v l) (a : AddPost wr (w.heap.size + 1) w.heap.size v l' w') : ∃ v', LS w w' cs v' l' := by
  obtain ⟨v', b, o, k⟩ := a
  refine ⟨v', ⟨Ext.of_below (Keep.below h.x.below k h.x.below.size (fun i hi hs => ?_)), h.b1.keep k (fun hs => ?_), b, o⟩⟩
  · rcases hs with hs | hs
    · omega
    · have := (h.own.own.block hs).1; omega
  · rcases hs with hs | hs
    · omega
    · obtain ⟨_, c, hc⟩ := h.own.own.block hs
      exact h.b1.ne hc (by decide) rfl
theorem LS.ext {w wr w' : World} {cs : Array Value} {v : Value} {l : List Int} (h : LS w wr cs v l) (x : Ext wr w') : LS w w' cs v l := ⟨h.x.trans x, h.b1.ext x, h.b3.ext x, h.own.ext x⟩
theorem LS.start (w : World) (cs : Array Value) : LS w ((w.alloc (.cells cs 29)).alloc (.cells #[.slice none 0 0] 22)) cs (.slice none 0 0) [] := by
  refine ⟨((Ext.refl w).alloc _).alloc _, (Blk.new w _ _).alloc _, ?_, OwnI.nil _ _⟩
  have h := Blk.new (w.alloc (.cells cs 29)) 22 #[.slice none 0 0]
  have e : (w.alloc (.cells cs 29)).heap.size = w.heap.size + 1 := Array.size_push ..
  rw [e] at h; exact h
/-- what List tells -/
def listOf (R : PR) : List Int := R.due.foldl add1 (R.wait.foldl (fun l p => add1 (add1 l p.1) p.2) (R.ready.foldl add1 (add1 (add1 [] R.proc) R.frame)))
theorem fold_take {α β : Type} (f : β → α → β) (l0 : β) (l : List α) (d : α) (i : Nat) (hi : i < l.length) : (l.take (i + 1)).foldl f l0 = f ((l.take i).foldl f l0) (l.getD i d) := by
  rw [List.take_succ_eq_append_getElem hi, List.foldl_append, List.getD_eq_getElem?_getD, List.getElem?_eq_getElem hi]; rfl
theorem fold_len (l : List Int) : ∀ l0 : List Int, (l.foldl add1 l0).length ≤ l0.length + l.length := by
  induction l with
  | nil => intro l0; simp
  | cons a l ih => intro l0; have := ih (add1 l0 a); have := add1_len l0 a; simp only [List.foldl_cons, List.length_cons]; omega
theorem fold_len2 (l : List (Int × Int)) : ∀ l0 : List Int, (l.foldl (fun l p => add1 (add1 l p.1) p.2) l0).length ≤ l0.length + 2 * l.length := by
  induction l with
  | nil => intro l0; simp
  | cons a l ih => intro l0; have := ih (add1 (add1 l0 a.1) a.2); have := add1_len l0 a.1; have := add1_len (add1 l0 a.1) a.2; simp only [List.foldl_cons, List.length_cons]; omega
def AddC (w : World) : Prop := ∀ (W : World) (cs : Array Value) (v : Value) (l : List Int) (x : Int), LS w W cs v l → l.length < 1000000 →
  Calls Try.prog 120 #[.int .i64 x, .pointer (some ⟨w.heap.size + 1, 0, none⟩)] W fun e w' => e = .returned (.tuple #[]) ∧ ∃ v', LS w w' cs v' (add1 l x) ∧ ∀ g cs', Blk W g 75 cs' → Blk w' g 75 cs'
theorem addC (w : World) : AddC w := fun W cs v l x h hl =>
  (listAdd x h.b3 h.own h.x.below.size hl).mono fun e w' ⟨h1, h2⟩ => by
    obtain ⟨v', h3⟩ := h.step h2
    obtain ⟨_, _, _, k⟩ := h2
    refine ⟨h1, v', h3, fun g cs' hg => hg.keep k (fun hs => ?_)⟩
    rcases hs with rfl | hs
    · exact hg.ne h.b3 (by decide) rfl
    · obtain ⟨_, c, hc⟩ := h.own.own.block hs
      exact hg.ne hc (by decide) rfl
set_option maxRecDepth 100000 in
set_option maxHeartbeats 4000000 in
theorem list_ {w : World} {R : PR} {re wa du sn : Value} (hre : IntsAt w re R.ready) (hwa : WaitsAt w wa R.wait) (hdu : IntsAt w du R.due) (hlen : 2 + R.ready.length + 2 * R.wait.length + R.due.length < 1000000) :
    Calls Try.prog 97 #[.agg (cellsR R re wa du sn)] w fun e w' => ∃ v, e = .returned v ∧ OwnI w' w.heap.size v (listOf R) ∧ Ext w w' := by
  have HA := Lib.hid (addC w)
  have hk : ∀ (args : Array Value) (W : World), (callFunc 120 args).run Try.prog W = .ok (.enter 120 args) W := fun _ _ => by kernel_rfl
  obtain ⟨A1, c1, rfl, _, _⟩ := Row.form hre
  obtain ⟨A2, c2, rfl, _, _⟩ := Row.form hwa
  obtain ⟨A3, c3, rfl, _, _⟩ := Row.form hdu
  have hre : Row w (.slice A1 R.ready.length c1) R.ready.length 1 (fun i _ => .int .i64 (R.ready.getD i 0)) := hre
  have hwa : Row w (.slice A2 R.wait.length c2) R.wait.length 2 (fun i j => cW (wAt R.wait i) j) := hwa
  have hdu : Row w (.slice A3 R.due.length c3) R.due.length 1 (fun i _ => .int .i64 (R.due.getD i 0)) := hdu
  have H1 := Lib.hid hre
  have H2 := Lib.hid hwa
  have H3 := Lib.hid hdu
  clear hre hwa hdu
  unfold listOf
  have F1 := Lib.hid (fold_take add1 (add1 (add1 [] R.proc) R.frame) R.ready 0)
  have N1 := Lib.hid (fun i => fold_len (R.ready.take i) (add1 (add1 [] R.proc) R.frame))
  have E1 : Hid ((R.ready.take R.ready.length).foldl add1 (add1 (add1 [] R.proc) R.frame) = R.ready.foldl add1 (add1 (add1 [] R.proc) R.frame)) := Lib.hid (by rw [List.take_length])
  have Z1 : Hid (add1 (add1 [] R.proc) R.frame = (R.ready.take 0).foldl add1 (add1 (add1 [] R.proc) R.frame)) := Lib.hid rfl
  have F2 := Lib.hid (fold_take (fun l p => add1 (add1 l p.1) p.2) (R.ready.foldl add1 (add1 (add1 [] R.proc) R.frame)) R.wait (0, 0))
  have N2 := Lib.hid (fun i => fold_len2 (R.wait.take i) (R.ready.foldl add1 (add1 (add1 [] R.proc) R.frame)))
  have E2 : Hid ((R.wait.take R.wait.length).foldl (fun l p => add1 (add1 l p.1) p.2) (R.ready.foldl add1 (add1 (add1 [] R.proc) R.frame)) = R.wait.foldl (fun l p => add1 (add1 l p.1) p.2) (R.ready.foldl add1 (add1 (add1 [] R.proc) R.frame))) := Lib.hid (by rw [List.take_length])
  have M2 := Lib.hid (fold_len R.ready (add1 (add1 [] R.proc) R.frame))
  have F3 := Lib.hid (fold_take add1 (R.wait.foldl (fun l p => add1 (add1 l p.1) p.2) (R.ready.foldl add1 (add1 (add1 [] R.proc) R.frame))) R.due 0)
  have N3 := Lib.hid (fun i => fold_len (R.due.take i) (R.wait.foldl (fun l p => add1 (add1 l p.1) p.2) (R.ready.foldl add1 (add1 (add1 [] R.proc) R.frame))))
  have E3 : Hid ((R.due.take R.due.length).foldl add1 (R.wait.foldl (fun l p => add1 (add1 l p.1) p.2) (R.ready.foldl add1 (add1 (add1 [] R.proc) R.frame))) = R.due.foldl add1 (R.wait.foldl (fun l p => add1 (add1 l p.1) p.2) (R.ready.foldl add1 (add1 (add1 [] R.proc) R.frame)))) := Lib.hid (by rw [List.take_length])
  have M3 := Lib.hid (fold_len2 R.wait (R.ready.foldl add1 (add1 (add1 [] R.proc) R.frame)))
  have M1 := Lib.hid (show (add1 (add1 [] R.proc) R.frame).length ≤ 2 from by have := add1_len [] R.proc; have := add1_len (add1 [] R.proc) R.frame; simp at *; omega)
  go_enter Try.func97, Try.ntmps97
  unfold cellsR
  go_wp2_with fail
  refine (HA.out _ _ _ _ _ (LS.start _ _) (by simp)).mono ?_
  rintro e w2 ⟨rfl, v2, L2, _⟩
  obtain ⟨q2, f2, lt2⟩ := L2.b1.rules
  have LL2 := Lib.hid L2
  clear L2
  go_wp2_with fail
  refine (HA.out _ _ _ _ _ LL2.out (by have := add1_len [] R.proc; simp at *; omega)).mono ?_
  clear LL2 q2 f2 lt2
  rintro e w3 ⟨rfl, v3, L3, _⟩
  obtain ⟨q3, f3, lt3⟩ := L3.b1.rules
  rw [Z1.out] at L3
  have LL3 := Lib.hid L3
  clear L3
  go_wp2_with fail
  go_loopw [23] (fun iv wr => ∃ i : Nat, i ≤ R.ready.length ∧ iv = .int .i64 i ∧ ∃ v, LS w wr (cellsR R (.slice A1 R.ready.length c1) (.slice A2 R.wait.length c2) (.slice A3 R.due.length c3) sn) v ((R.ready.take i).foldl add1 (add1 (add1 [] R.proc) R.frame))) (fun iv _ => R.ready.length - (intOf iv).toNat)
  case atStart => exact ⟨0, Nat.zero_le _, rfl, v3, LL3.out⟩
  case round =>
    obtain ⟨i, hi, rfl, v, L⟩ := hrel
    have LL := Lib.hid L
    clear LL3 q3 f3 lt3
    by_cases hlt : i < R.ready.length
    · obtain ⟨b, off, rfl, hb, hc⟩ := Row.at_ H1.out i hlt
      have c0 : wr.cell? ⟨b, off + i * 1, none⟩ = some (.int .i64 (R.ready.getD i 0)) := (L.x.below.cell (p := ⟨b, off + i * 1, none⟩) hb).trans (hc 0 (by omega))
      rw [Nat.mul_one] at c0
      have fe := F1.out i hlt
      clear hc L
      generalize R.ready.getD i 0 = y at c0 fe
      have FE := Lib.hid fe
      clear fe
      have iI : (i : Int) < (R.ready.length : Int) := by omega
      go_wp2_with fail
      refine (HA.out _ _ _ _ _ LL.out (by have := N1.out i; have := M1.out; rw [List.length_take] at *; omega)).mono ?_
      rintro e w4 ⟨rfl, v4, L4, _⟩
      rw [← FE.out] at L4
      have LL4 := Lib.hid L4
      clear L4
      go_wp2_with fail
      go_roundw
      case rel => exact ⟨i + 1, by omega, by go_num, v4, LL4.out⟩
      case measure => simp [intOf]; omega
    · have e : i = R.ready.length := by omega
      subst e
      rw [E1.out] at L
      obtain ⟨q5, f5, lt5⟩ := L.b1.rules
      unfold cellsR at q5
      clear LL
      have LL5 := Lib.hid L
      clear L
      go_wp2_with fail
      go_loopw [34] (fun iv wr => ∃ i : Nat, i ≤ R.wait.length ∧ iv = .int .i64 i ∧ ∃ v, LS w wr (cellsR R (.slice A1 R.ready.length c1) (.slice A2 R.wait.length c2) (.slice A3 R.due.length c3) sn) v ((R.wait.take i).foldl (fun l p => add1 (add1 l p.1) p.2) (R.ready.foldl add1 (add1 (add1 [] R.proc) R.frame)))) (fun iv _ => R.wait.length - (intOf iv).toNat)
      case atStart => exact ⟨0, Nat.zero_le _, rfl, v, LL5.out⟩
      case round =>
        clear LL5 q5 f5 lt5 hi hlt
        obtain ⟨i, hi, rfl, v, L⟩ := hrel
        have LL := Lib.hid L
        by_cases hlt : i < R.wait.length
        · obtain ⟨b, off, rfl, hb, hc⟩ := Row.at_ H2.out i hlt
          have c0 : wr.cell? ⟨b, off + i * 2, none⟩ = some (.int .i64 (wAt R.wait i).1) := (L.x.below.cell (p := ⟨b, off + i * 2, none⟩) hb).trans (hc 0 (by omega))
          have c1' : wr.cell? ⟨b, off + i * 2 + 1, none⟩ = some (.int .i64 (wAt R.wait i).2) := (L.x.below.cell (p := ⟨b, off + i * 2 + 1, none⟩) hb).trans (hc 1 (by omega))
          have fe : _ = add1 (add1 ((R.wait.take i).foldl (fun l p => add1 (add1 l p.1) p.2) (R.ready.foldl add1 (add1 (add1 [] R.proc) R.frame))) (wAt R.wait i).1) (wAt R.wait i).2 := F2.out i hlt
          have hsz := L.x.below.size
          have hbw : b < wr.heap.size := by omega
          clear hc L
          generalize (wAt R.wait i).1 = y1 at c0 fe
          generalize (wAt R.wait i).2 = y2 at c1' fe
          have FE := Lib.hid fe
          clear fe
          have iI : (i : Int) < (R.wait.length : Int) := by omega
          go_wp2_with fail
          refine (HA.out _ _ _ _ _ (LL.out.ext ((Ext.refl wr).alloc _)) (by have := N2.out i; have := M2.out; have := M1.out; rw [List.length_take] at *; omega)).mono ?_
          rintro e w4 ⟨rfl, v4, L4, B4⟩
          have bw := B4 _ _ (Blk.new wr 75 #[.int .i64 y1, .int .i64 y2])
          obtain ⟨q4, f4, lt4⟩ := bw.rules
          clear B4 bw
          have LL4 := Lib.hid L4
          clear L4
          go_wp2_with fail
          refine (HA.out _ _ _ _ _ LL4.out (by have := N2.out i; have := M2.out; have := M1.out; have := add1_len ((R.wait.take i).foldl (fun l p => add1 (add1 l p.1) p.2) (R.ready.foldl add1 (add1 (add1 [] R.proc) R.frame))) y1; rw [List.length_take] at *; omega)).mono ?_
          rintro e w6 ⟨rfl, v6, L6, _⟩
          rw [← FE.out] at L6
          have LL6 := Lib.hid L6
          clear L6
          go_wp2_with fail
          go_roundw
          case rel => exact ⟨i + 1, by omega, by go_num, v6, LL6.out⟩
          case measure => simp [intOf]; omega
        · have e : i = R.wait.length := by omega
          subst e
          rw [E2.out] at L
          obtain ⟨q5, f5, lt5⟩ := L.b1.rules
          unfold cellsR at q5
          clear LL
          have LL5 := Lib.hid L
          clear L
          go_wp2_with fail
          go_loopw [50] (fun iv wr => ∃ i : Nat, i ≤ R.due.length ∧ iv = .int .i64 i ∧ ∃ v, LS w wr (cellsR R (.slice A1 R.ready.length c1) (.slice A2 R.wait.length c2) (.slice A3 R.due.length c3) sn) v ((R.due.take i).foldl add1 (R.wait.foldl (fun l p => add1 (add1 l p.1) p.2) (R.ready.foldl add1 (add1 (add1 [] R.proc) R.frame))))) (fun iv _ => R.due.length - (intOf iv).toNat)
          case atStart => exact ⟨0, Nat.zero_le _, rfl, v, LL5.out⟩
          case round =>
            clear LL5 q5 f5 lt5 hi hlt
            obtain ⟨i, hi, rfl, v, L⟩ := hrel
            have LL := Lib.hid L
            by_cases hlt : i < R.due.length
            · obtain ⟨b, off, rfl, hb, hc⟩ := Row.at_ H3.out i hlt
              have c0 : wr.cell? ⟨b, off + i * 1, none⟩ = some (.int .i64 (R.due.getD i 0)) := (L.x.below.cell (p := ⟨b, off + i * 1, none⟩) hb).trans (hc 0 (by omega))
              rw [Nat.mul_one] at c0
              have fe := F3.out i hlt
              clear hc L
              generalize R.due.getD i 0 = y at c0 fe
              have FE := Lib.hid fe
              clear fe
              have iI : (i : Int) < (R.due.length : Int) := by omega
              go_wp2_with fail
              refine (HA.out _ _ _ _ _ LL.out (by have := N3.out i; have := M3.out; have := M2.out; have := M1.out; rw [List.length_take] at *; omega)).mono ?_
              rintro e w4 ⟨rfl, v4, L4, _⟩
              rw [← FE.out] at L4
              have LL4 := Lib.hid L4
              clear L4
              go_wp2_with fail
              go_roundw
              case rel => exact ⟨i + 1, by omega, by go_num, v4, LL4.out⟩
              case measure => simp [intOf]; omega
            · have e : i = R.due.length := by omega
              subst e
              rw [E3.out] at L
              obtain ⟨q5, f5, lt5⟩ := L.b3.rules
              clear LL
              have LL5 := Lib.hid L
              clear L
              go_wp2_with fail
              go_ret
              exact ⟨_, rfl, LL5.out.own, LL5.out.x⟩
end Go.Proofs.Ytadhkmplhgcgkaa.World
