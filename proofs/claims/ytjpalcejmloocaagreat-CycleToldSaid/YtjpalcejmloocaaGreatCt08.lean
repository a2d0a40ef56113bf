/-
  Image5, as one text (a claim has at most 60 files).
-/
import Derived.Test.YtjpalcejmloocaaGreatCt07
import Derived.Maps.Own
import Derived.Maps.OwnOps
import Derived.Maps.Views
import Derived.Carry
namespace Go.Proofs.YtjpalcejmloocaaGreat.World
open Go.RowKit Go.Proofs.YtjpalcejmloocaaGreat.Plain
set_option linter.unusedVariables false
attribute [local go_sem ↓] Go.wp_at_zero Go.wp_at_succ

section
variable {w : World}
set_option maxRecDepth 100000 in
set_option maxHeartbeats 1000000 in
theorem indexI {F : List Int} {vF : Value} (hv : IntsAt w vF F) (k : Nat) (hk : ∀ (args : Array Value) (W : World), (callFunc k args).run Tryz.prog W = .ok (.enter k args) W) (cap : Value) (p : Nat → Bool)
    (hf : ∀ i, i < F.length → ∀ w', Ext w w' → Calls Tryz.prog k #[.int .i64 (F.getD i 0), cap] w' fun e w'' => e = .returned (.bool (p i)) ∧ Ext w' w'') :
    Calls Tryz.prog 86 #[vF, .func (.func k) #[] #[cap]] w (IdxPost w F.length p) := by
  obtain ⟨A, c, rfl, h1, h2⟩ := Row.form hv
  have hv : Row w (.slice A F.length c) F.length 1 (fun i _ => .int .i64 (F.getD i 0)) := hv
  have HR := Lib.hid hv
  have HF := Lib.hid hf
  have AF := Lib.hid (allTo_false (fun j => !p j) F.length)
  have AS := Lib.hid (allTo_succ (fun j => !p j))
  clear hv hf
  generalize hn : F.length = n at *
  have HN := Lib.hid hn
  clear hn
  go_enter Tryz.func86, Tryz.ntmps86
  go_wp2
  go_loopw [8] (fun iv wr => ∃ i : Nat, i ≤ n ∧ iv = .int .i64 i ∧ allTo (fun j => !p j) i = true ∧ Ext w wr) (fun iv _ => n - (intOf iv).toNat)
  case atStart => exact ⟨0, Nat.zero_le _, rfl, rfl, Ext.refl _⟩
  case round =>
    obtain ⟨i, hi, rfl, ha, x⟩ := hrel
    have HA := Lib.hid ha
    have X := Lib.hid x
    clear ha
    by_cases hlt : i < n
    · obtain ⟨b, off, rfl, hb, hc⟩ := Row.at_ HR.out i hlt
      have c0 : wr.cell? ⟨b, off + i * 1, none⟩ = some (.int .i64 (F.getD i 0)) := (x.below.cell (p := ⟨b, off + i * 1, none⟩) hb).trans (hc 0 (by omega))
      rw [Nat.mul_one] at c0
      have C := Lib.hid (HF.out i hlt wr x)
      have iI : (i : Int) < (n : Int) := by omega
      clear hc x
      generalize F.getD i 0 = v at *
      cases hp : p i with
      | true =>
        rw [hp] at C
        have AN := Lib.hid (AF.out i hlt (by rw [hp]; rfl))
        clear hp
        go_wp2_with fail
        refine C.out.mono ?_
        rintro e w2 ⟨rfl, x2⟩
        go_wp2_with fail
        go_ret
        exact ⟨_, rfl, .inr ⟨AN.out, by omega, by omega⟩, X.out.trans x2⟩
      | false =>
        rw [hp] at C
        have AN := Lib.hid (AS.out i HA.out (by rw [hp]; rfl))
        clear hp
        go_wp2_with fail
        refine C.out.mono ?_
        rintro e w2 ⟨rfl, x2⟩
        go_wp2_with fail
        go_roundw
        case rel => exact ⟨i + 1, by omega, by go_num, AN.out, X.out.trans x2⟩
        case measure => simp [intOf]; omega
    · obtain rfl : i = n := by omega
      go_wp2
      go_ret
      exact ⟨_, rfl, .inl ⟨HA.out, rfl⟩, X.out⟩
set_option maxRecDepth 100000 in
set_option maxHeartbeats 1000000 in
theorem containsI {F : List Int} {vF : Value} (hv : IntsAt w vF F) (k : Nat) (hk : ∀ (args : Array Value) (W : World), (callFunc k args).run Tryz.prog W = .ok (.enter k args) W) (cap : Value) (p : Nat → Bool)
    (hf : ∀ i, i < F.length → ∀ w', Ext w w' → Calls Tryz.prog k #[.int .i64 (F.getD i 0), cap] w' fun e w'' => e = .returned (.bool (p i)) ∧ Ext w' w'') :
    Calls Tryz.prog 54 #[vF, .func (.func k) #[] #[cap]] w fun e w' => e = .returned (.bool (!allTo (fun j => !p j) F.length)) ∧ Ext w w' := by
  have C := Lib.hid (indexI hv k hk cap p hf)
  clear hv hf
  go_enter Tryz.func54, Tryz.ntmps54
  go_wp2_with fail
  refine C.out.mono ?_
  rintro e w2 ⟨r, rfl, hr, x⟩
  have X := Lib.hid x
  rcases hr with ⟨h1, rfl⟩ | ⟨h1, h2, h3⟩
  · have H1 := Lib.hid h1
    clear h1 x
    go_wp2_with fail
    go_ret
    exact ⟨ret_bool (by rw [H1.out]; rfl), X.out⟩
  · have H1 := Lib.hid h1
    clear h1 x h3
    go_wp2_with fail
    go_ret
    exact ⟨ret_bool (by rw [H1.out]; rfl), X.out⟩
set_option maxRecDepth 100000 in
set_option maxHeartbeats 1000000 in
theorem indexW {F : List (Int × Int)} {vF : Value} (hv : WaitsAt w vF F) (k : Nat) (hk : ∀ (args : Array Value) (W : World), (callFunc k args).run Tryz.prog W = .ok (.enter k args) W) (cap : Value) (p : Nat → Bool)
    (hf : ∀ i, i < F.length → ∀ w', Ext w w' → Calls Tryz.prog k #[.agg #[.int .i64 (wAt F i).1, .int .i64 (wAt F i).2], cap] w' fun e w'' => e = .returned (.bool (p i)) ∧ Ext w' w'') :
    Calls Tryz.prog 87 #[vF, .func (.func k) #[] #[cap]] w (IdxPost w F.length p) := by
  obtain ⟨A, c, rfl, h1, h2⟩ := Row.form hv
  have hv : Row w (.slice A F.length c) F.length 2 (fun i j => cW (wAt F i) j) := hv
  have HR := Lib.hid hv
  have HF := Lib.hid hf
  have AF := Lib.hid (allTo_false (fun j => !p j) F.length)
  have AS := Lib.hid (allTo_succ (fun j => !p j))
  clear hv hf
  generalize hn : F.length = n at *
  have HN := Lib.hid hn
  clear hn
  go_enter Tryz.func87, Tryz.ntmps87
  go_wp2
  go_loopw [8] (fun iv wr => ∃ i : Nat, i ≤ n ∧ iv = .int .i64 i ∧ allTo (fun j => !p j) i = true ∧ Ext w wr) (fun iv _ => n - (intOf iv).toNat)
  case atStart => exact ⟨0, Nat.zero_le _, rfl, rfl, Ext.refl _⟩
  case round =>
    obtain ⟨i, hi, rfl, ha, x⟩ := hrel
    have HA := Lib.hid ha
    have X := Lib.hid x
    clear ha
    by_cases hlt : i < n
    · obtain ⟨b, off, rfl, hb, hc⟩ := Row.at_ HR.out i hlt
      have c0 : wr.cell? ⟨b, off + i * 2, none⟩ = some (.int .i64 (wAt F i).1) := (x.below.cell (p := ⟨b, off + i * 2, none⟩) hb).trans (hc 0 (by omega))
      have c1 : wr.cell? ⟨b, off + i * 2 + 1, none⟩ = some (.int .i64 (wAt F i).2) := (x.below.cell (p := ⟨b, off + i * 2 + 1, none⟩) hb).trans (hc 1 (by omega))
      have C := Lib.hid (HF.out i hlt wr x)
      have iI : (i : Int) < (n : Int) := by omega
      clear hc x
      generalize wAt F i = v at *
      cases hp : p i with
      | true =>
        rw [hp] at C
        have AN := Lib.hid (AF.out i hlt (by rw [hp]; rfl))
        clear hp
        go_wp2_with fail
        refine C.out.mono ?_
        rintro e w2 ⟨rfl, x2⟩
        go_wp2_with fail
        go_ret
        exact ⟨_, rfl, .inr ⟨AN.out, by omega, by omega⟩, X.out.trans x2⟩
      | false =>
        rw [hp] at C
        have AN := Lib.hid (AS.out i HA.out (by rw [hp]; rfl))
        clear hp
        go_wp2_with fail
        refine C.out.mono ?_
        rintro e w2 ⟨rfl, x2⟩
        go_wp2_with fail
        go_roundw
        case rel => exact ⟨i + 1, by omega, by go_num, AN.out, X.out.trans x2⟩
        case measure => simp [intOf]; omega
    · obtain rfl : i = n := by omega
      go_wp2
      go_ret
      exact ⟨_, rfl, .inl ⟨HA.out, rfl⟩, X.out⟩
set_option maxRecDepth 100000 in
set_option maxHeartbeats 1000000 in
theorem containsW {F : List (Int × Int)} {vF : Value} (hv : WaitsAt w vF F) (k : Nat) (hk : ∀ (args : Array Value) (W : World), (callFunc k args).run Tryz.prog W = .ok (.enter k args) W) (cap : Value) (p : Nat → Bool)
    (hf : ∀ i, i < F.length → ∀ w', Ext w w' → Calls Tryz.prog k #[.agg #[.int .i64 (wAt F i).1, .int .i64 (wAt F i).2], cap] w' fun e w'' => e = .returned (.bool (p i)) ∧ Ext w' w'') :
    Calls Tryz.prog 55 #[vF, .func (.func k) #[] #[cap]] w fun e w' => e = .returned (.bool (!allTo (fun j => !p j) F.length)) ∧ Ext w w' := by
  have C := Lib.hid (indexW hv k hk cap p hf)
  clear hv hf
  go_enter Tryz.func55, Tryz.ntmps55
  go_wp2_with fail
  refine C.out.mono ?_
  rintro e w2 ⟨r, rfl, hr, x⟩
  have X := Lib.hid x
  rcases hr with ⟨h1, rfl⟩ | ⟨h1, h2, h3⟩
  · have H1 := Lib.hid h1
    clear h1 x
    go_wp2_with fail
    go_ret
    exact ⟨ret_bool (by rw [H1.out]; rfl), X.out⟩
  · have H1 := Lib.hid h1
    clear h1 x h3
    go_wp2_with fail
    go_ret
    exact ⟨ret_bool (by rw [H1.out]; rfl), X.out⟩
set_option maxRecDepth 100000 in
set_option maxHeartbeats 1000000 in
theorem indexS {F : List ByteArray} {vF : Value} (hv : StrsAt w vF F) (k : Nat) (hk : ∀ (args : Array Value) (W : World), (callFunc k args).run Tryz.prog W = .ok (.enter k args) W) (p : Nat → Bool)
    (hf : ∀ i, i < F.length → ∀ w', Ext w w' → Calls Tryz.prog k #[.string (sAt F i)] w' fun e w'' => e = .returned (.bool (p i)) ∧ Ext w' w'') :
    Calls Tryz.prog 88 #[vF, .func (.func k) #[] #[]] w (IdxPost w F.length p) := by
  obtain ⟨A, c, rfl, h1, h2⟩ := Row.form hv
  have hv : Row w (.slice A F.length c) F.length 1 (fun i _ => .string (sAt F i)) := hv
  have HR := Lib.hid hv
  have HF := Lib.hid hf
  have AF := Lib.hid (allTo_false (fun j => !p j) F.length)
  have AS := Lib.hid (allTo_succ (fun j => !p j))
  clear hv hf
  generalize hn : F.length = n at *
  have HN := Lib.hid hn
  clear hn
  go_enter Tryz.func88, Tryz.ntmps88
  go_wp2
  go_loopw [8] (fun iv wr => ∃ i : Nat, i ≤ n ∧ iv = .int .i64 i ∧ allTo (fun j => !p j) i = true ∧ Ext w wr) (fun iv _ => n - (intOf iv).toNat)
  case atStart => exact ⟨0, Nat.zero_le _, rfl, rfl, Ext.refl _⟩
  case round =>
    obtain ⟨i, hi, rfl, ha, x⟩ := hrel
    have HA := Lib.hid ha
    have X := Lib.hid x
    clear ha
    by_cases hlt : i < n
    · obtain ⟨b, off, rfl, hb, hc⟩ := Row.at_ HR.out i hlt
      have c0 : wr.cell? ⟨b, off + i * 1, none⟩ = some (.string (sAt F i)) := (x.below.cell (p := ⟨b, off + i * 1, none⟩) hb).trans (hc 0 (by omega))
      rw [Nat.mul_one] at c0
      have C := Lib.hid (HF.out i hlt wr x)
      have iI : (i : Int) < (n : Int) := by omega
      clear hc x
      generalize sAt F i = v at *
      cases hp : p i with
      | true =>
        rw [hp] at C
        have AN := Lib.hid (AF.out i hlt (by rw [hp]; rfl))
        clear hp
        go_wp2_with fail
        refine C.out.mono ?_
        rintro e w2 ⟨rfl, x2⟩
        go_wp2_with fail
        go_ret
        exact ⟨_, rfl, .inr ⟨AN.out, by omega, by omega⟩, X.out.trans x2⟩
      | false =>
        rw [hp] at C
        have AN := Lib.hid (AS.out i HA.out (by rw [hp]; rfl))
        clear hp
        go_wp2_with fail
        refine C.out.mono ?_
        rintro e w2 ⟨rfl, x2⟩
        go_wp2_with fail
        go_roundw
        case rel => exact ⟨i + 1, by omega, by go_num, AN.out, X.out.trans x2⟩
        case measure => simp [intOf]; omega
    · obtain rfl : i = n := by omega
      go_wp2
      go_ret
      exact ⟨_, rfl, .inl ⟨HA.out, rfl⟩, X.out⟩
set_option maxRecDepth 100000 in
set_option maxHeartbeats 1000000 in
theorem containsS {F : List ByteArray} {vF : Value} (hv : StrsAt w vF F) (k : Nat) (hk : ∀ (args : Array Value) (W : World), (callFunc k args).run Tryz.prog W = .ok (.enter k args) W) (p : Nat → Bool)
    (hf : ∀ i, i < F.length → ∀ w', Ext w w' → Calls Tryz.prog k #[.string (sAt F i)] w' fun e w'' => e = .returned (.bool (p i)) ∧ Ext w' w'') :
    Calls Tryz.prog 57 #[vF, .func (.func k) #[] #[]] w fun e w' => e = .returned (.bool (!allTo (fun j => !p j) F.length)) ∧ Ext w w' := by
  have C := Lib.hid (indexS hv k hk p hf)
  clear hv hf
  go_enter Tryz.func57, Tryz.ntmps57
  go_wp2_with fail
  refine C.out.mono ?_
  rintro e w2 ⟨r, rfl, hr, x⟩
  have X := Lib.hid x
  rcases hr with ⟨h1, rfl⟩ | ⟨h1, h2, h3⟩
  · have H1 := Lib.hid h1
    clear h1 x
    go_wp2_with fail
    go_ret
    exact ⟨ret_bool (by rw [H1.out]; rfl), X.out⟩
  · have H1 := Lib.hid h1
    clear h1 x h3
    go_wp2_with fail
    go_ret
    exact ⟨ret_bool (by rw [H1.out]; rfl), X.out⟩
end
section
variable {w : World} {x : WV} {W : PW}
set_option maxRecDepth 100000 in
set_option maxHeartbeats 1000000 in
theorem regs1 {wb : Nat} (h : WorldAt w x W) (hd : deadOk W) (hb : Box w wb W x) (a : Int) : Calls Tryz.prog 52 #[.int .i64 a, .pointer (some ⟨wb, 0, none⟩)] w fun e w' => e = .returned (.bool (!thereB W a)) ∧ Ext w w' := by
  have HA := Lib.hid (there h hd a)
  obtain ⟨vL, fs, vD, vRe, vWa, vDu, vSn⟩ := x
  obtain ⟨r1, r2, r3⟩ := Blk.rules hb
  unfold cellsW at r1 HA
  generalize thereB W a = q at *
  clear h hb
  go_enter Tryz.func52, Tryz.ntmps52
  go_wp2_with fail
  refine HA.out.mono ?_
  rintro e w1 ⟨rfl, x1⟩
  go_wp2_with fail
  go_ret
  exact ⟨rfl, x1⟩
set_option maxRecDepth 100000 in
set_option maxHeartbeats 1000000 in
theorem regs2 {wb nb : Nat} (h : WorldAt w x W) (hd : deadOk W) (hb : Box w wb W x) (hnb : Blk w nb 45 #[.func (.func 52) #[] #[.pointer (some ⟨wb, 0, none⟩)]]) (v : Int × Int) :
    Calls Tryz.prog 56 #[.agg #[.int .i64 v.1, .int .i64 v.2], .pointer (some ⟨nb, 0, none⟩)] w fun e w' => e = .returned (.bool (!(thereB W v.1 && thereB W v.2))) ∧ Ext w w' := by
  have H1 := Lib.hid (fun w' (e : Ext w w') => regs1 (h.ext e) hd (hb.ext e) v.1)
  have H2 := Lib.hid (fun w' (e : Ext w w') => regs1 (h.ext e) hd (hb.ext e) v.2)
  have HB := Lib.hid hnb
  obtain ⟨r1, r2, r3⟩ := hnb.rules
  have hk : ∀ (args : Array Value) (W : World), (callFunc 52 args).run Tryz.prog W = .ok (.enter 52 args) W := fun _ _ => by kernel_rfl
  clear h hb hnb
  generalize thereB W v.2 = q2 at *
  cases hq : thereB W v.1 with
  | true =>
    rw [hq] at H1
    go_enter Tryz.func56, Tryz.ntmps56
    go_wp2_with fail
    refine (H1.out _ ((Ext.refl _).alloc _)).mono ?_
    rintro e w1 ⟨rfl, x1⟩
    obtain ⟨s1, s2, s3⟩ := (((HB.out.alloc _).ext x1)).rules
    obtain ⟨t1, t2, t3⟩ := ((Blk.new w 96 #[.int .i64 v.1, .int .i64 v.2]).ext x1).rules
    clear r1 r2 r3
    go_wp2_with fail
    refine (H2.out _ (((Ext.refl _).alloc _).trans x1)).mono ?_
    rintro e w2 ⟨rfl, x2⟩
    go_wp2_with fail
    go_ret
    exact ⟨ret_bool (by simp), (((Ext.refl _).alloc _).trans x1).trans x2⟩
  | false =>
    rw [hq] at H1
    go_enter Tryz.func56, Tryz.ntmps56
    go_wp2_with fail
    refine (H1.out _ ((Ext.refl _).alloc _)).mono ?_
    rintro e w1 ⟨rfl, x1⟩
    go_wp2_with fail
    go_ret
    exact ⟨ret_bool (by simp), ((Ext.refl _).alloc _).trans x1⟩
theorem regs3 (s : ByteArray) (hs : s.size ≤ maxLen) : Calls Tryz.prog 58 #[.string s] w fun e w' => e = .returned (.bool (!decide (s.size ≤ 65536))) ∧ Ext w w' := by
  unfold maxLen at hs
  go_enter Tryz.func58, Tryz.ntmps58
  go_wp2
  go_ret
  refine ⟨ret_bool ?_, Ext.refl _⟩
  rw [Bool.eq_iff_iff]; simp; omega
end
end Go.Proofs.YtjpalcejmloocaaGreat.World
