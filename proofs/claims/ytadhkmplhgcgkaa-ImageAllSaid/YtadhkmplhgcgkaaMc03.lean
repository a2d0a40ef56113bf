/-
  Image, Image2, as one text (a claim has at most 60 files).
-/
import Derived.Test.YtadhkmplhgcgkaaMc02
import Derived.WalkSpells
import Derived.WalkMore
import Derived.Lib.Hide
import Derived.Deep.RegionHeld3
import Derived.Deep.DrawnRows
namespace Go.Proofs.Ytadhkmplhgcgkaa.World
open Go.RowKit Go.Proofs.Ytadhkmplhgcgkaa.Plain
set_option linter.unusedVariables false
attribute [local go_sem ↓] Go.wp_at_zero Go.wp_at_succ

section
variable {w : World} {x : WV} {W : PW}
/-- a world's value, its slices written out -/
theorem Row.form {v : Value} {n sz : Nat} {c : Nat → Nat → Value} (h : Row w v n sz c) : ∃ A cap, v = .slice A n cap ∧ n ≤ cap ∧ cap ≤ 9223372036854775807 := by
  obtain ⟨A, cap, e, h1, h2, _⟩ := h.ex
  exact ⟨A, cap, e, h1, h2⟩
theorem Row.at_ {A : Option Addr} {n cap sz : Nat} {c : Nat → Nat → Value} (h : Row w (.slice A n cap) n sz c) (i : Nat) (hi : i < n) : ∃ b off, A = some ⟨b, off, none⟩ ∧ b < w.heap.size ∧ ∀ j, j < sz → w.cell? ⟨b, off + i * sz + j, none⟩ = some (c i j) := by
  obtain ⟨A', cap', e, _, _, h3⟩ := h.ex
  injection e with e1 e2 e3
  subst e1
  exact h3 i hi
def deadOk (W : PW) : Prop := W.dead.length = 0 ∨ W.dead.length = W.L.length
set_option maxRecDepth 100000 in
set_option maxHeartbeats 1000000 in
theorem alive (h : WorldAt w x W) (hd : deadOk W) (at_ : Int) : Calls Try.prog 113 #[.agg (cellsW W x), .int .i64 at_] w fun e w' => e = .returned (.bool (liveB W at_)) ∧ Ext w w' := by
  obtain ⟨vL, fs, vD, vRe, vWa, vDu, vSn⟩ := x
  obtain ⟨AL, cL, e1, l1, l2⟩ := h.L.row.form
  obtain ⟨AD, cD, e2, l3, l4⟩ := Row.form h.dead
  have e1 : vL = .slice AL W.L.length cL := e1
  have e2 : vD = .slice AD W.dead.length cD := e2
  subst e1 e2
  have HD : BoolsAt w (.slice AD W.dead.length cD) W.dead := h.dead
  have E : Hid (liveB W at_ = (decide (0 ≤ at_ ∧ at_ < W.L.length) && !(W.dead.getD at_.toNat false))) := rfl
  unfold deadOk at hd
  unfold cellsW
  by_cases h1 : 0 ≤ at_
  · by_cases h2 : at_ < (W.L.length : Int)
    · obtain ⟨k, rfl⟩ := Int.eq_ofNat_of_zero_le h1
      rw [decide_eq_true ⟨h1, h2⟩, Int.toNat_natCast] at E
      by_cases h3 : W.dead.length = 0
      · have e3 : Hid (W.dead.getD k false = false) := Lib.hid (by rw [List.getD_eq_getElem?_getD, List.getElem?_eq_none (by omega)]; rfl)
        have d3 : ((W.dead.length : Int) == 0) = true := beq_iff_eq.2 (by omega)
        clear h HD hd h3
        generalize W.L.length = n at *
        generalize W.dead.length = m at *
        go_enter Try.func113, Try.ntmps113
        go_wp2
        go_ret
        exact ⟨ret_bool (by rw [E.out, e3.out]; rfl), (Ext.refl _).alloc _⟩
      · obtain ⟨b, off, rfl, hb, hc⟩ := Row.at_ HD k (by omega)
        have c1 := hc 0 (by omega)
        have c1 : w.cell? ⟨b, off + k, none⟩ = some (.bool (W.dead.getD k false)) := by simpa using c1
        have d3 : ((W.dead.length : Int) == 0) = false := beq_eq_false_iff_ne.2 (by omega)
        have h4 : (k : Int) < (W.dead.length : Int) := by omega
        clear h HD hd h3 hc
        generalize W.L.length = n at *
        generalize W.dead.length = m at *
        generalize W.dead.getD k false = q at *
        go_enter Try.func113, Try.ntmps113
        go_wp2
        go_ret
        exact ⟨ret_bool (by rw [E.out]; rfl), (Ext.refl _).alloc _⟩
    · have E2 : Hid (liveB W at_ = false) := Lib.hid (by rw [E.out, decide_eq_false (by omega), Bool.false_and])
      have d1 : decide (at_ < (W.L.length : Int)) = false := decide_eq_false h2
      clear h HD hd E
      generalize W.L.length = n at *
      go_enter Try.func113, Try.ntmps113
      go_wp2
      go_ret
      exact ⟨ret_bool (by rw [E2.out]), (Ext.refl _).alloc _⟩
  · have E2 : Hid (liveB W at_ = false) := Lib.hid (by rw [E.out, decide_eq_false (by omega), Bool.false_and])
    have d1 : decide (0 ≤ at_) = false := decide_eq_false h1
    clear h HD hd E
    go_enter Try.func113, Try.ntmps113
    go_wp2
    go_ret
    exact ⟨ret_bool (by rw [E2.out]), (Ext.refl _).alloc _⟩
set_option maxRecDepth 100000 in
set_option maxHeartbeats 1000000 in
theorem there (h : WorldAt w x W) (hd : deadOk W) (at_ : Int) : Calls Try.prog 91 #[.agg (cellsW W x), .int .i64 at_] w fun e w' => e = .returned (.bool (thereB W at_)) ∧ Ext w w' := by
  have HA := Lib.hid (fun w' (e : Ext w w') => alive (h.ext e) hd at_)
  have E : Hid (thereB W at_ = (!decide (at_ = 0) && liveB W at_)) := rfl
  obtain ⟨vL, fs, vD, vRe, vWa, vDu, vSn⟩ := x
  unfold cellsW at HA ⊢
  clear h hd
  by_cases h0 : at_ = 0
  · have E2 : Hid (thereB W at_ = false) := Lib.hid (by rw [E.out, decide_eq_true h0]; rfl)
    subst h0
    clear E
    go_enter Try.func91, Try.ntmps91
    go_wp2
    go_ret
    exact ⟨ret_bool (by rw [E2.out]), (Ext.refl _).alloc _⟩
  · have E2 : Hid (thereB W at_ = liveB W at_) := Lib.hid (by rw [E.out, decide_eq_false h0]; rfl)
    have d0 : (at_ != 0) = true := by simpa using h0
    clear E h0
    generalize liveB W at_ = q at *
    go_enter Try.func91, Try.ntmps91
    go_wp2_with fail
    refine (HA.out _ ((Ext.refl _).alloc _)).mono ?_
    rintro e w1 ⟨rfl, x1⟩
    go_wp2_with fail
    go_ret
    exact ⟨ret_bool (by rw [E2.out]), ((Ext.refl _).alloc _).trans x1⟩
/-! ### a thing's shape -/
def thingV (t : PT) (vF : Value) : Value := .agg #[.int .i64 t.cls, .int .i64 t.fmt, .int .i64 t.hash, .bool t.fin, vF, .string t.B]
set_option maxRecDepth 100000 in
set_option maxHeartbeats 1000000 in
theorem isClass {t : PT} {vF : Value} (h : ValsAt w vF t.F) : Calls Try.prog 114 #[thingV t vF] w fun e w' => e = .returned (.bool (isClsB t)) ∧ Ext w w' := by
  obtain ⟨A, c, rfl, h1, h2⟩ := Row.form h
  have E : Hid (isClsB t = (decide (t.fmt = 1) && (decide (5 ≤ t.F.length) && (numB (vAt t.F 3) 0 60 && numB (vAt t.F 4) 1 3)))) := rfl
  have HR := Lib.hid h
  unfold thingV
  clear h
  by_cases f1 : t.fmt = 1
  · rw [decide_eq_true f1] at E
    rw [f1]
    by_cases f5 : 5 ≤ t.F.length
    · rw [decide_eq_true f5] at E
      obtain ⟨b, off, rfl, hb, hc3⟩ := Row.at_ HR.out 3 (by omega)
      obtain ⟨b', off', e', _, hc4⟩ := Row.at_ HR.out 4 (by omega)
      injection e' with e'
      injection e' with e1 e2
      subst e1 e2
      have c30 : w.cell? ⟨b, off + 6, none⟩ = some (.bool (vAt t.F 3).obj) := hc3 0 (by omega)
      have c31 : w.cell? ⟨b, off + 6 + 1, none⟩ = some (.int .i64 (vAt t.F 3).n) := hc3 1 (by omega)
      have c40 : w.cell? ⟨b, off + 8, none⟩ = some (.bool (vAt t.F 4).obj) := hc4 0 (by omega)
      have c41 : w.cell? ⟨b, off + 8 + 1, none⟩ = some (.int .i64 (vAt t.F 4).n) := hc4 1 (by omega)
      have E3 : Hid (numB (vAt t.F 3) 0 60 = (!(vAt t.F 3).obj && decide (0 ≤ (vAt t.F 3).n ∧ (vAt t.F 3).n ≤ 60))) := rfl
      have E4 : Hid (numB (vAt t.F 4) 1 3 = (!(vAt t.F 4).obj && decide (1 ≤ (vAt t.F 4).n ∧ (vAt t.F 4).n ≤ 3))) := rfl
      have l5 : (5 : Int) ≤ (t.F.length : Int) := by omega
      clear hc3 hc4 HR f5 f1
      generalize vAt t.F 3 = v3 at *
      generalize vAt t.F 4 = v4 at *
      generalize t.F.length = n at *
      go_enter Try.func114, Try.ntmps114
      go_wp2
      refine wp_name (fun W1 hW => ?_)
      have B1 := Blk.new' hW
      have X1 := (Ext.refl w).alloc' hW
      have c30 := (X1.below.cell (p := ⟨b, off + 6, none⟩) hb).trans c30
      have c31 := (X1.below.cell (p := ⟨b, off + 6 + 1, none⟩) hb).trans c31
      have c40 := (X1.below.cell (p := ⟨b, off + 8, none⟩) hb).trans c40
      have c41 := (X1.below.cell (p := ⟨b, off + 8 + 1, none⟩) hb).trans c41
      have c1 := B1.cell 4
      have hz : W1.heap.size = w.heap.size + 1 := by rw [hW]; simp
      have hs := B1.lt
      have hb2 : b < W1.heap.size := by omega
      have i3 : (3 : Int) < (n : Int) := by omega
      have i4 : (4 : Int) < (n : Int) := by omega
      clear hW B1 hz
      generalize w.heap.size = q at *
      have n1 := World.new_ne _ _ c30
      have n2 := World.new_ne _ _ c40
      have n3 := World.new_ne _ _ c1
      go_region_held3 (fun w' => w'.cell? ⟨b, off + 6, none⟩ = some (.bool v3.obj) ∧ w'.cell? ⟨b, off + 6 + 1, none⟩ = some (.int .i64 v3.n) ∧ w'.cell? ⟨b, off + 8, none⟩ = some (.bool v4.obj) ∧ w'.cell? ⟨b, off + 8 + 1, none⟩ = some (.int .i64 v4.n) ∧ w'.cell? ⟨q, 4, none⟩ = some (.slice (some ⟨b, off, none⟩) n c)) (go_keep) (fail)
      all_goals go_wp2
      all_goals
        go_ret
        refine ⟨ret_bool ?_, ((X1.alloc _).alloc _).drew⟩
        rw [E.out, E3.out, E4.out]
        simp [*] <;> omega
    · have E2 : Hid (isClsB t = false) := Lib.hid (by rw [E.out, decide_eq_false f5]; rfl)
      have d5 : decide ((t.F.length : Int) < 5) = true := decide_eq_true (by omega)
      clear HR f1 f5 E
      generalize t.F.length = n at *
      go_enter Try.func114, Try.ntmps114
      go_wp2
      go_ret
      exact ⟨ret_bool (by rw [E2.out]), (Ext.refl _).alloc _⟩
  · have E2 : Hid (isClsB t = false) := Lib.hid (by rw [E.out, decide_eq_false f1]; rfl)
    have d1 : (t.fmt != 1) = true := by simpa using f1
    clear HR f1 E
    go_enter Try.func114, Try.ntmps114
    go_wp2
    go_ret
    exact ⟨ret_bool (by rw [E2.out]), (Ext.refl _).alloc _⟩
end
end Go.Proofs.Ytadhkmplhgcgkaa.World
namespace Go.Proofs.Ytadhkmplhgcgkaa.World
open Go.RowKit Go.Proofs.Ytadhkmplhgcgkaa.Plain
set_option linter.unusedVariables false
attribute [local go_sem ↓] Go.wp_at_zero Go.wp_at_succ

/-- what slices.IndexFunc says: the first place at which p says yes -/
def IdxPost (w : World) (n : Nat) (p : Nat → Bool) (e : Ending) (w' : World) : Prop :=
  ∃ r : Int, e = .returned (.int .i64 r) ∧ ((allTo (fun j => !p j) n = true ∧ r = -1) ∨ (allTo (fun j => !p j) n = false ∧ 0 ≤ r ∧ r < n)) ∧ Ext w w'
theorem allTo_succ (f : Nat → Bool) (n : Nat) (h : allTo f n = true) (h2 : f n = true) : allTo f (n + 1) = true := by rw [allTo, h, h2]; rfl
section
variable {w : World}
set_option maxRecDepth 100000 in
set_option maxHeartbeats 1000000 in
theorem indexV {F : List PV} {vF : Value} (hv : ValsAt w vF F) (k : Nat) (hk : ∀ (args : Array Value) (W : World), (callFunc k args).run Try.prog W = .ok (.enter k args) W) (cap : Value) (p : Nat → Bool)
    (hf : ∀ i, i < F.length → ∀ w', Ext w w' → Calls Try.prog k #[.agg #[.bool (vAt F i).obj, .int .i64 (vAt F i).n], cap] w' fun e w'' => e = .returned (.bool (p i)) ∧ Ext w' w'') :
    Calls Try.prog 124 #[vF, .func (.func k) #[] #[cap]] w (IdxPost w F.length p) := by
  obtain ⟨A, c, rfl, h1, h2⟩ := Row.form hv
  have hv : Row w (.slice A F.length c) F.length 2 (fun i j => cV (vAt F i) j) := hv
  have HR := Lib.hid hv
  have HF := Lib.hid hf
  have AF := Lib.hid (allTo_false (fun j => !p j) F.length)
  have AS := Lib.hid (allTo_succ (fun j => !p j))
  clear hv hf
  generalize hn : F.length = n at *
  have HN := Lib.hid hn
  clear hn
  go_enter Try.func124, Try.ntmps124
  go_wp2
  go_loopw [8] (fun iv wr => ∃ i : Nat, i ≤ n ∧ iv = .int .i64 i ∧ allTo (fun j => !p j) i = true ∧ Ext w wr) (fun iv _ => n - (intOf iv).toNat)
  case atStart => exact ⟨0, Nat.zero_le _, rfl, rfl, Ext.refl _⟩
  case round =>
    obtain ⟨i, hi, rfl, ha, x⟩ := hrel
    have HA := Lib.hid ha
    have X := Lib.hid x
    clear ha
    by_cases hlt : i < n
    · obtain ⟨b, off, rfl, hb, hc⟩ := Row.at_ HR.out i hlt
      have c0 : wr.cell? ⟨b, off + i * 2, none⟩ = some (.bool (vAt F i).obj) := (x.below.cell (p := ⟨b, off + i * 2, none⟩) hb).trans (hc 0 (by omega))
      have c1 : wr.cell? ⟨b, off + i * 2 + 1, none⟩ = some (.int .i64 (vAt F i).n) := (x.below.cell (p := ⟨b, off + i * 2 + 1, none⟩) hb).trans (hc 1 (by omega))
      have C := Lib.hid (HF.out i hlt wr x)
      have iI : (i : Int) < (n : Int) := by omega
      clear hc x
      generalize vAt F i = v at *
      cases hp : p i with
      | true =>
        rw [hp] at C
        have AN := Lib.hid (AF.out i hlt (by rw [hp]; rfl))
        clear hp
        go_wp2_with fail
        refine C.out.mono ?_
        rintro e w2 ⟨rfl, x2⟩
        go_wp2_with fail
        go_ret
        exact ⟨_, rfl, .inr ⟨AN.out, by omega, by omega⟩, X.out.trans x2⟩
      | false =>
        rw [hp] at C
        have AN := Lib.hid (AS.out i HA.out (by rw [hp]; rfl))
        clear hp
        go_wp2_with fail
        refine C.out.mono ?_
        rintro e w2 ⟨rfl, x2⟩
        go_wp2_with fail
        go_roundw
        case rel => exact ⟨i + 1, by omega, by go_num, AN.out, X.out.trans x2⟩
        case measure => simp [intOf]; omega
    · obtain rfl : i = n := by omega
      go_wp2
      go_ret
      exact ⟨_, rfl, .inl ⟨HA.out, rfl⟩, X.out⟩
set_option maxRecDepth 100000 in
set_option maxHeartbeats 1000000 in
theorem containsV {F : List PV} {vF : Value} (hv : ValsAt w vF F) (k : Nat) (hk : ∀ (args : Array Value) (W : World), (callFunc k args).run Try.prog W = .ok (.enter k args) W) (cap : Value) (p : Nat → Bool)
    (hf : ∀ i, i < F.length → ∀ w', Ext w w' → Calls Try.prog k #[.agg #[.bool (vAt F i).obj, .int .i64 (vAt F i).n], cap] w' fun e w'' => e = .returned (.bool (p i)) ∧ Ext w' w'') :
    Calls Try.prog 115 #[vF, .func (.func k) #[] #[cap]] w fun e w' => e = .returned (.bool (!allTo (fun j => !p j) F.length)) ∧ Ext w w' := by
  have C := Lib.hid (indexV hv k hk cap p hf)
  clear hv hf
  go_enter Try.func115, Try.ntmps115
  go_wp2_with fail
  refine C.out.mono ?_
  rintro e w2 ⟨r, rfl, hr, x⟩
  have X := Lib.hid x
  rcases hr with ⟨h1, rfl⟩ | ⟨h1, h2, h3⟩
  · have H1 := Lib.hid h1
    clear h1 x
    go_wp2_with fail
    go_ret
    exact ⟨ret_bool (by rw [H1.out]; rfl), X.out⟩
  · have H1 := Lib.hid h1
    clear h1 x h3
    go_wp2_with fail
    go_ret
    exact ⟨ret_bool (by rw [H1.out]; rfl), X.out⟩
variable {x : WV} {W : PW}
/-- the box in which a method's world lies -/
def Box (w : World) (wb : Nat) (W : PW) (x : WV) : Prop := Blk w wb 85 (cellsW W x)
theorem Box.ext {w' : World} {wb : Nat} (h : Box w wb W x) (e : Ext w w') : Box w' wb W x := Blk.ext h e
set_option maxRecDepth 100000 in
set_option maxHeartbeats 1000000 in
theorem shape1 {wb : Nat} (h : WorldAt w x W) (hb : Box w wb W x) (v : PV) : Calls Try.prog 122 #[.agg #[.bool v.obj, .int .i64 v.n], .pointer (some ⟨wb, 0, none⟩)] w fun e w' => e = .returned (.bool (!fldB W.L.length v)) ∧ Ext w w' := by
  obtain ⟨vL, fs, vD, vRe, vWa, vDu, vSn⟩ := x
  obtain ⟨AL, cL, e1, l1, l2⟩ := h.L.row.form
  have e1 : vL = .slice AL W.L.length cL := e1
  subst e1
  obtain ⟨r1, r2, r3⟩ := Blk.rules hb
  unfold cellsW at r1
  have r10 : w.cell? ⟨wb, 0, none⟩ = some (.slice AL W.L.length cL) := r1 0
  have E : Hid (fldB W.L.length v = if v.obj then decide (0 ≤ v.n ∧ v.n < W.L.length) else fitsB v.n) := rfl
  clear h hb r1 r2
  generalize W.L.length = n at *
  cases hv : v.obj with
  | true =>
    rw [hv] at E
    go_enter Try.func122, Try.ntmps122
    go_wp2
    all_goals
      go_ret
      refine ⟨ret_bool ?_, (Ext.refl _).alloc _⟩
      rw [E.out]
      simp [*] <;> omega
  | false =>
    rw [hv] at E
    have F := Lib.hid (fun W => Word.fits v.n W)
    clear hv
    go_enter Try.func122, Try.ntmps122
    go_wp2_with fail
    refine (F.out _).mono ?_
    rintro e w1 ⟨rfl, rfl⟩
    go_wp2_with fail
    go_ret
    exact ⟨ret_bool (by rw [E.out]; rfl), (Ext.refl _).alloc _⟩
theorem emp_size (s : ByteArray) : s.toList.isEmpty = decide (s.size = 0) := by
  rw [ByteArray.toList_eq, Bool.eq_iff_iff, List.isEmpty_iff, decide_eq_true_iff]
  constructor
  · intro h; have : s.data.toList.length = 0 := by rw [h]; rfl
    simpa using this
  · intro h; exact List.length_eq_zero_iff.1 (by simpa using h)
/-! ### shape -/
theorem shape_kind (t : PT) (n : Nat) : (t.fmt = 3 ∧ shapeB n t = (decide (t.F.length = 0) && decide (t.B.size ≤ 200))) ∨ (t.fmt ≠ 3 ∧ (t.fmt = 1 ∨ t.fmt = 2) ∧ shapeB n t = (decide (t.B.size = 0) && (decide (t.F.length ≤ 60) && fldsB n t.F))) ∨ (t.fmt ≠ 3 ∧ t.fmt ≠ 1 ∧ t.fmt ≠ 2 ∧ shapeB n t = false) := by
  unfold shapeB
  by_cases h3 : t.fmt = 3
  · left; exact ⟨h3, by rw [if_pos h3]⟩
  · by_cases h1 : t.fmt = 1 ∨ t.fmt = 2
    · right; left; exact ⟨h3, h1, by rw [if_neg h3, if_pos h1]⟩
    · right; right; exact ⟨h3, fun e => h1 (.inl e), fun e => h1 (.inr e), by rw [if_neg h3, if_neg h1]⟩
set_option maxRecDepth 100000 in
set_option maxHeartbeats 2000000 in
theorem shape (h : WorldAt w x W) {t : PT} {vF : Value} (hv : ValsAt w vF t.F) (hB : t.B.size ≤ maxLen) : Calls Try.prog 112 #[.agg (cellsW W x), thingV t vF] w fun e w' => e = .returned (.bool (shapeB W.L.length t)) ∧ Ext w w' := by
  have HH := Lib.hid h
  have HV := Lib.hid hv
  obtain ⟨vL, fs, vD, vRe, vWa, vDu, vSn⟩ := x
  obtain ⟨A, c, rfl, l1, l2⟩ := Row.form hv
  have SK := shape_kind t W.L.length
  clear h hv
  unfold thingV cellsW
  unfold maxLen at hB
  rcases SK with ⟨f3, E⟩ | ⟨f3, f12, E⟩ | ⟨f3, f1, f2, E⟩
  · replace E := Lib.hid E
    rw [f3]
    clear f3
    generalize t.F.length = n at *
    by_cases h0 : n = 0
    · subst h0
      go_enter Try.func112, Try.ntmps112
      go_wp2
      go_ret
      exact ⟨ret_bool (by rw [E.out]; simp only [decide_true, Bool.true_and]; exact decide_eq_decide.2 (by omega)), ((Ext.refl _).alloc _).alloc _⟩
    · have d0 : ((n : Int) == 0) = false := beq_eq_false_iff_ne.2 (by omega)
      go_enter Try.func112, Try.ntmps112
      go_wp2
      go_ret
      exact ⟨ret_bool (by rw [E.out, decide_eq_false h0]; rfl), ((Ext.refl _).alloc _).alloc _⟩
  · replace E := Lib.hid E
    have d3 : (t.fmt == 3) = false := beq_eq_false_iff_ne.2 f3
    have C := Lib.hid (fun (w' : World) (e : Ext w w') (wb : Nat) (B : Box w' wb W ⟨vL, fs, vD, vRe, vWa, vDu, vSn⟩) => containsV (HV.out.ext e) 122 (fun _ _ => by kernel_rfl) (.pointer (some ⟨wb, 0, none⟩)) (fun j => !fldB W.L.length (vAt t.F j)) (fun i hi w'' e' => shape1 ((HH.out.ext e).ext e') (B.ext e') (vAt t.F i)))
    have hE := emp_size t.B
    have EF : Hid (fldsB W.L.length t.F = allTo (fun j => !!fldB W.L.length (vAt t.F j)) t.F.length) := Lib.hid (by unfold fldsB; simp only [Bool.not_not])
    generalize t.F.length = n at *
    by_cases hB0 : t.B.size = 0
    · rw [decide_eq_true hB0] at hE E
      by_cases h60 : n ≤ 60
      · rw [decide_eq_true h60] at E
        rcases f12 with f | f
        all_goals
          rw [f]
          rw [f] at d3
          clear f3 hB0
          go_enter Try.func112, Try.ntmps112
          go_wp2_with fail
          refine (C.out _ (((Ext.refl _).alloc _).alloc _) w.heap.size ((Blk.new _ _ _).alloc _)).mono ?_
          rintro e w1 ⟨rfl, x1⟩
          have X1 := Lib.hid ((((Ext.refl w).alloc _).alloc _).trans x1)
          clear x1
          generalize hq : allTo (fun j => !!fldB W.L.length (vAt t.F j)) n = q at *
          clear hq
          go_wp2_with fail
          go_ret
          exact ⟨ret_bool (by rw [E.out, EF.out]; simp), X1.out⟩
      · have E2 : Hid (shapeB W.L.length t = false) := Lib.hid (by rw [E.out, decide_eq_false h60]; rfl)
        have d60 : decide ((n : Int) ≤ 60) = false := decide_eq_false (by omega)
        rcases f12 with f | f
        all_goals
          rw [f]
          rw [f] at d3
          clear f3 hB0
          go_enter Try.func112, Try.ntmps112
          go_wp2
          go_ret
          exact ⟨ret_bool (by rw [E2.out]), ((Ext.refl _).alloc _).alloc _⟩
    · rw [decide_eq_false hB0] at hE E
      rcases f12 with f | f
      all_goals
        rw [f]
        rw [f] at d3
        clear f3 hB0
        go_enter Try.func112, Try.ntmps112
        go_wp2
        go_ret
        exact ⟨ret_bool (by rw [E.out]; rfl), ((Ext.refl _).alloc _).alloc _⟩
  · replace E := Lib.hid E
    have d3 : (t.fmt == 3) = false := beq_eq_false_iff_ne.2 f3
    have d1 : (t.fmt == 1) = false := beq_eq_false_iff_ne.2 f1
    have d2 : (t.fmt == 2) = false := beq_eq_false_iff_ne.2 f2
    clear f3 f1 f2
    go_enter Try.func112, Try.ntmps112
    go_wp2
    go_ret
    exact ⟨ret_bool (by rw [E.out]), ((Ext.refl _).alloc _).alloc _⟩
end
end Go.Proofs.Ytadhkmplhgcgkaa.World
