/-
  Bytes2, Bytes3, PutPlain, as one text (a claim has at most 60 files).
-/
import Derived.Test.YtjpalcejmloocaaGreatVq22
import Derived.Test.YtjpalcejmloocaaGreatVq28
namespace Go.Proofs.YtjpalcejmloocaaGreat.World
open Go.RowKit Go.Proofs.YtjpalcejmloocaaGreat.Plain
set_option linter.unusedVariables false
attribute [local go_sem ↓] Go.wp_at_zero Go.wp_at_succ
theorem KT.trans {ts : List TypeId} {a b c : World} (h : KT ts a b) (k : KT ts b c) : KT ts a c :=
  ⟨k.os.trans h.os, k.tape.trans h.tape, k.output.trans h.output, Nat.le_trans h.size k.size, fun i hi hn => by
    have e := h.block i hi hn
    rw [k.block i (Nat.lt_of_lt_of_le hi h.size) (fun q => hn (by
      obtain ⟨t, cs, ht, hb⟩ := q
      refine ⟨t, cs, ht, ?_⟩
      have hb' : b.heap[i]? = _ := hb
      rw [e] at hb'
      exact hb'))]
    exact e⟩
theorem b4_len (n : Int) : (b4 n).length = 4 := rfl
theorem flat4_len (l : List Int) : (l.flatMap b4).length = 4 * l.length := by
  induction l with
  | nil => rfl
  | cons a l ih => rw [List.flatMap_cons, List.length_append, ih, b4_len, List.length_cons]; omega
theorem flat4_take (l : List Int) (k : Nat) (hk : k < l.length) : (l.take (k + 1)).flatMap b4 = (l.take k).flatMap b4 ++ b4 (l.getD k 0) := by
  rw [List.take_succ_eq_append_getElem hk, List.flatMap_append, List.getD_eq_getElem?_getD, List.getElem?_eq_getElem hk]
  simp
/-- a list's bytes -/
def encL (l : List Int) : List Int := b4 l.length ++ l.flatMap b4
def valW (u : PV) : Int := if u.obj = true then refW u.n else intW u.n
section
variable {w w0 : World}
theorem number' {v : Value} {zs : List Int} (h : OwnB w w0.heap.size v zs) {m : Nat} (hm : zs.length = m) (hz : m ≤ 10000000) (x0 : Ext w0 w) {n : Int} (n0 : 0 ≤ n) (n1 : n < 4294967296) :
    Calls Tryz.prog 314 #[v, .int .u32 n] w fun e w' => ∃ A c, e = .returned (.slice A (m + 4) c) ∧ OwnB w' w0.heap.size (.slice A (m + 4) c) (zs ++ b4 n) ∧ KT [5] w w' ∧ Ext w0 w' := by
  subst hm
  exact number h hz x0 rfl n0 n1
set_option maxRecDepth 100000 in
set_option maxHeartbeats 2000000 in
theorem numbers {v vl : Value} {zs l : List Int} (h : OwnB w w0.heap.size v zs) (hz : zs.length + 4 * l.length ≤ 5000000) (x0 : Ext w0 w) (hl : IntsAt w0 vl l) (hn : ∀ j, j < l.length → 0 ≤ l.getD j 0 ∧ l.getD j 0 < 4294967296) :
    Calls Tryz.prog 316 #[v, vl] w fun e w' => ∃ A c n, e = .returned (.slice A n c) ∧ OwnB w' w0.heap.size (.slice A n c) (zs ++ encL l) ∧ n = zs.length + 4 + 4 * l.length ∧ KT [5] w w' ∧ Ext w0 w' := by
  obtain ⟨A0, c0, rfl⟩ := h.form
  obtain ⟨Al, cl, e1, l1, l2⟩ := Row.form hl
  replace e1 : vl = .slice Al l.length cl := e1
  subst e1
  have HI : Hid (∀ W, Ext w0 W → ∀ j, j < l.length → ∃ b off, Al = some ⟨b, off, none⟩ ∧ b < W.heap.size ∧ W.cell? ⟨b, off + j, none⟩ = some (.int .i64 (l.getD j 0))) := Lib.hid (fun W y j hj => by
    obtain ⟨b, off, e, hb, hc⟩ := Row.at_ (hl.ext y) j hj
    have c := hc 0 (by omega)
    exact ⟨b, off, e, hb, by simpa using c⟩)
  have HN := Lib.hid hn
  have HH := Lib.hid h
  have X0 := Lib.hid x0
  have HF := Lib.hid (flat4_take l)
  have LF := Lib.hid (fun k => flat4_len (l.take k))
  generalize hm : zs.length = m at *
  have HM := Lib.hid hm
  clear h x0 hl hn hm
  go_enter Tryz.func316, Tryz.ntmps316
  go_wp2_with (go_at_call 314; refine (number' HH.out HM.out (by omega) X0.out (by omega) (by omega)).mono ?_; rintro e w2 ⟨A2, c2, rfl, o2, k2, x2⟩; have O2 := Lib.hid o2; have K2 := Lib.hid k2; have X2 := Lib.hid x2; clear o2 k2 x2)
  go_loopw [0, 6, 14] (fun u0 u6 iv wr => ∃ (i : Nat) (A : Option Addr) (c n : Nat), i ≤ l.length ∧ iv = .int .i64 i ∧ u0 = .slice A n c ∧ n = m + 4 + 4 * i ∧ OwnB wr w0.heap.size (.slice A n c) (zs ++ b4 l.length ++ (l.take i).flatMap b4) ∧ KT [5] w wr ∧ Ext w0 wr) (fun _ _ iv _ => l.length - (intOf iv).toNat)
  case atStart => exact ⟨0, A2, c2, _, Nat.zero_le _, rfl, rfl, rfl, by rw [List.take_zero]; simpa using O2.out, K2.out, X2.out⟩
  case round =>
    obtain ⟨i, A, c, n, hi, rfl, rfl, hn, o, k, x⟩ := hrel
    have O := Lib.hid o
    have K := Lib.hid k
    have X := Lib.hid x
    have NH := Lib.hid hn
    by_cases hlt : i < l.length
    · have iI : (i : Int) < (l.length : Int) := by omega
      obtain ⟨b, off, rfl, hb, cI⟩ := HI.out wr x i hlt
      obtain ⟨y0, y1⟩ := HN.out i hlt
      have FI := Lib.hid (HF.out i hlt)
      have LO : Hid ((zs ++ b4 (l.length : Int) ++ (l.take i).flatMap b4).length = n) := Lib.hid (by
        rw [List.length_append, List.length_append, LF.out, b4_len, HM.out, List.length_take, NH.out]; omega)
      generalize l.getD i 0 = y at *
      have hn5 : n ≤ 10000000 := by omega
      clear o k x hn
      go_wp2_with (go_at_call 314; refine (number' O.out LO.out hn5 X.out y0 y1).mono ?_; rintro e w3 ⟨A3, c3, rfl, o3, k3, x3⟩; have O3 := Lib.hid o3; have K3 := Lib.hid (KT.trans K.out k3); have X3 := Lib.hid x3; clear o3 k3 x3)
      go_roundw
      case rel => exact ⟨i + 1, A3, c3, _, by omega, by go_num, rfl, by rw [NH.out]; omega, by rw [FI.out, ← List.append_assoc]; exact O3.out, K3.out, X3.out⟩
      case measure => simp [intOf]; omega
    · obtain rfl : i = l.length := by omega
      clear o k x hn
      go_wp2_with fail
      go_ret
      refine ⟨_, _, _, rfl, ?_, NH.out, K.out, X.out⟩
      have q := O.out
      rw [List.take_length, List.append_assoc] at q
      exact q
/-- bytes of the call's own beside a box -/
structure NB (w0 ws : World) (v : Value) (zs : List Int) (m q : Nat) (T : TypeId) (cs : Array Value) (w : World) : Prop where
  own : OwnB w w0.heap.size v zs
  len : zs.length = m
  x : Ext w0 w
  k : KT [5] ws w
  b : Blk w q T cs
  ne : T ≠ 5
theorem NB.ext {w0 ws w w' : World} {v : Value} {zs : List Int} {m q : Nat} {T : TypeId} {cs : Array Value} (h : NB w0 ws v zs m q T cs w) (y : Ext w w') : NB w0 ws v zs m q T cs w' :=
  ⟨h.own.ext y, h.len, h.x.trans y, Keep.ext h.k y, h.b.ext y, h.ne⟩
/-- another row behind it, all else as it was -/
theorem NB.next {w0 ws w w' : World} {v v' : Value} {zs zs' : List Int} {m m' q : Nat} {T : TypeId} {cs : Array Value} (h : NB w0 ws v zs m q T cs w) (o : OwnB w' w0.heap.size v' zs') (l : zs'.length = m') (x : Ext w0 w') (k : KT [5] w w') : NB w0 ws v' zs' m' q T cs w' :=
  ⟨o, l, x, KT.trans h.k k, blk_kt h.b k (by simpa using h.ne), h.ne⟩
end
end Go.Proofs.YtjpalcejmloocaaGreat.World
namespace Go.Proofs.YtjpalcejmloocaaGreat.World
open Go.RowKit Go.Proofs.YtjpalcejmloocaaGreat.Plain
set_option linter.unusedVariables false
attribute [local go_sem ↓] Go.wp_at_zero Go.wp_at_succ
def kindT (t : PT) : Int := t.fmt + (if t.fin = true then 4 else 0)
def bytesI (s : ByteArray) : List Int := s.data.toList.map (fun b => (b.toNat : Int))
theorem bytesI_len (s : ByteArray) : (bytesI s).length = s.size := by unfold bytesI; rw [List.length_map, Array.length_toList]; rfl
/-- a thing's bytes -/
def encT (t : PT) : List Int := b4 t.cls ++ b4 (kindT t) ++ b4 t.hash ++ (if t.fmt = 3 then b4 t.B.size ++ bytesI t.B else b4 t.F.length ++ t.F.flatMap (fun u => b4 (valW u)))
theorem flatV_len (l : List PV) : (l.flatMap (fun u => b4 (valW u))).length = 4 * l.length := by
  induction l with
  | nil => rfl
  | cons a l ih => rw [List.flatMap_cons, List.length_append, ih, b4_len, List.length_cons]; omega
theorem flatV_take (l : List PV) (k : Nat) (hk : k < l.length) : (l.take (k + 1)).flatMap (fun u => b4 (valW u)) = (l.take k).flatMap (fun u => b4 (valW u)) ++ b4 (valW (vAt l k)) := by
  unfold vAt
  rw [List.take_succ_eq_append_getElem hk, List.flatMap_append, List.getD_eq_getElem?_getD, List.getElem?_eq_getElem hk]
  simp
/-- a thing that is put -/
structure PutOk (t : PT) : Prop where
  cls : 0 ≤ t.cls ∧ t.cls ≤ 100000
  hash : 0 ≤ t.hash ∧ t.hash ≤ 100000
  fmt : 1 ≤ t.fmt ∧ t.fmt ≤ 3
  B : t.B.size ≤ 100000
  F : t.F.length ≤ 100000
  n : ∀ k, k < t.F.length → in64 (vAt t.F k).n
section
variable {w w0 : World}
end
end Go.Proofs.YtjpalcejmloocaaGreat.World
namespace Go.Proofs.YtjpalcejmloocaaGreat.World
open Go.RowKit Go.Proofs.YtjpalcejmloocaaGreat.Plain
set_option linter.unusedVariables false
def encWt (p : Int × Int) : List Int := b4 p.1 ++ b4 p.2
/-- a world's bytes -/
def encW (W : PW) : List Int := [67, 81, 49] ++ b4 W.L.length ++ W.L.flatMap encT ++ b4 W.R.proc ++ b4 W.R.frame ++ encL W.R.ready ++ b4 W.R.wait.length ++ W.R.wait.flatMap encWt ++ encL W.R.due ++ b4 W.last
/-- what Put answers: what is wrong, and the bytes -/
def putS (W : PW) : Int × List Int := if (!checkB W || W.dead.contains true) = true then (1, []) else if 65536 < (encW W).length then (2, []) else (0, encW W)
theorem prev_nonneg {W : PW} (hc : checkB W = true) (i : Nat) (hi : i ≤ W.L.length) : 0 ≤ prevH W.L i := by
  have h := hc
  unfold checkB at h
  simp only [Bool.and_eq_true] at h
  have t := h.2.2.1
  unfold thingsB at t
  rw [Bool.and_eq_true, allTo_iff] at t
  induction i with
  | zero => exact Int.le_refl _
  | succ i ih =>
    have o := t.1 i (by omega)
    unfold oneB at o
    simp only [Bool.and_eq_true, decide_eq_true_eq] at o
    have := ih (by omega)
    show 0 ≤ (tAt W.L i).hash
    omega
theorem last_in {W : PW} (hc : checkB W = true) : 0 ≤ W.last ∧ W.last ≤ 3000 := by
  have h := hc
  unfold checkB at h
  simp only [Bool.and_eq_true] at h
  have t := h.2.2.1
  unfold thingsB at t
  simp only [Bool.and_eq_true, decide_eq_true_eq] at t
  have := prev_nonneg hc W.L.length (Nat.le_refl _)
  omega
theorem hash_in {W : PW} (hc : checkB W = true) {i : Nat} (hi : i < W.L.length) : 0 ≤ (tAt W.L i).hash ∧ (tAt W.L i).hash ≤ 3000 := by
  have p := prev_nonneg hc (i + 1) hi
  have h := hc
  unfold checkB at h
  simp only [Bool.and_eq_true] at h
  have t := h.2.2.1
  unfold thingsB at t
  rw [Bool.and_eq_true, allTo_iff] at t
  have o := t.1 i hi
  unfold oneB at o
  simp only [Bool.and_eq_true, decide_eq_true_eq] at o
  exact ⟨p, o.2.1⟩
theorem put_ok {W : PW} (hc : checkB W = true) (hn : Nums W) {i : Nat} (hi : i < W.L.length) : PutOk (tAt W.L i) ∧ (encT (tAt W.L i)).length ≤ 300 := by
  obtain ⟨⟨c1, c2⟩, s⟩ := check_thing hc hi
  have hN := check_len hc
  obtain ⟨h1, h2⟩ := hash_in hc hi
  have nf := (hn.things _ (tAt_mem hi)).2.2.2.2
  have nn : ∀ k, k < (tAt W.L i).F.length → in64 (vAt (tAt W.L i).F k).n := fun k hk => nf _ (by
    unfold vAt
    rw [List.getD_eq_getElem?_getD, List.getElem?_eq_getElem hk]
    exact List.getElem_mem hk)
  have E : (encT (tAt W.L i)).length = 12 + (if (tAt W.L i).fmt = 3 then 4 + (tAt W.L i).B.size else 4 + 4 * (tAt W.L i).F.length) := by
    unfold encT
    split
    · simp only [List.length_append, b4_len, bytesI_len]
    · simp only [List.length_append, b4_len, flatV_len]
  unfold shapeB at s
  split at s
  · rename_i h3
    simp only [Bool.and_eq_true, decide_eq_true_eq] at s
    refine ⟨⟨⟨c1, by omega⟩, ⟨h1, by omega⟩, by omega, by omega, by omega, nn⟩, ?_⟩
    rw [E, if_pos h3]; omega
  · rename_i h3
    split at s
    · rename_i h12
      simp only [Bool.and_eq_true, decide_eq_true_eq] at s
      refine ⟨⟨⟨c1, by omega⟩, ⟨h1, by omega⟩, by omega, by omega, by omega, nn⟩, ?_⟩
      rw [E, if_neg h3]; omega
    · cases s
theorem flatT_take (l : List PT) (k : Nat) (hk : k < l.length) : (l.take (k + 1)).flatMap encT = (l.take k).flatMap encT ++ encT (tAt l k) := by
  unfold tAt
  rw [List.take_succ_eq_append_getElem hk, List.flatMap_append, List.getD_eq_getElem?_getD, List.getElem?_eq_getElem hk]
  simp
theorem flatP_take (l : List (Int × Int)) (k : Nat) (hk : k < l.length) : (l.take (k + 1)).flatMap encWt = (l.take k).flatMap encWt ++ b4 (wAt l k).1 ++ b4 (wAt l k).2 := by
  unfold wAt
  rw [List.take_succ_eq_append_getElem hk, List.flatMap_append, List.getD_eq_getElem?_getD, List.getElem?_eq_getElem hk, List.append_assoc]
  simp [encWt]
section
variable {w w0 : World}
/-! ### slices.Contains of truths -/
set_option maxRecDepth 100000 in
set_option maxHeartbeats 1000000 in
theorem indexBool {l : List Bool} {v : Value} (hv : BoolsAt w v l) : Calls Tryz.prog 119 #[v, .bool true] w (IdxPost w l.length (fun j => l.getD j false)) := by
  obtain ⟨A, c, rfl, h1, h2⟩ := Row.form hv
  have hv : Row w (.slice A l.length c) l.length 1 (fun i _ => .bool (l.getD i false)) := hv
  have HR := Lib.hid hv
  have AF := Lib.hid (allTo_false (fun j => !l.getD j false) l.length)
  have AS := Lib.hid (allTo_succ (fun j => !l.getD j false))
  clear hv
  generalize hn : l.length = n at *
  clear hn
  go_enter Tryz.func119, Tryz.ntmps119
  go_wp2
  go_loopw [8] (fun iv wr => ∃ i : Nat, i ≤ n ∧ iv = .int .i64 i ∧ allTo (fun j => !l.getD j false) i = true ∧ w = wr) (fun iv _ => n - (intOf iv).toNat)
  case atStart => exact ⟨0, Nat.zero_le _, rfl, rfl, rfl⟩
  case round =>
    obtain ⟨i, hi, rfl, ha, rfl⟩ := hrel
    have HA := Lib.hid ha
    clear ha
    by_cases hlt : i < n
    · obtain ⟨b, off, rfl, hb, hc⟩ := Row.at_ HR.out i hlt
      have c0 : w.cell? ⟨b, off + i * 1, none⟩ = some (.bool (l.getD i false)) := hc 0 (by omega)
      rw [Nat.mul_one] at c0
      have iI : (i : Int) < (n : Int) := by omega
      have AFi := Lib.hid (AF.out i hlt)
      have ASi := Lib.hid (AS.out i HA.out)
      clear hc
      generalize l.getD i false = y at *
      cases y with
      | true =>
        have AN := Lib.hid (AFi.out rfl)
        go_wp2
        go_ret
        exact ⟨_, rfl, .inr ⟨AN.out, by omega, by omega⟩, Ext.refl _⟩
      | false =>
        have AN := Lib.hid (ASi.out rfl)
        go_wp2
        go_roundw
        case rel => exact ⟨i + 1, by omega, by go_num, AN.out, trivial⟩
        case measure => simp [intOf]; omega
    · obtain rfl : i = n := by omega
      go_wp2
      go_ret
      exact ⟨_, rfl, .inl ⟨HA.out, rfl⟩, Ext.refl _⟩
theorem hasB_all (l : List Bool) : (!allTo (fun j => !l.getD j false) l.length) = l.contains true := by
  rw [Bool.eq_iff_iff, Bool.not_eq_true', ← Bool.not_eq_true, allTo_iff, List.contains_iff_mem]
  constructor
  · intro h
    refine Classical.byContradiction fun hn => h fun i hi => ?_
    cases e : l.getD i false with
    | false => rfl
    | true =>
      exfalso; apply hn
      rw [List.getD_eq_getElem?_getD, List.getElem?_eq_getElem hi] at e
      have e2 : l[i] = true := e
      rw [← e2]; exact List.getElem_mem hi
  · intro hm h
    obtain ⟨i, hi, e⟩ := List.getElem_of_mem hm
    have := h i hi
    rw [List.getD_eq_getElem?_getD, List.getElem?_eq_getElem hi, e] at this
    cases this
set_option maxRecDepth 100000 in
set_option maxHeartbeats 1000000 in
theorem containsBool {l : List Bool} {v : Value} (hv : BoolsAt w v l) : Calls Tryz.prog 97 #[v, .bool true] w fun e w' => e = .returned (.bool (l.contains true)) ∧ Ext w w' := by
  have C := Lib.hid (indexBool hv)
  have E := hasB_all l
  clear hv
  go_enter Tryz.func97, Tryz.ntmps97
  go_wp2_with fail
  refine C.out.mono ?_
  rintro e w2 ⟨r, rfl, hr, x⟩
  have X := Lib.hid x
  have HE := Lib.hid E
  clear E x
  rcases hr with ⟨h1, rfl⟩ | ⟨h1, h2, h3⟩
  · have H1 := Lib.hid h1
    clear h1
    go_wp2_with fail
    go_ret
    exact ⟨ret_bool (by rw [← HE.out, H1.out]; rfl), X.out⟩
  · have H1 := Lib.hid h1
    clear h1 h3
    go_wp2_with fail
    go_ret
    exact ⟨ret_bool (by rw [← HE.out, H1.out]; rfl), X.out⟩
end
end Go.Proofs.YtjpalcejmloocaaGreat.World
