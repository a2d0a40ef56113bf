/-
  PutPlain, GetPlain, as one text (a claim has at most 60 files).
-/
import Derived.Test.YtadhkmplhgcgkaaMc27
import Derived.Test.YtadhkmplhgcgkaaMc19
import Derived.Test.YtadhkmplhgcgkaaMc28
namespace Go.Proofs.Ytadhkmplhgcgkaa.World
open Go.RowKit Go.Proofs.Ytadhkmplhgcgkaa.Plain
set_option linter.unusedVariables false
def encWt (p : Int × Int) : List Int := b4 p.1 ++ b4 p.2
/-- a world's bytes -/
def encW (W : PW) : List Int := [67, 81, 49] ++ b4 W.L.length ++ W.L.flatMap encT ++ b4 W.R.proc ++ b4 W.R.frame ++ encL W.R.ready ++ b4 W.R.wait.length ++ W.R.wait.flatMap encWt ++ encL W.R.due ++ b4 W.last
/-- what Put answers: what is wrong, and the bytes -/
def putS (W : PW) : Int × List Int := if (!checkB W || W.dead.contains true) = true then (1, []) else if 65536 < (encW W).length then (2, []) else (0, encW W)
theorem prev_nonneg {W : PW} (hc : checkB W = true) (i : Nat) (hi : i ≤ W.L.length) : 0 ≤ prevH W.L i := by
  have h := hc
  unfold checkB at h
  simp only [Bool.and_eq_true] at h
  have t := h.2.2.1
  unfold thingsB at t
  rw [Bool.and_eq_true, allTo_iff] at t
  induction i with
  | zero => exact Int.le_refl _
  | succ i ih =>
    have o := t.1 i (by omega)
    unfold oneB at o
    simp only [Bool.and_eq_true, decide_eq_true_eq] at o
    have := ih (by omega)
    show 0 ≤ (tAt W.L i).hash
    omega
theorem last_in {W : PW} (hc : checkB W = true) : 0 ≤ W.last ∧ W.last ≤ 3000 := by
  have h := hc
  unfold checkB at h
  simp only [Bool.and_eq_true] at h
  have t := h.2.2.1
  unfold thingsB at t
  simp only [Bool.and_eq_true, decide_eq_true_eq] at t
  have := prev_nonneg hc W.L.length (Nat.le_refl _)
  omega
theorem hash_in {W : PW} (hc : checkB W = true) {i : Nat} (hi : i < W.L.length) : 0 ≤ (tAt W.L i).hash ∧ (tAt W.L i).hash ≤ 3000 := by
  have p := prev_nonneg hc (i + 1) hi
  have h := hc
  unfold checkB at h
  simp only [Bool.and_eq_true] at h
  have t := h.2.2.1
  unfold thingsB at t
  rw [Bool.and_eq_true, allTo_iff] at t
  have o := t.1 i hi
  unfold oneB at o
  simp only [Bool.and_eq_true, decide_eq_true_eq] at o
  exact ⟨p, o.2.1⟩
theorem put_ok {W : PW} (hc : checkB W = true) (hn : Nums W) {i : Nat} (hi : i < W.L.length) : PutOk (tAt W.L i) ∧ (encT (tAt W.L i)).length ≤ 300 := by
  obtain ⟨⟨c1, c2⟩, s⟩ := check_thing hc hi
  have hN := check_len hc
  obtain ⟨h1, h2⟩ := hash_in hc hi
  have nf := (hn.things _ (tAt_mem hi)).2.2.2.2
  have nn : ∀ k, k < (tAt W.L i).F.length → in64 (vAt (tAt W.L i).F k).n := fun k hk => nf _ (by
    unfold vAt
    rw [List.getD_eq_getElem?_getD, List.getElem?_eq_getElem hk]
    exact List.getElem_mem hk)
  have E : (encT (tAt W.L i)).length = 12 + (if (tAt W.L i).fmt = 3 then 4 + (tAt W.L i).B.size else 4 + 4 * (tAt W.L i).F.length) := by
    unfold encT
    split
    · simp only [List.length_append, b4_len, bytesI_len]
    · simp only [List.length_append, b4_len, flatV_len]
  unfold shapeB at s
  split at s
  · rename_i h3
    simp only [Bool.and_eq_true, decide_eq_true_eq] at s
    refine ⟨⟨⟨c1, by omega⟩, ⟨h1, by omega⟩, by omega, by omega, by omega, nn⟩, ?_⟩
    rw [E, if_pos h3]; omega
  · rename_i h3
    split at s
    · rename_i h12
      simp only [Bool.and_eq_true, decide_eq_true_eq] at s
      refine ⟨⟨⟨c1, by omega⟩, ⟨h1, by omega⟩, by omega, by omega, by omega, nn⟩, ?_⟩
      rw [E, if_neg h3]; omega
    · cases s
theorem flatT_take (l : List PT) (k : Nat) (hk : k < l.length) : (l.take (k + 1)).flatMap encT = (l.take k).flatMap encT ++ encT (tAt l k) := by
  unfold tAt
  rw [List.take_succ_eq_append_getElem hk, List.flatMap_append, List.getD_eq_getElem?_getD, List.getElem?_eq_getElem hk]
  simp
theorem flatP_take (l : List (Int × Int)) (k : Nat) (hk : k < l.length) : (l.take (k + 1)).flatMap encWt = (l.take k).flatMap encWt ++ b4 (wAt l k).1 ++ b4 (wAt l k).2 := by
  unfold wAt
  rw [List.take_succ_eq_append_getElem hk, List.flatMap_append, List.getD_eq_getElem?_getD, List.getElem?_eq_getElem hk, List.append_assoc]
  simp [encWt]
section
variable {w w0 : World}
theorem putNB {ws : World} {v vF : Value} {zs : List Int} {m q : Nat} {T : TypeId} {cs : Array Value} {t : PT} (h : NB w0 ws v zs m q T cs w) (hz : m ≤ 5000000) (hF : ValsAt w0 vF t.F) (ok : PutOk t) :
    Calls Try.prog 41 #[v, .agg (aggT t vF)] w fun e w' => ∃ A c n, e = .returned (.slice A n c) ∧ NB w0 ws (.slice A n c) (zs ++ encT t) n q T cs w' ∧ n = m + (encT t).length := by
  refine (putT h.own h.len hz h.x hF ok).mono ?_
  rintro e w' ⟨A, c, n, rfl, o, l, k, x⟩
  exact ⟨A, c, n, rfl, h.next o l x k, by rw [← l, List.length_append, h.len]⟩
theorem NB.here {ws : World} {v : Value} {zs : List Int} {m q : Nat} {T : TypeId} {cs : Array Value} (h : NB w0 ws v zs m q T cs w) : NB w0 w v zs m q T cs w := ⟨h.own, h.len, h.x, Keep.refl _ _, h.b, h.ne⟩
/-! ### slices.Contains of truths -/
set_option maxRecDepth 100000 in
set_option maxHeartbeats 1000000 in
theorem indexBool {l : List Bool} {v : Value} (hv : BoolsAt w v l) : Calls Try.prog 83 #[v, .bool true] w (IdxPost w l.length (fun j => l.getD j false)) := by
  obtain ⟨A, c, rfl, h1, h2⟩ := Row.form hv
  have hv : Row w (.slice A l.length c) l.length 1 (fun i _ => .bool (l.getD i false)) := hv
  have HR := Lib.hid hv
  have AF := Lib.hid (allTo_false (fun j => !l.getD j false) l.length)
  have AS := Lib.hid (allTo_succ (fun j => !l.getD j false))
  clear hv
  generalize hn : l.length = n at *
  clear hn
  go_enter Try.func83, Try.ntmps83
  go_wp2
  go_loopw [8] (fun iv wr => ∃ i : Nat, i ≤ n ∧ iv = .int .i64 i ∧ allTo (fun j => !l.getD j false) i = true ∧ w = wr) (fun iv _ => n - (intOf iv).toNat)
  case atStart => exact ⟨0, Nat.zero_le _, rfl, rfl, rfl⟩
  case round =>
    obtain ⟨i, hi, rfl, ha, rfl⟩ := hrel
    have HA := Lib.hid ha
    clear ha
    by_cases hlt : i < n
    · obtain ⟨b, off, rfl, hb, hc⟩ := Row.at_ HR.out i hlt
      have c0 : w.cell? ⟨b, off + i * 1, none⟩ = some (.bool (l.getD i false)) := hc 0 (by omega)
      rw [Nat.mul_one] at c0
      have iI : (i : Int) < (n : Int) := by omega
      have AFi := Lib.hid (AF.out i hlt)
      have ASi := Lib.hid (AS.out i HA.out)
      clear hc
      generalize l.getD i false = y at *
      cases y with
      | true =>
        have AN := Lib.hid (AFi.out rfl)
        go_wp2
        go_ret
        exact ⟨_, rfl, .inr ⟨AN.out, by omega, by omega⟩, Ext.refl _⟩
      | false =>
        have AN := Lib.hid (ASi.out rfl)
        go_wp2
        go_roundw
        case rel => exact ⟨i + 1, by omega, by go_num, AN.out, trivial⟩
        case measure => simp [intOf]; omega
    · obtain rfl : i = n := by omega
      go_wp2
      go_ret
      exact ⟨_, rfl, .inl ⟨HA.out, rfl⟩, Ext.refl _⟩
theorem hasB_all (l : List Bool) : (!allTo (fun j => !l.getD j false) l.length) = l.contains true := by
  rw [Bool.eq_iff_iff, Bool.not_eq_true', ← Bool.not_eq_true, allTo_iff, List.contains_iff_mem]
  constructor
  · intro h
    refine Classical.byContradiction fun hn => h fun i hi => ?_
    cases e : l.getD i false with
    | false => rfl
    | true =>
      exfalso; apply hn
      rw [List.getD_eq_getElem?_getD, List.getElem?_eq_getElem hi] at e
      have e2 : l[i] = true := e
      rw [← e2]; exact List.getElem_mem hi
  · intro hm h
    obtain ⟨i, hi, e⟩ := List.getElem_of_mem hm
    have := h i hi
    rw [List.getD_eq_getElem?_getD, List.getElem?_eq_getElem hi, e] at this
    cases this
set_option maxRecDepth 100000 in
set_option maxHeartbeats 1000000 in
theorem containsBool {l : List Bool} {v : Value} (hv : BoolsAt w v l) : Calls Try.prog 39 #[v, .bool true] w fun e w' => e = .returned (.bool (l.contains true)) ∧ Ext w w' := by
  have C := Lib.hid (indexBool hv)
  have E := hasB_all l
  clear hv
  go_enter Try.func39, Try.ntmps39
  go_wp2_with fail
  refine C.out.mono ?_
  rintro e w2 ⟨r, rfl, hr, x⟩
  have X := Lib.hid x
  have HE := Lib.hid E
  clear E x
  rcases hr with ⟨h1, rfl⟩ | ⟨h1, h2, h3⟩
  · have H1 := Lib.hid h1
    clear h1
    go_wp2_with fail
    go_ret
    exact ⟨ret_bool (by rw [← HE.out, H1.out]; rfl), X.out⟩
  · have H1 := Lib.hid h1
    clear h1 h3
    go_wp2_with fail
    go_ret
    exact ⟨ret_bool (by rw [← HE.out, H1.out]; rfl), X.out⟩
end
end Go.Proofs.Ytadhkmplhgcgkaa.World
namespace Go.Proofs.Ytadhkmplhgcgkaa.World
open Go.RowKit Go.Proofs.Ytadhkmplhgcgkaa.Plain
set_option linter.unusedVariables false
/-- so many things -/
def thsR : Nat → RdS → List PT × RdS
  | 0, s => ([], s)
  | k + 1, s => ((thsR k s).1 ++ [(thingR (thsR k s).2).1], (thingR (thsR k s).2).2)
/-- so many that wait -/
def waitsR : Nat → RdS → List (Int × Int) × RdS
  | 0, s => ([], s)
  | k + 1, s => ((waitsR k s).1 ++ [((numR (waitsR k s).2).1, (numR (numR (waitsR k s).2).2).1)], (numR (numR (waitsR k s).2).2).2)
/-- the world, behind the things -/
def regsG (L : List PT) (s : RdS) : PW × RdS :=
  let s1 := (numR s).2
  let s2 := (numR s1).2
  let s3 := (placesR s2).2
  let s4 := (countR 8 s3).2
  let m := (countR 8 s3).1.toNat
  let s5 := (waitsR m s4).2
  let s6 := (placesR s5).2
  (⟨L, [], (numR s6).1, ⟨(numR s).1, (numR s1).1, (placesR s2).1, (waitsR m s4).1, (placesR s5).1, ByteArray.empty, ByteArray.empty, 0, 0, []⟩⟩, (numR s6).2)
def overR (s : RdS) : RdS := if 0 < s.b.length then wrongR 4 s else s
def seenR (W : PW) (s : RdS) : RdS := if s.e = 0 ∧ checkB W = false then wrongR 5 s else s
def allG (s : RdS) : PW × RdS :=
  let s2 := (countR 1 s).2
  let n := (countR 1 s).1.toNat
  let r := regsG (thsR n s2).1 (thsR n s2).2
  (r.1, seenR r.1 (overR r.2))
def magicL : List Int := [67, 81, 49]
/-- what Get answers: what is wrong, and the world -/
def getS (b : List Int) : Int × Option PW :=
  if 65536 < b.length then (2, none)
  else if b.take (min b.length 3) ≠ magicL.take (min b.length 3) then (4, none)
  else if (allG (takeR 3 ⟨b, 0⟩).2).2.e = 0 then (0, some (allG (takeR 3 ⟨b, 0⟩).2).1) else ((allG (takeR 3 ⟨b, 0⟩).2).2.e, none)
/-! ### what is wrong first stays -/
theorem stay_wrong {x : Int} {s : RdS} (h : s.e ≠ 0) : wrongR x s = s := by unfold wrongR; rw [if_neg h]
theorem stay_take {n : Nat} {s : RdS} (h : s.e ≠ 0) : (takeR n s).2 = s := by unfold takeR; rw [if_neg h]
theorem stay_num {s : RdS} (h : s.e ≠ 0) : (numR s).2 = s := stay_take h
theorem stay_short {p : Int} {s : RdS} (h : s.e ≠ 0) : shortR p s = s := by unfold shortR; rw [stay_wrong h]; split <;> rfl
theorem stay_count {each : Int} {s : RdS} (h : s.e ≠ 0) : (countR each s).2 = s ∧ (countR each s).1 = 0 := by
  unfold countR
  rw [stay_num h, stay_short h, if_neg h]
  exact ⟨rfl, rfl⟩
theorem stay_val {s : RdS} (h : s.e ≠ 0) : (valR s).2 = s := stay_num h
theorem stay_nums : ∀ (k : Nat) {s : RdS}, s.e ≠ 0 → (numsR k s).2 = s
  | 0, _, _ => rfl
  | k + 1, s, h => by
    show (numR (numsR k s).2).2 = s
    rw [stay_nums k h]; exact stay_num h
theorem stay_vals : ∀ (k : Nat) {s : RdS}, s.e ≠ 0 → (valsR k s).2 = s
  | 0, _, _ => rfl
  | k + 1, s, h => by
    show (valR (valsR k s).2).2 = s
    rw [stay_vals k h]; exact stay_val h
theorem stay_places {s : RdS} (h : s.e ≠ 0) : (placesR s).2 = s := by
  unfold placesR
  rw [(stay_count h).1]; exact stay_nums _ h
theorem stay_kind {s : RdS} (h : s.e ≠ 0) : kindR s = s := by
  unfold kindR
  rw [stay_num h, stay_wrong h]; split <;> rfl
theorem stay_body {c k x : Int} {s : RdS} (h : s.e ≠ 0) : (bodyR c k x s).2 = s := by
  unfold bodyR
  split
  · show (takeR _ (countR 1 s).2).2 = s
    rw [(stay_count h).1]; exact stay_take h
  · show (valsR _ (countR 4 s).2).2 = s
    rw [(stay_count h).1]; exact stay_vals _ h
theorem stay_thing {s : RdS} (h : s.e ≠ 0) : (thingR s).2 = s := by
  unfold thingR restR
  rw [stay_num h, stay_kind h, stay_num h]
  exact stay_body h
theorem stay_ths (s : RdS) (k : Nat) : ∀ (j : Nat), k ≤ j → (thsR k s).2.e ≠ 0 → (thsR j s).2 = (thsR k s).2 := by
  intro j
  induction j with
  | zero =>
    intro hk h
    obtain rfl : k = 0 := by omega
    rfl
  | succ j ih =>
    intro hk h
    rcases Nat.lt_or_ge k (j + 1) with h1 | h1
    · have e := ih (by omega) h
      show (thingR (thsR j s).2).2 = _
      rw [e]; exact stay_thing h
    · obtain rfl : k = j + 1 := by omega
      rfl
theorem stay_waits : ∀ (k : Nat) {s : RdS}, s.e ≠ 0 → (waitsR k s).2 = s
  | 0, _, _ => rfl
  | k + 1, s, h => by
    show (numR (numR (waitsR k s).2).2).2 = s
    rw [stay_waits k h, stay_num h]; exact stay_num h
theorem stay_regs {L : List PT} {s : RdS} (h : s.e ≠ 0) : (regsG L s).2 = s := by
  unfold regsG
  simp only [stay_num h, stay_places h, (stay_count h).1, stay_waits _ h]
theorem stay_over {s : RdS} (h : s.e ≠ 0) : overR s = s := by unfold overR; rw [stay_wrong h]; split <;> rfl
theorem stay_seen {W : PW} {s : RdS} (h : s.e ≠ 0) : seenR W s = s := by unfold seenR; rw [if_neg (fun q => h q.1)]
/-- what is wrong with a thing is what is wrong with all -/
theorem all_wrong {s : RdS} {k : Nat} (hk : k ≤ (countR 1 s).1.toNat) (h : (thsR k (countR 1 s).2).2.e ≠ 0) : (allG s).2 = (thsR k (countR 1 s).2).2 := by
  have e := stay_ths (countR 1 s).2 k _ hk h
  unfold allG
  simp only [e, stay_regs h, stay_over h, stay_seen h]
theorem ths_len : ∀ (k : Nat) (s : RdS), (thsR k s).1.length = k
  | 0, _ => rfl
  | k + 1, s => by show ((thsR k s).1 ++ [_]).length = k + 1; rw [List.length_append, ths_len k s]; rfl
theorem waits_len : ∀ (k : Nat) (s : RdS), (waitsR k s).1.length = k
  | 0, _ => rfl
  | k + 1, s => by show ((waitsR k s).1 ++ [_]).length = k + 1; rw [List.length_append, waits_len k s]; rfl
theorem okB_thing {s : RdS} (h : okB s.b) : okB (thingR s).2.b := by
  have h4 := okB_num (okB_kind (okB_num h))
  unfold thingR bodyR restR
  split
  · exact (okB_take (okB_count h4)).2
  · exact okB_vals _ (okB_count h4)
theorem okB_ths : ∀ (k : Nat) {s : RdS}, okB s.b → okB (thsR k s).2.b
  | 0, _, h => h
  | k + 1, s, h => okB_thing (okB_ths k h)
theorem okB_waits : ∀ (k : Nat) {s : RdS}, okB s.b → okB (waitsR k s).2.b
  | 0, _, h => h
  | k + 1, s, h => okB_num (okB_num (okB_waits k h))
theorem vals_short : ∀ (k : Nat) (s : RdS), (valsR k s).2.b.length ≤ s.b.length
  | 0, _ => Nat.le_refl _
  | k + 1, s => Nat.le_trans (num_short _) (vals_short k s)
theorem kind_short (s : RdS) : (kindR s).b.length ≤ s.b.length := by unfold kindR; split; rw [wrong_b]; exact num_short _; exact num_short _
theorem thing_short (s : RdS) : (thingR s).2.b.length ≤ s.b.length := by
  have a1 := num_short s
  have a2 := kind_short (numR s).2
  have a3 := num_short (kindR (numR s).2)
  have hbody : ∀ c k x (s : RdS), (bodyR c k x s).2.b.length ≤ s.b.length := fun c k x s => by
    unfold bodyR
    split
    · exact Nat.le_trans (take_short _ _) (count_short _ _)
    · exact Nat.le_trans (vals_short _ _) (count_short _ _)
  exact Nat.le_trans (hbody _ _ _ _) (Nat.le_trans a3 (Nat.le_trans a2 a1))
theorem ths_short : ∀ (k : Nat) (s : RdS), (thsR k s).2.b.length ≤ s.b.length
  | 0, _ => Nat.le_refl _
  | k + 1, s => Nat.le_trans (thing_short _) (ths_short k s)
end Go.Proofs.Ytadhkmplhgcgkaa.World
