/-
  GetW, as one text (a claim has at most 60 files).
-/
import Derived.Test.YtjpalcejmloocaaGreatVq38
import Derived.Test.YtjpalcejmloocaaGreatVq40
import Derived.Test.YtjpalcejmloocaaGreatVq22
namespace Go.Proofs.YtjpalcejmloocaaGreat.World
open Go.RowKit Go.Proofs.YtjpalcejmloocaaGreat.Plain
set_option linter.unusedVariables false
/-- a reading, and two boxes of worlds -/
structure GB (w : World) (g q2 q4 : Nat) (s : RdS) (cs : Array Value) (W : World) : Prop where
  d : RdAt w W g s
  b2 : Blk W q2 31 zeroWc
  b4 : Blk W q4 31 cs
structure GQ (w : World) (g q2 q4 : Nat) : Prop where
  h2 : w.heap.size ≤ q2
  h4 : w.heap.size ≤ q4
  n24 : q2 ≠ q4
  n2g : q2 ≠ g
  n4g : q4 ≠ g
section
variable {w W W' : World} {g q2 q4 : Nat} {s s' : RdS} {cs : Array Value}
theorem GB.ext (h : GB w g q2 q4 s cs W) (y : Ext W W') : GB w g q2 q4 s cs W' := ⟨h.d.ext y, h.b2.ext y, h.b4.ext y⟩
theorem GB.call (h : GB w g q2 q4 s cs W) (t : GQ w g q2 q4) (d : RdAt w W' g s') (k : Keep (· = g) W W') : GB w g q2 q4 s' cs W' := ⟨d, h.b2.keep k t.n2g, h.b4.keep k t.n4g⟩
theorem GB.set (h : GB w g q2 q4 s cs W) (t : GQ w g q2 q4) (i : Nat) (u : Value) : GB w g q2 q4 s (cs.setIfInBounds i u) (W.setCell ⟨q4, i, none⟩ u) :=
  ⟨h.d.far t.n4g t.h4 i u, h.b2.far (p := ⟨q4, i, none⟩) t.n24 u, h.b4.set i u⟩
end
/-- a world as far as it is read: its slices -/
def xG (vL : Value) (fs : Nat → Value) (vr vw vd : Value) : WV := ⟨vL, fs, .slice none 0 0, vr, vw, vd, .slice none 0 0⟩
structure GW (w : World) (g q2 q4 : Nat) (s : RdS) (Wp : PW) (x : WV) (W : World) : Prop where
  B : GB w g q2 q4 s (cellsW Wp x) W
  N : NewW W w.heap.size Wp x
theorem in64_0 : in64 0 := by unfold in64; omega
theorem NewW.zero (w : World) (base : Nat) (fs : Nat → Value) : NewW w base (mkG [] 0 0 [] [] [] 0) (xG (.slice none 0 0) fs (.slice none 0 0) (.slice none 0 0) (.slice none 0 0)) :=
  ⟨World.ownsRow_nil _ _ _ _, fun i hi => absurd hi (Nat.not_lt_zero i), fun i j hi => absurd hi (Nat.not_lt_zero i), World.ownsRow_nil _ _ _ _,
    ⟨(fun k h => by cases h), World.ownsRow_nil _ _ _ _, World.ownsRow_nil _ _ _ _, World.ownsRow_nil _ _ _ _, World.ownsRow_nil _ _ _ _⟩,
    ⟨in64_0, in64_0, in64_0, in64_0, in64_0, Nat.zero_le _, Nat.zero_le _, (by simp [mkG]), (by simp [mkG]), (by simp [mkG]), (by simp [mkG]), (by simp [mkG])⟩⟩
section
variable {w W W' : World} {g q2 q4 : Nat} {s s' : RdS} {x : WV} {Wp : PW} {L : List PT} {p f la : Int} {re du : List Int} {wa : List (Int × Int)} {vL vr vw vd : Value} {fs : Nat → Value}
theorem GW.ext (h : GW w g q2 q4 s Wp x W) (y : Ext W W') : GW w g q2 q4 s Wp x W' := ⟨h.B.ext y, h.N.ext y⟩
theorem GW.call (h : GW w g q2 q4 s Wp x W) (t : GQ w g q2 q4) (d : RdAt w W' g s') (k : Keep (· = g) W W') : GW w g q2 q4 s' Wp x W' :=
  ⟨h.B.call t d k, h.N.kt (ts := [124]) (Keep.mono k (fun j e => by subst e; obtain ⟨v, b, _⟩ := h.B.d.ex; exact ⟨_, _, by simp, b⟩)) (by decide) (by decide) (by decide) (by decide) (by decide) (by decide)⟩
theorem GW.kt4 (h : GW w g q2 q4 s Wp x W) (i : Nat) (u : Value) : NewW (W.setCell ⟨q4, i, none⟩ u) w.heap.size Wp x :=
  h.N.kt (kt_set h.B.b4 i u) (by decide) (by decide) (by decide) (by decide) (by decide) (by decide)
theorem GW.setP (h : GW w g q2 q4 s (mkG L p f re wa du la) (xG vL fs vr vw vd) W) (t : GQ w g q2 q4) {n : Int} (hn : in64 n) : GW w g q2 q4 s (mkG L n f re wa du la) (xG vL fs vr vw vd) (W.setCell ⟨q4, 3, none⟩ (.int .i64 n)) := by
  have k := h.kt4 3 (.int .i64 n)
  have m := k.nums
  exact ⟨h.B.set t 3 (.int .i64 n), ⟨k.L, k.fs, k.ap, k.dead, ⟨k.R.ap, k.R.re, k.R.wa, k.R.du, k.R.sn⟩, ⟨m.last, hn, m.frame, m.how, m.exit, m.out, m.inp, m.ready, m.due, m.wait, m.snaps, m.things⟩⟩⟩
theorem GW.setF (h : GW w g q2 q4 s (mkG L p f re wa du la) (xG vL fs vr vw vd) W) (t : GQ w g q2 q4) {n : Int} (hn : in64 n) : GW w g q2 q4 s (mkG L p n re wa du la) (xG vL fs vr vw vd) (W.setCell ⟨q4, 4, none⟩ (.int .i64 n)) := by
  have k := h.kt4 4 (.int .i64 n)
  have m := k.nums
  exact ⟨h.B.set t 4 (.int .i64 n), ⟨k.L, k.fs, k.ap, k.dead, ⟨k.R.ap, k.R.re, k.R.wa, k.R.du, k.R.sn⟩, ⟨m.last, m.proc, hn, m.how, m.exit, m.out, m.inp, m.ready, m.due, m.wait, m.snaps, m.things⟩⟩⟩
theorem GW.setLa (h : GW w g q2 q4 s (mkG L p f re wa du la) (xG vL fs vr vw vd) W) (t : GQ w g q2 q4) {n : Int} (hn : in64 n) : GW w g q2 q4 s (mkG L p f re wa du n) (xG vL fs vr vw vd) (W.setCell ⟨q4, 2, none⟩ (.int .i64 n)) := by
  have k := h.kt4 2 (.int .i64 n)
  have m := k.nums
  exact ⟨h.B.set t 2 (.int .i64 n), ⟨k.L, k.fs, k.ap, k.dead, ⟨k.R.ap, k.R.re, k.R.wa, k.R.du, k.R.sn⟩, ⟨hn, m.proc, m.frame, m.how, m.exit, m.out, m.inp, m.ready, m.due, m.wait, m.snaps, m.things⟩⟩⟩
theorem GW.setRe {l : List Int} {v : Value} (h : GW w g q2 q4 s (mkG L p f re wa du la) (xG vL fs vr vw (.slice none 0 0)) W) (t : GQ w g q2 q4) (o : OwnI W w.heap.size v l) (hn : ∀ n ∈ l, in64 n) : GW w g q2 q4 s (mkG L p f l wa du la) (xG vL fs v vw (.slice none 0 0)) (W.setCell ⟨q4, 5, none⟩ v) := by
  have k := h.kt4 5 v
  have m := k.nums
  exact ⟨h.B.set t 5 v, ⟨k.L, k.fs, k.ap, k.dead, ⟨(fun j _ e => by cases e), (OwnI.own o).kt (kt_set h.B.b4 5 v) (by decide), k.R.wa, k.R.du, k.R.sn⟩, ⟨m.last, m.proc, m.frame, m.how, m.exit, m.out, m.inp, hn, m.due, m.wait, m.snaps, m.things⟩⟩⟩
theorem GW.setDu {l : List Int} {v : Value} (h : GW w g q2 q4 s (mkG L p f re wa du la) (xG vL fs vr vw vd) W) (t : GQ w g q2 q4) (o : OwnI W w.heap.size v l) (ha : Apart vr v) (hn : ∀ n ∈ l, in64 n) : GW w g q2 q4 s (mkG L p f re wa l la) (xG vL fs vr vw v) (W.setCell ⟨q4, 7, none⟩ v) := by
  have k := h.kt4 7 v
  have m := k.nums
  exact ⟨h.B.set t 7 v, ⟨k.L, k.fs, k.ap, k.dead, ⟨ha, k.R.re, k.R.wa, (OwnI.own o).kt (kt_set h.B.b4 7 v) (by decide), k.R.sn⟩, ⟨m.last, m.proc, m.frame, m.how, m.exit, m.out, m.inp, m.ready, hn, m.wait, m.snaps, m.things⟩⟩⟩
end
theorem wAt_push (A : List (Int × Int)) (u : Int × Int) (q : Nat) (hq : q < A.length + 1) : wAt (A ++ [u]) q = if q = A.length then u else wAt A q := by
  unfold wAt
  by_cases e : q = A.length
  · subst e; rw [if_pos rfl, List.getD_eq_getElem?_getD, List.getElem?_append_right (Nat.le_refl _)]; simp
  · rw [if_neg e, List.getD_eq_getElem?_getD, List.getElem?_append_left (by omega), List.getD_eq_getElem?_getD]
/-- one more that waits, in memory -/
theorem NewW.pushW {w w6 : World} {base : Nat} {L : List PT} {p f la : Int} {re du : List Int} {wa : List (Int × Int)} {x : WV} {u : Int × Int} {v' : Value} (h : NewW w base (mkG L p f re wa du la) x) (KW : Keep (fun j => x.wait.ownBlock = some j) w w6)
    (o6 : w6.ownsRow base 96 2 v' (wa.length + 1) (flat wa.length 2 (cWs wa) ++ [.int .i64 u.1, .int .i64 u.2])) (hn : in64 u.1 ∧ in64 u.2) :
    NewW w6 base (mkG L p f re (wa ++ [u]) du la) { x with wait := v' } := by
  have KT6 : KT [96] w w6 := Keep.mono KW (fun j hj => by obtain ⟨_, cs, hb⟩ := h.R.wa.block hj; exact ⟨_, _, by simp, hb⟩)
  have m := h.nums
  refine ⟨h.L.kt KT6 (by decide), fun q hq => (h.fs q hq).kt KT6 (by decide), h.ap, h.dead.kt KT6 (by decide), ⟨h.R.ap, h.R.re.kt KT6 (by decide), ?_, h.R.du.kt KT6 (by decide), h.R.sn.kt KT6 (by decide)⟩,
    ⟨m.last, m.proc, m.frame, m.how, m.exit, m.out, m.inp, m.ready, m.due, fun y hy => by
      rcases List.mem_append.1 hy with hy | hy
      · exact m.wait y hy
      · rw [List.mem_singleton.1 hy]; exact hn, m.snaps, m.things⟩⟩
  show w6.ownsRow _ _ _ v' (wa ++ [u]).length (flat (wa ++ [u]).length 2 (cWs (wa ++ [u])))
  have hl : (wa ++ [u]).length = wa.length + 1 := by simp
  have e1 : (List.range 2).map (cWs (wa ++ [u]) wa.length) = [.int .i64 u.1, .int .i64 u.2] := by
    rw [show List.range 2 = [0, 1] from rfl]
    simp only [List.map_cons, List.map_nil, cWs, cW, wAt_push wa u wa.length (by omega), if_true]
  have e2 : flat wa.length 2 (cWs (wa ++ [u])) = flat wa.length 2 (cWs wa) := flat_congr (fun i j hi => by simp only [cWs]; rw [wAt_push wa u i (by omega), if_neg (by omega)])
  rw [hl, flat_succ, e1, e2]
  exact o6
theorem OwnI.low {w : World} {b b' : Nat} {v : Value} {l : List Int} (h : OwnI w b v l) (hb : b' ≤ b) : OwnI w b' v l := OwnI.of_own (Own.base h.own hb)
theorem nums_short : ∀ (k : Nat) (s : RdS), (numsR k s).2.b.length ≤ s.b.length
  | 0, _ => Nat.le_refl _
  | k + 1, s => Nat.le_trans (num_short _) (nums_short k s)
theorem places_short (s : RdS) : (placesR s).2.b.length ≤ s.b.length := Nat.le_trans (nums_short _ _) (count_short 4 s)
theorem waits_short : ∀ (k : Nat) (s : RdS), (waitsR k s).2.b.length ≤ s.b.length
  | 0, _ => Nat.le_refl _
  | k + 1, s => Nat.le_trans (num_short _) (Nat.le_trans (num_short _) (waits_short k s))
/-! ### numbers that are read -/
theorem num64 {s : RdS} (h : okB s.b) : in64 (numR s).1 := by
  obtain ⟨a, b⟩ := numR_in h
  unfold in64; omega
theorem val64 {s : RdS} (h : okB s.b) : in64 (valR s).1.n := by
  obtain ⟨a, b⟩ := numR_in h
  unfold valR
  generalize (numR s).1 = n at *
  by_cases e : isIntB n = true
  · simp only [e, if_true]
    unfold in64 intOfW
    split
    · split <;> omega
    · omega
  · simp only [e]
    unfold in64 refOfW
    show _ ≤ (ite _ _ _ : Int) ∧ (ite _ _ _ : Int) ≤ _
    split <;> omega
theorem nums64 : ∀ (k : Nat) {s : RdS}, okB s.b → ∀ n ∈ (numsR k s).1, in64 n
  | 0, _, _ => fun n hn => by cases hn
  | k + 1, s, h => fun n hn => by
    have hn : n ∈ (numsR k s).1 ++ [(numR (numsR k s).2).1] := hn
    rcases List.mem_append.1 hn with hn | hn
    · exact nums64 k h n hn
    · rw [List.mem_singleton.1 hn]; exact num64 (okB_nums k h)
theorem vals64 : ∀ (k : Nat) {s : RdS}, okB s.b → ∀ v ∈ (valsR k s).1, in64 v.n
  | 0, _, _ => fun n hn => by cases hn
  | k + 1, s, h => fun n hn => by
    have hn : n ∈ (valsR k s).1 ++ [(valR (valsR k s).2).1] := hn
    rcases List.mem_append.1 hn with hn | hn
    · exact vals64 k h n hn
    · rw [List.mem_singleton.1 hn]; exact val64 (okB_vals k h)
theorem places64 {s : RdS} (h : okB s.b) : ∀ n ∈ (placesR s).1, in64 n := nums64 _ (okB_count h)
theorem strI_size (l : List Int) : (strI l).size = l.length := by
  have : ∀ (n : Nat) (l : List Int), l.length = n → (strI l).size = n := by
    intro n
    induction n with
    | zero => intro l h; rw [List.eq_nil_of_length_eq_zero h]; rfl
    | succ n ih =>
      intro l h
      have hne : l ≠ [] := fun e => by rw [e] at h; cases h
      rw [← List.dropLast_concat_getLast hne, strI_push, ByteArray.size_push, ih _ (by rw [List.length_dropLast, h]; rfl)]
  exact this _ l rfl
theorem take_lim (n : Nat) (s : RdS) : (takeR n s).1.length ≤ s.b.length + 4 := by
  unfold takeR
  split
  · split
    · show (s.b.take n).length ≤ _
      rw [List.length_take]; omega
    · show (List.replicate _ _).length ≤ _
      rw [List.length_replicate]; omega
  · show (List.replicate _ _).length ≤ _
    rw [List.length_replicate]; omega
theorem thing64 {s : RdS} (h : okB s.b) (hl : s.b.length ≤ 100000) : in64 (thingR s).1.cls ∧ in64 (thingR s).1.fmt ∧ in64 (thingR s).1.hash ∧ (thingR s).1.B.size ≤ maxLen ∧ ∀ v ∈ (thingR s).1.F, in64 v.n := by
  have h1 := okB_num h
  have h3 := okB_kind h1
  have h4 := okB_num h3
  have a1 := num64 h
  have a3 := num64 h3
  obtain ⟨k0, k1⟩ := numR_in h1
  have hl4 : (numR (kindR (numR s).2)).2.b.length ≤ 100000 := Nat.le_trans (num_short _) (Nat.le_trans (kind_short _) (Nat.le_trans (num_short _) hl))
  unfold thingR bodyR restR
  generalize (numR (kindR (numR s).2)).2 = s4 at *
  generalize (numR (kindR (numR s).2)).1 = hh at *
  split
  · refine ⟨a1, (by show in64 (fmtK _); unfold in64 fmtK; omega), a3, ?_, (fun v hv => by cases hv)⟩
    show (strI _).size ≤ maxLen
    rw [strI_size]
    have := take_lim (countR 1 s4).1.toNat (countR 1 s4).2
    have := count_short 1 s4
    unfold maxLen; omega
  · exact ⟨a1, by show in64 (fmtK _); unfold in64 fmtK; omega, a3, by unfold maxLen; exact Nat.zero_le _, vals64 _ (okB_count h4)⟩
end Go.Proofs.YtjpalcejmloocaaGreat.World
