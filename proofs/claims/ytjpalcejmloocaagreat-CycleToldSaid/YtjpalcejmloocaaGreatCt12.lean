/-
  Image9, as one text (a claim has at most 60 files).
-/
import Derived.Test.YtjpalcejmloocaaGreatCt11
import Derived.Laws.CopyOwn
import Derived.Deep.DeepCutAuto
namespace Go.Proofs.YtjpalcejmloocaaGreat.World
open Go.RowKit Go.Proofs.YtjpalcejmloocaaGreat.Plain
set_option linter.unusedVariables false
attribute [local go_sem ↓] Go.wp_at_zero Go.wp_at_succ

/-! ### what is kept, by the types of the blocks that turn -/
def KT (ts : List TypeId) (w w' : World) : Prop := Keep (fun k => ∃ t cs, t ∈ ts ∧ Blk w k t cs) w w'
theorem blk_kt {w w' : World} {g : Nat} {t : TypeId} {cs : Array Value} {ts : List TypeId} (h : Blk w g t cs) (k : KT ts w w') (hn : t ∉ ts) : Blk w' g t cs :=
  h.keep k (by
    rintro ⟨t', cs', ht, hb⟩
    by_cases e : t = t'
    · subst e; exact hn ht
    · exact h.ne hb e rfl)
theorem Own.kt {w w' : World} {b : Nat} {e : TypeId} {v : Value} {n sz : Nat} {c : Nat → Nat → Value} {ts : List TypeId} (h : Own w b e v n sz c) (k : KT ts w w') (hn : e ∉ ts) : Own w' b e v n sz c := by
  have h : w.ownsRow b e sz v n (flat n sz c) := h
  refine ⟨h.1, ?_⟩
  rcases h.2 with hh | ⟨g, cap, cur, e1, h1, hg, rest⟩
  · exact .inl hh
  · exact .inr ⟨g, cap, cur, e1, h1, blk_kt (show Blk w g e cur from hg) k hn, rest⟩
theorem kt_set {w : World} {g : Nat} {t : TypeId} {cs : Array Value} (h : Blk w g t cs) (i : Nat) (u : Value) : KT [t] w (w.setCell ⟨g, i, none⟩ u) :=
  (Keep.refl _ w).setCell (p := ⟨g, i, none⟩) ⟨_, _, by simp, h⟩ _
def cB (l : List Bool) : Nat → Nat → Value := fun i _ => .bool (l.getD i false)
def cF (F : List PV) : Nat → Nat → Value := fun i j => cV (vAt F i) j
def cL (L : List PT) (fs : Nat → Value) : Nat → Nat → Value := fun i j => cT (tAt L i) (fs i) j
/-- a world in new memory -/
structure NewW (w : World) (base : Nat) (W : PW) (x : WV) : Prop where
  L : Own w base 49 x.L W.L.length 6 (cL W.L x.fs)
  fs : ∀ i, i < W.L.length → Own w base 38 (x.fs i) (tAt W.L i).F.length 2 (cF (tAt W.L i).F)
  ap : ∀ i j, i < W.L.length → j < i → Apart (x.fs i) (x.fs j)
  dead : Own w base 4 x.dead W.dead.length 1 (cB W.dead)
  R : RegsNew w base W.R x.ready x.wait x.due x.snaps
  nums : Nums W
theorem NewW.at_ {w : World} {base : Nat} {W : PW} {x : WV} (h : NewW w base W x) : WorldAt w x W :=
  ⟨⟨h.L.row, fun i hi => (h.fs i hi).row⟩, h.dead.row, h.R.re.row, h.R.wa.row, h.R.du.row, h.R.sn.row, h.nums⟩
theorem infoB : (Tryz.prog.info? 4).map (fun i => (i.zero, i.size, i.bytes)) = some (some (.bool false), 1, 1) := by kernel_rfl
theorem make_bool (n : Nat) (hn : n ≤ 1000000) (w : World) : (Instr.makeSlice 24 (.int .i64 (n : Int)) (.int .i64 (n : Int))).run Tryz.prog w = .ok (.slice (some ⟨w.heap.size, 0, none⟩) n n) (w.alloc (.cells (Array.replicate n (.bool false)) 4)) := by
  obtain ⟨i0, hi, hz0, hz1, hz2⟩ := info_parts infoB
  have h := run_make (P := Tryz.prog) w 24 4 i0 (.bool false) Tryz.underlying24 hi hz0 .i64 .i64 (n : Int) (n : Int) (by omega) (by omega) (by rw [hz2]; omega) (by omega)
  rw [h]
  have e : madeCells (Value.cells (.bool false)) ((n : Int).toNat * i0.size) = Array.replicate n (.bool false) := by
    rw [hz1, Nat.mul_one, Int.toNat_natCast]
    apply Array.ext
    · simp [madeCells]
    · intro j h1 h2
      simp [madeCells, Value.cells, Nat.mod_one]
  rw [e, Int.toNat_natCast]
theorem keep_setRow (w : World) (g : Nat) (cs : Array Value) : Keep (· = g) w (w.setRow g cs) :=
  ⟨rfl, rfl, rfl, by simp [World.setRow], fun k hk hn => setRow_other w g k cs hn⟩
theorem wpList_copy_keep {P : Program} {w : World} {ops : Array Oper} {rest : List Oper} {o : Oper} {a : Act} {Q : Exit → Act → World → Prop} (hgd : o.guard = none) (d s : Operand) (dT sT : TypeId)
    (ho : o.op = .call { callee := .builtin .copy, args := #[d, s], argTypes := #[dT, sT] }) (elem : TypeId) (hu : P.underlying dT = some (.slice elem)) (hsz : (P.info? elem).map (·.size) = some 1)
    (dp sp : Option Addr) (dLen dCap sLen sCap : Nat) (hd : a.eval d = .slice dp dLen dCap) (hs : a.eval s = .slice sp sLen sCap)
    (g off : Nat) (cur : List Value) (t : TypeId) (hg : w.heap[g]? = some (.cells cur.toArray t (0, 0))) (cs : List Value) (hn : cs.length = Nat.min sLen dLen)
    (hpos : 0 < cs.length → dp = some ⟨g, off, none⟩ ∧ ∃ ad, sp = some ad ∧ ∀ j v, cs[j]? = some v → w.cell? (ad.add j) = some v)
    (hfit : off + cs.length ≤ cur.length) (h1 : ∀ v ∈ cs, v.oneCell' = true)
    (h : ∀ w', Blk w' g t (splice cur off cs).toArray → Keep (· = g) w w' → wpList P ops Q rest (a.put o.dst (goInt cs.length)) w') :
    wpList P ops Q (o :: rest) a w := by
  by_cases h0 : cs.length = 0
  · obtain rfl : cs = [] := List.eq_nil_of_length_eq_zero h0
    refine wpList_copy_nothing hgd d s dT sT ho elem hu hsz dp sp dLen dCap sLen sCap hd hs (by simpa using hn.symm) ?_
    exact h w (show _ = _ by simpa [splice] using hg) (Keep.refl _ _)
  · obtain ⟨rfl, ad, rfl, hsrc⟩ := hpos (by omega)
    refine wpList_copy_own hgd d s dT sT ho elem hu hsz g off dLen dCap ad sLen sCap hd hs cur.toArray t hg cs hn hsrc (by simpa using hfit) h1 ?_
    refine h _ ?_ (keep_setRow w g _)
    unfold Blk
    simpa [splice] using setRow_heap w g _ _ t _ hg
theorem Own.block {w : World} {b j : Nat} {e : TypeId} {v : Value} {n sz : Nat} {c : Nat → Nat → Value} (h : Own w b e v n sz c) (hj : v.ownBlock = some j) : b ≤ j ∧ ∃ cs, Blk w j e cs := by
  have h : w.ownsRow b e sz v n (flat n sz c) := h
  rcases h.2 with ⟨rfl, _⟩ | ⟨g, cap, cur, rfl, hb, hg, _⟩
  · cases hj
  · simp [Value.ownBlock] at hj
    subst hj
    exact ⟨hb, cur, hg⟩
theorem flat_succ (n sz : Nat) (c : Nat → Nat → Value) : flat (n + 1) sz c = flat n sz c ++ (List.range sz).map (c n) := by
  unfold flat
  rw [Nat.succ_mul, List.range_add, List.map_append, List.map_map]
  congr 1
  refine List.map_congr_left fun j hj => ?_
  have hj : j < sz := List.mem_range.1 hj
  show c ((n * sz + j) / sz) ((n * sz + j) % sz) = c n j
  rw [Nat.mul_comm, Nat.mul_add_div (by omega), Nat.div_eq_of_lt hj, Nat.mul_add_mod, Nat.mod_eq_of_lt hj, Nat.add_zero]
theorem flat_congr {n sz : Nat} {c c' : Nat → Nat → Value} (h : ∀ i j, i < n → c i j = c' i j) : flat n sz c = flat n sz c' := by
  unfold flat
  refine List.map_congr_left fun q hq => ?_
  have hq : q < n * sz := List.mem_range.1 hq
  exact h _ _ (Nat.div_lt_of_lt_mul (by rw [Nat.mul_comm]; exact hq))
theorem infoT : (Tryz.prog.info? 49).map (fun i => (i.zero, i.size, i.bytes)) = some (some (.agg #[.int .i64 0, .int .i64 0, .int .i64 0, .bool false, .slice none 0 0, .string ByteArray.empty]), 6, 72) := by kernel_rfl
/-- what holds behind any part of Copy's region -/
def zeroW : Array Value := #[.slice none 0 0, .slice none 0 0, .int .i64 0, .int .i64 0, .int .i64 0, .slice none 0 0, .slice none 0 0, .slice none 0 0, .string ⟨#[]⟩, .string ⟨#[]⟩, .int .i64 0, .int .i64 0, .slice none 0 0]
def cellsC (W : PW) (vL vD re wa du sn : Value) : Array Value := #[vL, vD, .int .i64 W.last, .int .i64 W.R.proc, .int .i64 W.R.frame, re, wa, du, .string W.R.out, .string W.R.inp, .int .i64 W.R.how, .int .i64 W.R.exit, sn]
def DeadNew (w : World) (base n : Nat) (v : Value) : Prop := ∃ db, v = .slice (some ⟨db, 0, none⟩) n n ∧ base ≤ db ∧ Blk w db 4 (Array.replicate n (.bool false))
structure CI (w0 : World) (q pb : Nat) (W : PW) (vL vD re wa du sn : Value) (L : Nat → Bool) (s : Nat → Value) (w : World) : Prop where
  x : Ext w0 w
  bx : Blk w q 31 (cellsC W vL vD re wa du sn)
  bp : Blk w pb 31 zeroW
  k11 : L 11 = true → L 10 = true
  p0 : L 0 = true → s 6 = .pointer (some ⟨q, 1, none⟩)
  l1 : L 1 = true → s 7 = vD
  n2 : L 2 = true → s 8 = .int .i64 W.dead.length
  m3 : L 3 = true → DeadNew w w0.heap.size W.dead.length (s 9)
  p4 : L 4 = true → s 10 = .pointer (some ⟨q, 2, none⟩)
  l5 : L 5 = true → s 11 = .int .i64 W.last
  p6 : L 6 = true → s 12 = .pointer (some ⟨q, 3, none⟩)
  l7 : L 7 = true → s 13 = .agg (cellsR W.R re wa du sn)
  c8 : L 8 = true → ∃ re' wa' du' sn', s 14 = .agg (cellsR W.R re' wa' du' sn') ∧ RegsNew w w0.heap.size W.R re' wa' du' sn'
  b9 : L 9 = true → ∃ vD' re' wa' du' sn', s 15 = .agg (cellsC W (.slice none 0 0) vD' re' wa' du' sn') ∧ DeadNew w w0.heap.size W.dead.length vD' ∧ RegsNew w w0.heap.size W.R re' wa' du' sn'
  a10 : L 10 = true → L 11 = false → ∃ ob, s 3 = .pointer (some ⟨ob, 0, none⟩) ∧ w0.heap.size ≤ ob ∧ ob ≠ q ∧ ob ≠ pb ∧ Blk w ob 31 zeroW
  e11 : L 11 = true → ∃ ob vD' re' wa' du' sn', s 3 = .pointer (some ⟨ob, 0, none⟩) ∧ w0.heap.size ≤ ob ∧ ob ≠ q ∧ ob ≠ pb ∧ Blk w ob 31 (cellsC W (.slice none 0 0) vD' re' wa' du' sn') ∧ DeadNew w w0.heap.size W.dead.length vD' ∧ RegsNew w w0.heap.size W.R re' wa' du' sn'
/-- what holds at the head of Copy's loop -/
structure CL (w0 : World) (q pb ob : Nat) (W : PW) (fs : Nat → Value) (k : Nat) (vL : Value) (fs' : Nat → Value) (vD re wa du sn : Value) (w : World) : Prop where
  x : Ext w0 w
  bo : Blk w ob 31 (cellsC W vL vD re wa du sn)
  bp : Blk w pb 31 zeroW
  L : Own w w0.heap.size 49 vL k 6 (cL W.L fs')
  fs : ∀ i, i < k → Own w w0.heap.size 38 (fs' i) (tAt W.L i).F.length 2 (cF (tAt W.L i).F)
  ap : ∀ i j, i < k → j < i → Apart (fs' i) (fs' j)
  dead : Own w w0.heap.size 4 vD W.dead.length 1 (cB W.dead)
  R : RegsNew w w0.heap.size W.R re wa du sn
theorem own_bools {w : World} {base db : Nat} {l : List Bool} (h : Blk w db 4 (l.map Value.bool).toArray) (hb : base ≤ db) (hl : l.length ≤ maxLen) : Own w base 4 (.slice (some ⟨db, 0, none⟩) l.length l.length) l.length 1 (cB l) := by
  have e : flat l.length 1 (cB l) = l.map Value.bool := by
    refine List.ext_getElem? fun q => ?_
    unfold flat
    rw [List.getElem?_map, List.getElem?_map, Nat.mul_one]
    by_cases hq : q < l.length
    · rw [List.getElem?_range hq, List.getElem?_eq_getElem hq]
      show some (cB l (q / 1) (q % 1)) = some (Value.bool l[q])
      unfold cB
      rw [Nat.div_one, List.getD_eq_getElem?_getD, List.getElem?_eq_getElem hq]; rfl
    · rw [List.getElem?_eq_none (by simpa using hq), List.getElem?_eq_none (by omega)]; rfl
  refine ⟨flat_len _ _ _, .inr ⟨db, l.length, _, rfl, hb, h, Nat.le_refl _, hl, by simp, ?_⟩⟩
  rw [e, Nat.mul_one]; exact List.take_of_length_le (by simp)
def frameC (W : PW) (vL vD re wa du sn : Value) (q pb : Nat) (s : Nat → Value) : Act := { tmps := #[.agg (cellsC W vL vD re wa du sn), .pointer (some ⟨q, 0, none⟩), .pointer (some ⟨pb, 0, none⟩), s 3, undef, undef, s 6, s 7, s 8, s 9, s 10, s 11, s 12, s 13, s 14, s 15, undef, undef, undef, undef, undef, undef, undef, undef, undef, undef, undef, undef, undef, undef, undef, undef, undef, undef, undef, undef, undef, undef, undef, undef], defers := [] }
def CInv (w0 : World) (q pb : Nat) (W : PW) (vL vD re wa du sn : Value) (listed : Array Bool) (a : Act) (w : World) : Prop :=
  ∃ L : Nat → Bool, (∀ k, listed.getD k false = L k) ∧ ∃ s : Nat → Value, a = frameC W vL vD re wa du sn q pb s ∧ listed.size = 12 ∧ CI w0 q pb W vL vD re wa du sn L s w
theorem RegsNew.ext {w w' : World} {base : Nat} {R : PR} {re wa du sn : Value} (h : RegsNew w base R re wa du sn) (x : Ext w w') : RegsNew w' base R re wa du sn := ⟨h.ap, h.re.ext x, h.wa.ext x, h.du.ext x, h.sn.ext x⟩
theorem RegsNew.base {w : World} {base b' : Nat} {R : PR} {re wa du sn : Value} (h : RegsNew w base R re wa du sn) (hb : b' ≤ base) : RegsNew w b' R re wa du sn := ⟨h.ap, h.re.base hb, h.wa.base hb, h.du.base hb, h.sn.base hb⟩
theorem RegsNew.kt {w w' : World} {base : Nat} {R : PR} {re wa du sn : Value} {ts : List TypeId} (h : RegsNew w base R re wa du sn) (k : KT ts w w') (h1 : 3 ∉ ts) (h2 : 96 ∉ ts) (h3 : 9 ∉ ts) : RegsNew w' base R re wa du sn := ⟨h.ap, h.re.kt k h1, h.wa.kt k h2, h.du.kt k h1, h.sn.kt k h3⟩
theorem DeadNew.ext {w w' : World} {base n : Nat} {v : Value} (h : DeadNew w base n v) (x : Ext w w') : DeadNew w' base n v := by obtain ⟨db, e, hb, b⟩ := h; exact ⟨db, e, hb, b.ext x⟩
theorem DeadNew.kt {w w' : World} {base n : Nat} {v : Value} {ts : List TypeId} (h : DeadNew w base n v) (k : KT ts w w') (hn : 4 ∉ ts) : DeadNew w' base n v := by obtain ⟨db, e, hb, b⟩ := h; exact ⟨db, e, hb, blk_kt b k hn⟩
theorem CI.ext {w0 w w' : World} {q pb : Nat} {W : PW} {vL vD re wa du sn : Value} {L : Nat → Bool} {s : Nat → Value} (I : CI w0 q pb W vL vD re wa du sn L s w) (y : Ext w w') : CI w0 q pb W vL vD re wa du sn L s w' := by
  refine ⟨I.x.trans y, I.bx.ext y, I.bp.ext y, I.k11, I.p0, I.l1, I.n2, fun h => (I.m3 h).ext y, I.p4, I.l5, I.p6, I.l7, fun h => ?_, fun h => ?_, fun h h' => ?_, fun h => ?_⟩
  · obtain ⟨r, w1, d, n, e, N⟩ := I.c8 h; exact ⟨r, w1, d, n, e, N.ext y⟩
  · obtain ⟨v, r, w1, d, n, e, D, N⟩ := I.b9 h; exact ⟨v, r, w1, d, n, e, D.ext y, N.ext y⟩
  · obtain ⟨ob, e, h1, h2, h3, h4⟩ := I.a10 h h'; exact ⟨ob, e, h1, h2, h3, h4.ext y⟩
  · obtain ⟨ob, v, r, w1, d, n, e, h1, h2, h3, h4, D, N⟩ := I.e11 h; exact ⟨ob, v, r, w1, d, n, e, h1, h2, h3, h4.ext y, D.ext y, N.ext y⟩
section
variable {w : World} {x : WV} {W : PW}
set_option maxRecDepth 100000 in
set_option maxHeartbeats 8000000 in
theorem copy_ (h : WorldAt w x W) (m0 : W.L.length ≤ 1000000) (m5 : W.dead.length ≤ 1000000) (m1 : W.R.ready.length ≤ 1000000) (m2 : W.R.wait.length ≤ 1000000) (m3 : W.R.due.length ≤ 1000000) (m4 : W.R.snaps.length ≤ 1000000) (m6 : ∀ i, i < W.L.length → (tAt W.L i).F.length ≤ 1000000) :
    Calls Tryz.prog 21 #[.agg (cellsW W x)] w fun e w' => (∃ x', e = .returned (.agg (cellsW W x')) ∧ NewW w' w.heap.size W x') ∧ Ext w w' := by
  have HH := Lib.hid h
  obtain ⟨vL, fs, vD, vRe, vWa, vDu, vSn⟩ := x
  obtain ⟨A1, c1, e1, l1, l1'⟩ := h.L.row.form
  have e1 : vL = .slice A1 W.L.length c1 := e1
  subst e1
  obtain ⟨A2, c2, e2, l2, l2'⟩ := Row.form h.dead
  have e2 : vD = .slice A2 W.dead.length c2 := e2
  subst e2
  obtain ⟨A3, c3, e3, l3, l3'⟩ := Row.form h.ready
  have e3 : vRe = .slice A3 W.R.ready.length c3 := e3
  subst e3
  obtain ⟨A4, c4, e4, l4, l4'⟩ := Row.form h.wait
  have e4 : vWa = .slice A4 W.R.wait.length c4 := e4
  subst e4
  obtain ⟨A5, c5, e5, l5, l5'⟩ := Row.form h.due
  have e5 : vDu = .slice A5 W.R.due.length c5 := e5
  subst e5
  obtain ⟨A6, c6, e6, l6, l6'⟩ := Row.form h.snaps
  have e6 : vSn = .slice A6 W.R.snaps.length c6 := e6
  subst e6
  have CR := Lib.hid (fun w' (e : Ext w w') => cregs (R := W.R) (h.ready.ext e) (h.wait.ext e) (h.due.ext e) (h.snaps.ext e) m1 m2 m3 m4)
  unfold cellsR at CR
  clear h
  have hmk := make_bool W.dead.length m5
  unfold cellsW
  go_enter Tryz.func21, Tryz.ntmps21
  go_wp2_with fail
  refine wp_name (fun W1 hW => ?_)
  have BX : Blk W1 w.heap.size 31 (cellsW W ⟨.slice A1 W.L.length c1, fs, .slice A2 W.dead.length c2, .slice A3 W.R.ready.length c3, .slice A4 W.R.wait.length c4, .slice A5 W.R.due.length c5, .slice A6 W.R.snaps.length c6⟩) := (Blk.new w _ _).alloc' hW
  have BP := Blk.new' hW
  have X1 := ((Ext.refl w).alloc _).alloc' hW
  simp only [World.size_alloc] at BP
  clear hW
  have hqp : w.heap.size ≤ w.heap.size ∧ w.heap.size ≤ w.heap.size + 1 := by omega
  have LQ := BX.lt
  have LP := BP.lt
  generalize hq : w.heap.size = q at *
  have hqw : w.heap.size ≤ q := by omega
  have hpbw : w.heap.size ≤ q + 1 := by omega
  clear hq
  have hpb : q + 1 ≠ q := by omega
  generalize q + 1 = pb at *
  refine wp_region_inv (Inv := CInv w q pb W (.slice A1 W.L.length c1) (.slice A2 W.dead.length c2) (.slice A3 W.R.ready.length c3) (.slice A4 W.R.wait.length c4) (.slice A5 W.R.due.length c5) (.slice A6 W.R.snaps.length c6)) (by kernel_rfl) ?_ ?_ ?_
  · refine ⟨fun _ => false, fun k => ?_, fun _ => undef, rfl, by simp, ⟨X1.drew, BX.drew, BP.drew, ?_, ?_, ?_, ?_, ?_, ?_, ?_, ?_, ?_, ?_, ?_, ?_, ?_⟩⟩
    · rw [Array.getD_eq_getD_getElem?, Array.getElem?_replicate]; split <;> rfl
    all_goals (intro h; cases h)
  · rintro listed a w2 i ⟨L, hL, s, rfl, hsz, I⟩ hi
    obtain ⟨hlt, hnot, hdep⟩ := (ready_iff _ _).1 hi
    have hi12 : i < 12 := hlt
    have cases12 : i = 0 ∨ i = 1 ∨ i = 2 ∨ i = 3 ∨ i = 4 ∨ i = 5 ∨ i = 6 ∨ i = 7 ∨ i = 8 ∨ i = 9 ∨ i = 10 ∨ i = 11 := by omega
    have hn0 : L i = false := by rw [← hL i]; exact not_bit hnot
    have R1 := Lib.hid I.bx.cell
    have hw0 := I.x.below.size
    have lq := I.bx.lt
    have lp := I.bp.lt
    clear hi hlt hi12 hnot
    unfold frameC
    rcases cases12 with rfl | rfl | rfl | rfl | rfl | rfl | rfl | rfl | rfl | rfl | rfl | rfl
    · -- operation 0
      refine wpOp_step rfl (fun K' hK => ?_)
      go_simp
      exact hK _ _ ⟨_, bit_set hL hsz 0 (by omega), fun j => if j = 6 then .pointer (some ⟨q, 1, none⟩) else s j, by simp [frameC], by simpa using hsz, ⟨I.x, I.bx, I.bp, I.k11, fun _ => rfl, I.l1, I.n2, I.m3, I.p4, I.l5, I.p6, I.l7, I.c8, I.b9, I.a10, I.e11⟩⟩
    · -- operation 1
      simp [hL, Region.binds] at hdep
      have d0 : L 0 = true := by simp [hdep]
      have es := I.p0 d0
      have hc : w2.cell? ⟨q, 1, none⟩ = some (.slice A2 W.dead.length c2) := R1.out 1
      refine wpOp_step rfl (fun K' hK => ?_)
      rw [es]
      go_simp
      exact hK _ _ ⟨_, bit_set hL hsz 1 (by omega), fun j => if j = 7 then .slice A2 W.dead.length c2 else s j, by simp [frameC, es], by simpa using hsz, ⟨I.x, I.bx, I.bp, I.k11, I.p0, fun _ => rfl, I.n2, I.m3, I.p4, I.l5, I.p6, I.l7, I.c8, I.b9, I.a10, I.e11⟩⟩
    · -- operation 2
      simp [hL, Region.binds] at hdep
      have d1 : L 1 = true := by simp [hdep]
      have es := I.l1 d1
      refine wpOp_step rfl (fun K' hK => ?_)
      rw [es]
      go_simp
      exact hK _ _ ⟨_, bit_set hL hsz 2 (by omega), fun j => if j = 8 then .int .i64 W.dead.length else s j, by simp [frameC, es], by simpa using hsz, ⟨I.x, I.bx, I.bp, I.k11, I.p0, I.l1, fun _ => rfl, I.m3, I.p4, I.l5, I.p6, I.l7, I.c8, I.b9, I.a10, I.e11⟩⟩
    · -- operation 3
      simp [hL, Region.binds] at hdep
      have d2 : L 2 = true := by simp [hdep]
      have es := I.n2 d2
      refine wpOp_step rfl (fun K' hK => ?_)
      rw [es]
      go_simp
      have J := I.ext ((Ext.refl w2).alloc (.cells (Array.replicate W.dead.length (.bool false)) 4))
      exact hK _ _ ⟨_, bit_set hL hsz 3 (by omega), fun j => if j = 9 then .slice (some ⟨w2.heap.size, 0, none⟩) W.dead.length W.dead.length else s j, by simp [frameC, es], by simpa using hsz, ⟨J.x, J.bx, J.bp, J.k11, J.p0, J.l1, J.n2, (fun _ => ⟨w2.heap.size, rfl, hw0, Blk.new _ _ _⟩), J.p4, J.l5, J.p6, J.l7, J.c8, J.b9, J.a10, J.e11⟩⟩
    · -- operation 4
      refine wpOp_step rfl (fun K' hK => ?_)
      go_simp
      exact hK _ _ ⟨_, bit_set hL hsz 4 (by omega), fun j => if j = 10 then .pointer (some ⟨q, 2, none⟩) else s j, by simp [frameC], by simpa using hsz, ⟨I.x, I.bx, I.bp, I.k11, I.p0, I.l1, I.n2, I.m3, fun _ => rfl, I.l5, I.p6, I.l7, I.c8, I.b9, I.a10, I.e11⟩⟩
    · -- operation 5
      simp [hL, Region.binds] at hdep
      have d4 : L 4 = true := by simp [hdep]
      have es := I.p4 d4
      have hc : w2.cell? ⟨q, 2, none⟩ = some (.int .i64 W.last) := R1.out 2
      refine wpOp_step rfl (fun K' hK => ?_)
      rw [es]
      go_simp
      exact hK _ _ ⟨_, bit_set hL hsz 5 (by omega), fun j => if j = 11 then .int .i64 W.last else s j, by simp [frameC, es], by simpa using hsz, ⟨I.x, I.bx, I.bp, I.k11, I.p0, I.l1, I.n2, I.m3, I.p4, fun _ => rfl, I.p6, I.l7, I.c8, I.b9, I.a10, I.e11⟩⟩
    · -- operation 6
      refine wpOp_step rfl (fun K' hK => ?_)
      go_simp
      exact hK _ _ ⟨_, bit_set hL hsz 6 (by omega), fun j => if j = 12 then .pointer (some ⟨q, 3, none⟩) else s j, by simp [frameC], by simpa using hsz, ⟨I.x, I.bx, I.bp, I.k11, I.p0, I.l1, I.n2, I.m3, I.p4, I.l5, fun _ => rfl, I.l7, I.c8, I.b9, I.a10, I.e11⟩⟩
    · -- operation 7
      simp [hL, Region.binds] at hdep
      have d6 : L 6 = true := by simp [hdep]
      have es := I.p6 d6
      have hc0 : w2.cell? ⟨q, 3, none⟩ = some (.int .i64 W.R.proc) := R1.out 3
      have hc1 : w2.cell? ⟨q, 3 + 1, none⟩ = some (.int .i64 W.R.frame) := R1.out 4
      have hc2 : w2.cell? ⟨q, 3 + 2, none⟩ = some (.slice A3 W.R.ready.length c3) := R1.out 5
      have hc3 : w2.cell? ⟨q, 3 + 3, none⟩ = some (.slice A4 W.R.wait.length c4) := R1.out 6
      have hc4 : w2.cell? ⟨q, 3 + 4, none⟩ = some (.slice A5 W.R.due.length c5) := R1.out 7
      have hc5 : w2.cell? ⟨q, 3 + 5, none⟩ = some (.string W.R.out) := R1.out 8
      have hc6 : w2.cell? ⟨q, 3 + 6, none⟩ = some (.string W.R.inp) := R1.out 9
      have hc7 : w2.cell? ⟨q, 3 + 7, none⟩ = some (.int .i64 W.R.how) := R1.out 10
      have hc8 : w2.cell? ⟨q, 3 + 8, none⟩ = some (.int .i64 W.R.exit) := R1.out 11
      have hc9 : w2.cell? ⟨q, 3 + 9, none⟩ = some (.slice A6 W.R.snaps.length c6) := R1.out 12
      simp only [Nat.reduceAdd] at hc1 hc2 hc3 hc4 hc5 hc6 hc7 hc8 hc9
      refine wpOp_step rfl (fun K' hK => ?_)
      rw [es]
      go_simp
      exact hK _ _ ⟨_, bit_set hL hsz 7 (by omega), fun j => if j = 13 then .agg (cellsR W.R (.slice A3 W.R.ready.length c3) (.slice A4 W.R.wait.length c4) (.slice A5 W.R.due.length c5) (.slice A6 W.R.snaps.length c6)) else s j, by simp [frameC, es, cellsR], by simpa using hsz, ⟨I.x, I.bx, I.bp, I.k11, I.p0, I.l1, I.n2, I.m3, I.p4, I.l5, I.p6, fun _ => rfl, I.c8, I.b9, I.a10, I.e11⟩⟩
    · -- operation 8
      simp [hL, Region.binds] at hdep
      have d7 : L 7 = true := by simp [hdep]
      have es := I.l7 d7
      refine wpOp_step rfl (fun K' hK => ?_)
      rw [es]
      unfold cellsR
      go_simp
      refine (CR.out _ I.x).mono ?_
      rintro e w3 ⟨⟨re', wa', du', sn', rfl, NR⟩, x3⟩
      have J := I.ext x3
      exact hK _ _ ⟨_, bit_set hL hsz 8 (by omega), fun j => if j = 14 then .agg (cellsR W.R re' wa' du' sn') else s j, by simp [frameC, es, cellsR], by simpa using hsz, ⟨J.x, J.bx, J.bp, J.k11, J.p0, J.l1, J.n2, J.m3, J.p4, J.l5, J.p6, J.l7, (fun _ => ⟨re', wa', du', sn', rfl, NR.base hw0⟩), J.b9, J.a10, J.e11⟩⟩
    · -- operation 9
      simp [hL, Region.binds] at hdep
      have d3 : L 3 = true := by simp [hdep]
      have d5 : L 5 = true := by simp [hdep]
      have d8 : L 8 = true := by simp [hdep]
      obtain ⟨db, e3, hb3, B3⟩ := I.m3 d3
      have e5 := I.l5 d5
      obtain ⟨re', wa', du', sn', e8, N8⟩ := I.c8 d8
      obtain ⟨a1, k1, v1⟩ := N8.re.form
      obtain ⟨a2, k2, v2⟩ := N8.wa.form
      obtain ⟨a3, k3, v3⟩ := N8.du.form
      obtain ⟨a4, k4, v4⟩ := N8.sn.form
      subst v1 v2 v3 v4
      refine wpOp_step rfl (fun K' hK => ?_)
      rw [e3, e5, e8]
      unfold cellsR
      go_simp
      exact hK _ _ ⟨_, bit_set hL hsz 9 (by omega), fun j => if j = 15 then .agg (cellsC W (.slice none 0 0) (.slice (some ⟨db, 0, none⟩) W.dead.length W.dead.length) (.slice a1 W.R.ready.length k1) (.slice a2 W.R.wait.length k2) (.slice a3 W.R.due.length k3) (.slice a4 W.R.snaps.length k4)) else s j, by simp [frameC, e3, e5, e8, cellsC, cellsR], by simpa using hsz, ⟨I.x, I.bx, I.bp, I.k11, I.p0, I.l1, I.n2, I.m3, I.p4, I.l5, I.p6, I.l7, I.c8, (fun _ => ⟨_, _, _, _, _, rfl, ⟨db, rfl, hb3, B3⟩, N8⟩), I.a10, I.e11⟩⟩
    · -- operation 10
      refine wpOp_step rfl (fun K' hK => ?_)
      go_simp
      have J := I.ext ((Ext.refl w2).alloc (.cells zeroW 31))
      exact hK _ _ ⟨_, bit_set hL hsz 10 (by omega), fun j => if j = 3 then .pointer (some ⟨w2.heap.size, 0, none⟩) else s j, by simp [frameC], by simpa using hsz, ⟨J.x, J.bx, J.bp, fun _ => rfl, J.p0, J.l1, J.n2, J.m3, J.p4, J.l5, J.p6, J.l7, J.c8, J.b9, (fun _ _ => ⟨w2.heap.size, rfl, hw0, by omega, by omega, Blk.new _ _ _⟩), (fun h => absurd (I.k11 h) (by rw [hn0]; decide))⟩⟩
    · -- operation 11
      simp [hL, Region.binds] at hdep
      have d10 : L 10 = true := by simp [hdep]
      have d9 : L 9 = true := by simp [hdep]
      obtain ⟨ob, e3, hb3, ne1, ne2, B3⟩ := I.a10 d10 hn0
      obtain ⟨vD', re', wa', du', sn', e15, D15, N15⟩ := I.b9 d9
      obtain ⟨db, eD, hbD, BD⟩ := D15
      obtain ⟨a1, k1, v1⟩ := N15.re.form
      obtain ⟨a2, k2, v2⟩ := N15.wa.form
      obtain ⟨a3, k3, v3⟩ := N15.du.form
      obtain ⟨a4, k4, v4⟩ := N15.sn.form
      subst v1 v2 v3 v4 eD
      have z0 : w2.cell? ⟨ob, 0, none⟩ = zeroW[0]? := B3.cell 0
      have z1 : w2.cell? ⟨ob, 1, none⟩ = zeroW[1]? := B3.cell 1
      have z2 : w2.cell? ⟨ob, 2, none⟩ = zeroW[2]? := B3.cell 2
      have z3 : w2.cell? ⟨ob, 3, none⟩ = zeroW[3]? := B3.cell 3
      have z4 : w2.cell? ⟨ob, 4, none⟩ = zeroW[4]? := B3.cell 4
      have z5 : w2.cell? ⟨ob, 5, none⟩ = zeroW[5]? := B3.cell 5
      have z6 : w2.cell? ⟨ob, 6, none⟩ = zeroW[6]? := B3.cell 6
      have z7 : w2.cell? ⟨ob, 7, none⟩ = zeroW[7]? := B3.cell 7
      have z8 : w2.cell? ⟨ob, 8, none⟩ = zeroW[8]? := B3.cell 8
      have z9 : w2.cell? ⟨ob, 9, none⟩ = zeroW[9]? := B3.cell 9
      have z10 : w2.cell? ⟨ob, 10, none⟩ = zeroW[10]? := B3.cell 10
      have z11 : w2.cell? ⟨ob, 11, none⟩ = zeroW[11]? := B3.cell 11
      have z12 : w2.cell? ⟨ob, 12, none⟩ = zeroW[12]? := B3.cell 12
      simp [zeroW] at z0 z1 z2 z3 z4 z5 z6 z7 z8 z9 z10 z11 z12
      have zf := B3.frozen
      have zl := B3.lt
      refine wpOp_step rfl (fun K' hK => ?_)
      rw [e3, e15]
      unfold cellsC
      go_simp
      have KE := (((((((((((((Keep.refl (· = ob) w2).setCell (p := ⟨ob, 0, none⟩) rfl (.slice none 0 0)).setCell (p := ⟨ob, 1, none⟩) rfl (.slice (some ⟨db, 0, none⟩) W.dead.length W.dead.length)).setCell (p := ⟨ob, 2, none⟩) rfl (.int .i64 W.last)).setCell (p := ⟨ob, 3, none⟩) rfl (.int .i64 W.R.proc)).setCell (p := ⟨ob, 4, none⟩) rfl (.int .i64 W.R.frame)).setCell (p := ⟨ob, 5, none⟩) rfl (.slice a1 W.R.ready.length k1)).setCell (p := ⟨ob, 6, none⟩) rfl (.slice a2 W.R.wait.length k2)).setCell (p := ⟨ob, 7, none⟩) rfl (.slice a3 W.R.due.length k3)).setCell (p := ⟨ob, 8, none⟩) rfl (.string W.R.out)).setCell (p := ⟨ob, 9, none⟩) rfl (.string W.R.inp)).setCell (p := ⟨ob, 10, none⟩) rfl (.int .i64 W.R.how)).setCell (p := ⟨ob, 11, none⟩) rfl (.int .i64 W.R.exit)).setCell (p := ⟨ob, 12, none⟩) rfl (.slice a4 W.R.snaps.length k4)
      have BE := (((((((((((((B3).set 0 (.slice none 0 0)).set 1 (.slice (some ⟨db, 0, none⟩) W.dead.length W.dead.length)).set 2 (.int .i64 W.last)).set 3 (.int .i64 W.R.proc)).set 4 (.int .i64 W.R.frame)).set 5 (.slice a1 W.R.ready.length k1)).set 6 (.slice a2 W.R.wait.length k2)).set 7 (.slice a3 W.R.due.length k3)).set 8 (.string W.R.out)).set 9 (.string W.R.inp)).set 10 (.int .i64 W.R.how)).set 11 (.int .i64 W.R.exit)).set 12 (.slice a4 W.R.snaps.length k4)
      have XE := (((((((((((((I.x).setNew (p := ⟨ob, 0, none⟩) hb3 (.slice none 0 0)).setNew (p := ⟨ob, 1, none⟩) hb3 (.slice (some ⟨db, 0, none⟩) W.dead.length W.dead.length)).setNew (p := ⟨ob, 2, none⟩) hb3 (.int .i64 W.last)).setNew (p := ⟨ob, 3, none⟩) hb3 (.int .i64 W.R.proc)).setNew (p := ⟨ob, 4, none⟩) hb3 (.int .i64 W.R.frame)).setNew (p := ⟨ob, 5, none⟩) hb3 (.slice a1 W.R.ready.length k1)).setNew (p := ⟨ob, 6, none⟩) hb3 (.slice a2 W.R.wait.length k2)).setNew (p := ⟨ob, 7, none⟩) hb3 (.slice a3 W.R.due.length k3)).setNew (p := ⟨ob, 8, none⟩) hb3 (.string W.R.out)).setNew (p := ⟨ob, 9, none⟩) hb3 (.string W.R.inp)).setNew (p := ⟨ob, 10, none⟩) hb3 (.int .i64 W.R.how)).setNew (p := ⟨ob, 11, none⟩) hb3 (.int .i64 W.R.exit)).setNew (p := ⟨ob, 12, none⟩) hb3 (.slice a4 W.R.snaps.length k4)
      have KT1 : KT [31] w2 _ := Keep.mono KE (fun j e => by subst e; exact ⟨_, _, by simp, B3⟩)
      have eC : (((((((((((((zeroW).setIfInBounds 0 (.slice none 0 0)).setIfInBounds 1 (.slice (some ⟨db, 0, none⟩) W.dead.length W.dead.length)).setIfInBounds 2 (.int .i64 W.last)).setIfInBounds 3 (.int .i64 W.R.proc)).setIfInBounds 4 (.int .i64 W.R.frame)).setIfInBounds 5 (.slice a1 W.R.ready.length k1)).setIfInBounds 6 (.slice a2 W.R.wait.length k2)).setIfInBounds 7 (.slice a3 W.R.due.length k3)).setIfInBounds 8 (.string W.R.out)).setIfInBounds 9 (.string W.R.inp)).setIfInBounds 10 (.int .i64 W.R.how)).setIfInBounds 11 (.int .i64 W.R.exit)).setIfInBounds 12 (.slice a4 W.R.snaps.length k4) = cellsC W (.slice none 0 0) (.slice (some ⟨db, 0, none⟩) W.dead.length W.dead.length) (.slice a1 W.R.ready.length k1) (.slice a2 W.R.wait.length k2) (.slice a3 W.R.due.length k3) (.slice a4 W.R.snaps.length k4) := by simp [zeroW, cellsC]
      rw [eC] at BE
      refine hK _ _ ⟨_, bit_set hL hsz 11 (by omega), s, by simp [frameC, e3, e15, cellsC], by simpa using hsz, ⟨XE, I.bx.keep KE (fun e => ne1 e.symm), I.bp.keep KE (fun e => ne2 e.symm), fun _ => d10, I.p0, I.l1, I.n2, fun h => (I.m3 h).kt KT1 (by decide), I.p4, I.l5, I.p6, I.l7, fun h => ?_, fun h => ?_, (fun _ h => by cases h), fun _ => ⟨ob, _, _, _, _, _, e3, hb3, ne1, ne2, BE, ⟨db, rfl, hbD, blk_kt BD KT1 (by decide)⟩, N15.kt KT1 (by decide) (by decide) (by decide)⟩⟩⟩
      · obtain ⟨r, w1, d, n, e, N⟩ := I.c8 h; exact ⟨r, w1, d, n, e, N.kt KT1 (by decide) (by decide) (by decide)⟩
      · obtain ⟨v, r, w1, d, n, e, D, N⟩ := I.b9 h; exact ⟨v, r, w1, d, n, e, D.kt KT1 (by decide), N.kt KT1 (by decide) (by decide) (by decide)⟩
  · rintro listed a w2 ⟨L, hL, s, rfl, hsz, I⟩ hr
    have ALL : ∀ i, i < 12 → L i = true := fun i hi => by rw [← hL i]; exact all_listed (by kernel_rfl) hsz hr i hi
    obtain ⟨ob, vD', re', wa', du', sn', e3, hb3, ne1, ne2, B3, ⟨db, rfl, hbD, BD⟩, N3⟩ := I.e11 (ALL 11 (by omega))
    obtain ⟨a1, k1, rfl⟩ := N3.re.form
    obtain ⟨a2, k2, rfl⟩ := N3.wa.form
    obtain ⟨a3, k3, rfl⟩ := N3.du.form
    obtain ⟨a4, k4, rfl⟩ := N3.sn.form
    have XX := Lib.hid I.x
    have BQ := Lib.hid I.bx
    have BP2 := Lib.hid I.bp
    have BO := Lib.hid B3
    have BDD := Lib.hid BD
    have NN := Lib.hid N3
    unfold frameC
    rw [e3]
    obtain ⟨r1, r2, r3⟩ := B3.rules
    obtain ⟨q1, q2, q3⟩ := I.bx.rules
    unfold cellsC at r1 q1
    clear hL ALL hr hsz I e3 B3 BD N3
    go_upto_region 2 with (fail)
    have hA2 : ∀ j v, (W.dead.map Value.bool)[j]? = some v → ∃ b off, A2 = some ⟨b, off, none⟩ ∧ w2.cell? ((⟨b, off, none⟩ : Addr).add j) = some v := by
      intro j v hv
      have hj : j < W.dead.length := by
        rcases Nat.lt_or_ge j W.dead.length with h1 | h1
        · exact h1
        · rw [List.getElem?_eq_none (by simpa using h1)] at hv; cases hv
      obtain ⟨b, off, e, _, hc⟩ := Row.at_ (Row.ext (show Row w (.slice A2 W.dead.length c2) W.dead.length 1 _ from HH.out.dead) XX.out) j hj
      refine ⟨b, off, e, ?_⟩
      have h0 := hc 0 (by omega)
      simp only [Nat.mul_one, Nat.add_zero] at h0
      rw [Addr.add_lit, h0, ← hv, List.getElem?_map, List.getElem?_eq_getElem hj, List.getD_eq_getElem?_getD, List.getElem?_eq_getElem hj]
      rfl
    have HA2 := Lib.hid hA2
    clear hA2
    have BD2 : Hid (w2.heap[db]? = some (.cells (List.replicate W.dead.length (Value.bool false)).toArray 4 (0, 0))) := Lib.hid (by have := BDD.out; unfold Blk at this; rw [this, List.toArray_replicate])
    go_wp2_with (with_reducible refine wpList_copy_keep rfl (.tmp 17) (.tmp 19) 24 24 rfl 4 Tryz.underlying24 (by kernel_rfl) (some ⟨db, 0, none⟩) A2 W.dead.length W.dead.length W.dead.length c2 rfl rfl db 0 (List.replicate W.dead.length (.bool false)) 4 BD2.out (W.dead.map Value.bool) ?b2 ?b3 ?b4 ?b5 ?_)
    case b2 => rw [List.length_map]; exact (Nat.min_self _).symm
    case b3 =>
      intro h0
      have h1 : 0 < W.dead.length := by simpa using h0
      obtain ⟨b, off, e, _⟩ := HA2.out 0 _ (by rw [List.getElem?_map, List.getElem?_eq_getElem h1]; rfl)
      have fin : ∀ j v, (W.dead.map Value.bool)[j]? = some v → w2.cell? ((⟨b, off, none⟩ : Addr).add j) = some v := by
        intro j v hv
        obtain ⟨b', off', e', hc⟩ := HA2.out j v hv
        rw [e] at e'
        injection e' with e'
        rw [e']; exact hc
      refine ⟨⟨b, off, none⟩, e, fun j v hv => fin j v ?_⟩
      rw [List.getElem?_map]
      rcases hv with ⟨h2, rfl⟩ | ⟨h2, rfl⟩ <;> rw [h2] <;> rfl
    case b4 => simp
    case b5 => intro v hv; obtain ⟨y, _, rfl⟩ := List.mem_map.1 hv; rfl
    intro w3 hB3 hK3
    have K3 : KT [4] w2 w3 := Keep.mono hK3 (fun j e => by have e : j = db := e; subst e; exact ⟨_, _, by simp, BDD.out⟩)
    have eS : (splice (List.replicate W.dead.length (Value.bool false)) 0 (W.dead.map Value.bool)).toArray = (W.dead.map Value.bool).toArray := by simp [splice]
    rw [eS] at hB3
    have D3 : Own w3 w.heap.size 4 (.slice (some ⟨db, 0, none⟩) W.dead.length W.dead.length) W.dead.length 1 (cB W.dead) := own_bools hB3 hbD (by unfold maxLen; omega)
    have X3 : Ext w w3 := Ext.of_below (Keep.below XX.out.below hK3 XX.out.below.size (fun i hi e => by have e : i = db := e; omega))
    have CL0 : Hid (CL w q pb ob W fs 0 (.slice none 0 0) (fun _ => .slice none 0 0) (.slice (some ⟨db, 0, none⟩) W.dead.length W.dead.length) (.slice a1 W.R.ready.length k1) (.slice a2 W.R.wait.length k2) (.slice a3 W.R.due.length k3) (.slice a4 W.R.snaps.length k4) w3) :=
      Lib.hid ⟨X3, blk_kt BO.out K3 (by decide), blk_kt BP2.out K3 (by decide), World.ownsRow_nil _ _ _ _, fun i hi => by omega, fun i j hi => by omega, D3, NN.out.kt K3 (by decide) (by decide) (by decide)⟩
    have q1' := (blk_kt BQ.out K3 (by decide)).rules
    obtain ⟨z1, z2, z3⟩ := q1'
    unfold cellsC at z1
    clear r1 r2 r3 q1 q2 q3 hB3 hK3 K3 eS D3 X3 BD2 HA2
    have HC := Lib.hid (fun (j : Nat) (hj : j < W.L.length) => HH.out.L.cells rfl j hj)
    have HF := Lib.hid (fun (j : Nat) (hj : j < W.L.length) => HH.out.L.flds j hj)
    go_wp2_with fail
    go_loopw [24] (fun iv wr => ∃ (k : Nat) (vL' : Value) (fs' : Nat → Value), k ≤ W.L.length ∧ iv = .int .i64 k ∧ CL w q pb ob W fs k vL' fs' (.slice (some ⟨db, 0, none⟩) W.dead.length W.dead.length) (.slice a1 W.R.ready.length k1) (.slice a2 W.R.wait.length k2) (.slice a3 W.R.due.length k3) (.slice a4 W.R.snaps.length k4) wr) (fun iv _ => W.L.length - (intOf iv).toNat)
    case atStart => exact ⟨0, _, _, Nat.zero_le _, rfl, CL0.out⟩
    case round =>
      obtain ⟨k, vL', fs', hk, rfl, C⟩ := hrel
      have CC := Lib.hid C
      by_cases hlt : k < W.L.length
      · obtain ⟨b, off, rfl, hb, d0, d1, d2, d3, d4, d5⟩ := HC.out k hlt
        have vf := HF.out k hlt
        obtain ⟨AF, cF', ef, f1, f2⟩ := Row.form vf
        replace ef : fs k = .slice AF (tAt W.L k).F.length cF' := ef
        replace d4 : w.cell? ⟨b, off + k * 6 + 4, none⟩ = some (fs k) := d4
        replace vf : ValsAt w (fs k) (tAt W.L k).F := vf
        rw [ef] at d4 vf
        have XA := Lib.hid C.x
        replace d0 := (XA.out.below.cell (p := ⟨b, off + k * 6, none⟩) hb).trans d0
        replace d1 := (XA.out.below.cell (p := ⟨b, off + k * 6 + 1, none⟩) hb).trans d1
        replace d2 := (XA.out.below.cell (p := ⟨b, off + k * 6 + 2, none⟩) hb).trans d2
        replace d3 := (XA.out.below.cell (p := ⟨b, off + k * 6 + 3, none⟩) hb).trans d3
        replace d4 := (XA.out.below.cell (p := ⟨b, off + k * 6 + 4, none⟩) hb).trans d4
        replace d5 := (XA.out.below.cell (p := ⟨b, off + k * 6 + 5, none⟩) hb).trans d5
        have VF := Lib.hid vf
        have M6 := Lib.hid (m6 k hlt)
        obtain ⟨AL', cL', eL⟩ := C.L.form
        subst eL
        have BO2 := Lib.hid C.bo
        obtain ⟨i0, hi0, hz0, hz1, hz2⟩ := info_parts infoT
        have kI : (k : Int) < (W.L.length : Int) := by omega
        clear ef vf C
        generalize ht : tAt W.L k = t at *
        have HTk := Lib.hid ht
        clear ht
        go_wp2_with fail
        refine calls_name (fun W2 hW => ?_)
        have BT := Blk.new' hW
        have X2 := (Ext.refl wr).alloc' hW
        clear hW
        refine (cloneV (Row.ext VF.out (XA.out.trans X2)) M6.out (fun i j => by unfold cV; split <;> rfl)).mono ?_
        rintro e w5 ⟨vF', rfl, ow, x5⟩
        obtain ⟨AV, cV', eV⟩ := ow.form
        subst eV
        have X5 := Lib.hid (X2.trans x5)
        have OW := Lib.hid (ow.base (b' := w.heap.size) (by have := (XA.out.trans X2).below.size; exact this))
        have APN := Lib.hid (fun i (hi : i < k) => ow.apart ((CC.out.fs i hi).ext X2))
        have BT5 := Lib.hid (BT.ext x5)
        obtain ⟨t1, t2, t3⟩ := (BT.ext x5).rules
        obtain ⟨o1, o2, o3⟩ := (BO2.out.ext X5.out).rules
        unfold cellsC at o1
        have hob : ob < wr.heap.size := BO2.out.lt
        clear BT X2 x5 ow d0 d1 d2 d3 d4 d5 z1 z2 z3
        go_wp2_with (at_builtin; refine wpList_append_own_at _ rfl (.tmp 33) (.tmp 35) 23 rfl w.heap.size 49 i0 (.agg #[.int .i64 0, .int .i64 0, .int .i64 0, .bool false, .slice none 0 0, .string ByteArray.empty]) 6 72 Tryz.underlying23 hi0 hz0 hz1 hz2 rfl (by decide) (.slice AL' k cL') k (flat k 6 (cL W.L fs')) rfl ?c0 ⟨w5.heap.size, 0, none⟩ 1 1 [.int .i64 t.cls, .int .i64 t.fmt, .int .i64 t.hash, .bool t.fin, .slice AV t.F.length cV', .string t.B] rfl rfl ?c1 ?c2 ?c3 ?c4 ?c5 ?_)
        case c0 => exact CC.out.L.ext ((X5.out.setNew (p := ⟨wr.heap.size, 4, none⟩) (Nat.le_refl _) _).alloc _)
        case c1 =>
          intro j u hj
          have hB := Blk.new (w5.setCell ⟨wr.heap.size, 4, none⟩ (.slice AV t.F.length cV')) 49 #[.int .i64 t.cls, .int .i64 t.fmt, .int .i64 t.hash, .bool t.fin, .slice AV t.F.length cV', .string t.B]
          rw [show (w5.setCell ⟨wr.heap.size, 4, none⟩ (.slice AV t.F.length cV')).heap.size = w5.heap.size from by simp [World.setCell]] at hB
          rw [Addr.add_lit, Nat.zero_add, hB.cell, ← Array.getElem?_toList]
          exact hj
        case c2 =>
          intro u hu
          simp only [List.mem_cons, List.not_mem_nil, or_false] at hu
          rcases hu with rfl | rfl | rfl | rfl | rfl | rfl <;> rfl
        case c3 => unfold maxLen; omega
        case c4 => omega
        case c5 => exact ((XA.out.trans X5.out).setNew (p := ⟨wr.heap.size, 4, none⟩) (XA.out.below.size) _ |>.alloc _).below.size
        intro v' w6 o6 g6 _ _
        have XW := (X5.out.setNew (p := ⟨wr.heap.size, 4, none⟩) (Nat.le_refl _) (.slice AV t.F.length cV')).alloc (.cells #[.int .i64 t.cls, .int .i64 t.fmt, .int .i64 t.hash, .bool t.fin, .slice AV t.F.length cV', .string t.B] 49)
        have XO := ((Ext.refl w5).alloc (.cells #[.int .i64 t.cls, .int .i64 t.fmt, .int .i64 t.hash, .bool t.fin, .slice AV t.F.length cV', .string t.B] 49))
        have LW := CC.out.L.ext XW
        have KW : Keep (fun j => Value.ownBlock (.slice AL' k cL') = some j) _ w6 := ⟨g6.os, g6.tape, g6.output, g6.size, fun k hk hn => g6.block k hk (fun e => hn e.symm)⟩
        have KT6 : KT [49] _ w6 := Keep.mono KW (fun j hj => by obtain ⟨_, cs, hb⟩ := LW.block hj; exact ⟨_, _, by simp, hb⟩)
        have X6 : Ext w w6 := Ext.of_below (Keep.below (XA.out.trans XW).below KW (XA.out.trans XW).below.size (fun i hi e => by have := (LW.block e).1; omega))
        have L6 : Own w6 w.heap.size 49 v' (k + 1) 6 (cL W.L (fun i => if i = k then .slice AV t.F.length cV' else fs' i)) := by
          show w6.ownsRow _ _ _ _ _ _
          have e1 : (List.range 6).map (cL W.L (fun i => if i = k then .slice AV t.F.length cV' else fs' i) k) = [.int .i64 t.cls, .int .i64 t.fmt, .int .i64 t.hash, .bool t.fin, .slice AV t.F.length cV', .string t.B] := by
            rw [show List.range 6 = [0, 1, 2, 3, 4, 5] from rfl]
            simp only [List.map_cons, List.map_nil, cL, cT, if_true, HTk.out]
          have e2 : flat k 6 (cL W.L (fun i => if i = k then .slice AV t.F.length cV' else fs' i)) = flat k 6 (cL W.L fs') := flat_congr (fun i j hi => by simp only [cL]; rw [if_neg (by omega)])
          rw [flat_succ, e1, e2]
          exact o6
        obtain ⟨AL6, cL6, eL6⟩ := L6.form
        subst eL6
        have BO6 := blk_kt (BO2.out.ext XW) KT6 (by decide)
        have KTo := kt_set BO6 0 (.slice AL6 (k + 1) cL6)
        have OW6 := (((OW.out.set BT5.out (by decide) (i := 4) (u := .slice AV t.F.length cV')).ext ((Ext.refl _).alloc (.cells #[.int .i64 t.cls, .int .i64 t.fmt, .int .i64 t.hash, .bool t.fin, .slice AV t.F.length cV', .string t.B] 49))).kt KT6 (by decide)).kt KTo (by decide)
        have CN : Hid (CL w q pb ob W fs (k + 1) (.slice AL6 (k + 1) cL6) (fun i => if i = k then .slice AV t.F.length cV' else fs' i) (.slice (some ⟨db, 0, none⟩) W.dead.length W.dead.length) (.slice a1 W.R.ready.length k1) (.slice a2 W.R.wait.length k2) (.slice a3 W.R.due.length k3) (.slice a4 W.R.snaps.length k4) (w6.setCell ⟨ob, 0, none⟩ (.slice AL6 (k + 1) cL6))) := Lib.hid ⟨X6.setNew (p := ⟨ob, 0, none⟩) hb3 _, by have := BO6.set 0 (.slice AL6 (k + 1) cL6); simpa [cellsC] using this, (blk_kt (CC.out.bp.ext XW) KT6 (by decide)).far (p := ⟨ob, 0, none⟩) (fun e => ne2 e.symm) _, L6.kt KTo (by decide), fun i hi => by
            show Own _ _ _ (if i = k then _ else _) _ _ _
            by_cases e : i = k
            · subst e; rw [if_pos rfl, HTk.out]; exact OW6
            · rw [if_neg e]; exact (((CC.out.fs i (by omega)).ext XW).kt KT6 (by decide)).kt KTo (by decide), fun i j hi hj => by
            show Apart (if i = k then _ else _) (if j = k then _ else _)
            rw [if_neg (by omega : j ≠ k)]
            by_cases e : i = k
            · subst e; rw [if_pos rfl]; exact APN.out j hj
            · rw [if_neg e]; exact CC.out.ap i j (by omega) hj, ((CC.out.dead.ext XW).kt KT6 (by decide)).kt KTo (by decide), ((CC.out.R.ext XW).kt KT6 (by decide) (by decide) (by decide)).kt KTo (by decide) (by decide) (by decide)⟩
        obtain ⟨y1, y2, y3⟩ := BO6.rules
        unfold cellsC at y1
        clear t1 t2 t3 o1 o2 o3 L6 KTo OW6 KT6 KW X6 XW XO LW g6 o6 BO6
        go_wp2_with fail
        go_roundw
        case rel => exact ⟨k + 1, _, _, by omega, by go_num, CN.out⟩
        case measure => simp [intOf]; omega
      · obtain rfl : k = W.L.length := by omega
        obtain ⟨AL', cL', eL⟩ := C.L.form
        subst eL
        obtain ⟨y1, y2, y3⟩ := C.bo.rules
        obtain ⟨p1, p2, p3⟩ := C.bp.rules
        unfold cellsC at y1
        unfold zeroW at p1
        clear z1 z2 z3 C
        go_wp2_with fail
        refine bodyPost_ret (v := .agg (cellsC W (.slice AL' W.L.length cL') (.slice (some ⟨db, 0, none⟩) W.dead.length W.dead.length) (.slice a1 W.R.ready.length k1) (.slice a2 W.R.wait.length k2) (.slice a3 W.R.due.length k3) (.slice a4 W.R.snaps.length k4))) (by simp [results, Tryz.results21, go_sem, p1, cellsC]) rfl ?_
        have KP := (((((((((((((Keep.refl (· = pb) wr).setCell (p := ⟨pb, 0, none⟩) rfl (.slice AL' W.L.length cL')).setCell (p := ⟨pb, 1, none⟩) rfl (.slice (some ⟨db, 0, none⟩) W.dead.length W.dead.length)).setCell (p := ⟨pb, 2, none⟩) rfl (.int .i64 W.last)).setCell (p := ⟨pb, 3, none⟩) rfl (.int .i64 W.R.proc)).setCell (p := ⟨pb, 4, none⟩) rfl (.int .i64 W.R.frame)).setCell (p := ⟨pb, 5, none⟩) rfl (.slice a1 W.R.ready.length k1)).setCell (p := ⟨pb, 6, none⟩) rfl (.slice a2 W.R.wait.length k2)).setCell (p := ⟨pb, 7, none⟩) rfl (.slice a3 W.R.due.length k3)).setCell (p := ⟨pb, 8, none⟩) rfl (.string W.R.out)).setCell (p := ⟨pb, 9, none⟩) rfl (.string W.R.inp)).setCell (p := ⟨pb, 10, none⟩) rfl (.int .i64 W.R.how)).setCell (p := ⟨pb, 11, none⟩) rfl (.int .i64 W.R.exit)).setCell (p := ⟨pb, 12, none⟩) rfl (.slice a4 W.R.snaps.length k4)
        have KPT : KT [31] wr _ := Keep.mono KP (fun j e => by subst e; exact ⟨_, _, by simp, CC.out.bp⟩)
        refine ⟨⟨⟨.slice AL' W.L.length cL', fs', .slice (some ⟨db, 0, none⟩) W.dead.length W.dead.length, .slice a1 W.R.ready.length k1, .slice a2 W.R.wait.length k2, .slice a3 W.R.due.length k3, .slice a4 W.R.snaps.length k4⟩, rfl, CC.out.L.kt KPT (by decide), fun i hi => (CC.out.fs i hi).kt KPT (by decide), CC.out.ap, CC.out.dead.kt KPT (by decide), CC.out.R.kt KPT (by decide) (by decide) (by decide), HH.out.nums⟩, ?_⟩
        exact (((((((((((((CC.out.x).setNew (p := ⟨pb, 0, none⟩) hpbw _).setNew (p := ⟨pb, 1, none⟩) hpbw _).setNew (p := ⟨pb, 2, none⟩) hpbw _).setNew (p := ⟨pb, 3, none⟩) hpbw _).setNew (p := ⟨pb, 4, none⟩) hpbw _).setNew (p := ⟨pb, 5, none⟩) hpbw _).setNew (p := ⟨pb, 6, none⟩) hpbw _).setNew (p := ⟨pb, 7, none⟩) hpbw _).setNew (p := ⟨pb, 8, none⟩) hpbw _).setNew (p := ⟨pb, 9, none⟩) hpbw _).setNew (p := ⟨pb, 10, none⟩) hpbw _).setNew (p := ⟨pb, 11, none⟩) hpbw _).setNew (p := ⟨pb, 12, none⟩) hpbw _
end
end Go.Proofs.YtjpalcejmloocaaGreat.World
