/-
  Reach10, Reach11, Reach12, Reach13, Reach14, Reach15, Two, Reach16, RefTold, as one text (a claim has at most 60 files).
-/
import Derived.Test.YtjpalcejmloocaaGreatVq27
import Derived.Deep.RegionHeld3
import Derived.Deep.QuietTactic
import Derived.Laws.StructEq
import Derived.Test.YtjpalcejmloocaaGreatVq21
import Derived.Test.YtjpalcejmloocaaGreatVq22
namespace Go.Proofs.YtjpalcejmloocaaGreat.World
open Go.RowKit Go.Proofs.YtjpalcejmloocaaGreat.Plain
set_option linter.unusedVariables false
attribute [local go_sem ↓] Go.wp_at_zero Go.wp_at_succ
def toldP (f : Int → Int) (p : Int × Int) : Int × Int := (toldN f p.1, toldN f p.2)
def toldR (f : Int → Int) (R : PR) : PR := { R with proc := toldN f R.proc, frame := toldN f R.frame, ready := R.ready.map (toldN f), wait := R.wait.map (toldP f), due := R.due.map (toldN f) }
/-- the registers of a world that lies in its box -/
structure OkR (N : Nat) (R : PR) : Prop where
  proc : okN N R.proc
  frame : okN N R.frame
  ready : ∀ i, i < R.ready.length → okN N (R.ready.getD i 0)
  wait : ∀ i, i < R.wait.length → okN N (wAt R.wait i).1 ∧ okN N (wAt R.wait i).2
  due : ∀ i, i < R.due.length → okN N (R.due.getD i 0)
  len : R.ready.length ≤ 100000 ∧ R.wait.length ≤ 100000 ∧ R.due.length ≤ 100000
end Go.Proofs.YtjpalcejmloocaaGreat.World
namespace Go.Proofs.YtjpalcejmloocaaGreat.World
open Go.RowKit Go.Proofs.YtjpalcejmloocaaGreat.Plain
set_option linter.unusedVariables false
/-- how many are kept ahead of a place -/
def rankL (l : List Bool) (i : Nat) : Nat := (l.take i).countP (fun b => b)
/-- the places anew, laid up to i -/
def atK (l : List Bool) (i : Nat) : List Int := (List.range l.length).map (fun j => if j < i ∧ sB l j = true then (rankL l j : Int) else 0)
def atL (l : List Bool) : List Int := atK l l.length
/-- a value, a thing told anew -/
def canV (a : List Int) (v : PV) : PV := if v.obj = true then ⟨true, fA a v.n⟩ else v
def canT (a : List Int) (t : PT) : PT := { t with cls := fA a t.cls, F := t.F.map (canV a) }
def canK (W : PW) (l : List Bool) (i : Nat) : List PT := ((List.range i).filter (fun j => sB l j)).map (fun j => canT (atL l) (tAt W.L j))
/-- a world with what can be come to alone -/
def canonW (W : PW) (l : List Bool) : PW := ⟨canK W l W.L.length, [], W.last, toldR (fA (atL l)) W.R⟩
end Go.Proofs.YtjpalcejmloocaaGreat.World
namespace Go.Proofs.YtjpalcejmloocaaGreat.World
open Go.RowKit Go.Proofs.YtjpalcejmloocaaGreat.Plain
set_option linter.unusedVariables false
def zeroWc : Array Value := #[.slice none 0 0, .slice none 0 0, .int .i64 0, .int .i64 0, .int .i64 0, .slice none 0 0, .slice none 0 0, .slice none 0 0, .string ByteArray.empty, .string ByteArray.empty, .int .i64 0, .int .i64 0, .slice none 0 0]
theorem tAt_push (K : List PT) (t : PT) (q : Nat) (hq : q < K.length + 1) : tAt (K ++ [t]) q = if q = K.length then t else tAt K q := by
  unfold tAt
  by_cases e : q = K.length
  · subst e; rw [if_pos rfl, List.getD_eq_getElem?_getD, List.getElem?_append_right (Nat.le_refl _)]; simp
  · rw [if_neg e, List.getD_eq_getElem?_getD, List.getElem?_append_left (by omega), List.getD_eq_getElem?_getD]
structure CK (w0 : World) (rb g1 gA gS g7 : Nat) (W : PW) (l : List Bool) (K : List PT) (vL : Value) (fs : Nat → Value) (re wa du sn : Value) (w : World) : Prop where
  x : Ext w0 w
  b2 : Blk w (g1 + 1) 31 zeroWc
  bS : Blk w gS 4 (l.map Value.bool).toArray
  b4 : Blk w (gA + 1) 25 #[.slice (some ⟨gA, 0, none⟩) W.L.length W.L.length]
  bA : Blk w gA 3 ((atL l).map (Value.int .i64)).toArray
  b7 : Blk w g7 31 (cellsC W vL (.slice none 0 0) re wa du sn)
  L : Own w w0.heap.size 49 vL K.length 6 (cL K fs)
  fl : ∀ q, q < K.length → Own w w0.heap.size 38 (fs q) (tAt K q).F.length 2 (cF (tAt K q).F)
  ap : ∀ q p, q < K.length → p < q → Apart (fs q) (fs p)
  R : RegsNew w rb W.R re wa du sn
section
variable {w0 w w' : World} {rb g1 gA gS g7 : Nat} {W : PW} {l : List Bool} {K : List PT} {vL : Value} {fs : Nat → Value} {re wa du sn : Value}
theorem CK.ext (h : CK w0 rb g1 gA gS g7 W l K vL fs re wa du sn w) (y : Ext w w') : CK w0 rb g1 gA gS g7 W l K vL fs re wa du sn w' :=
  ⟨h.x.trans y, h.b2.ext y, h.bS.ext y, h.b4.ext y, h.bA.ext y, h.b7.ext y, h.L.ext y, fun q hq => (h.fl q hq).ext y, h.ap, h.R.ext y⟩
/-- a row of fields that is not yet the world's is turned -/
theorem CK.val {gV : Nat} {cur : Array Value} (h : CK w0 rb g1 gA gS g7 W l K vL fs re wa du sn w) (k : Keep (· = gV) w w') (hv : Blk w gV 38 cur) (hb : w0.heap.size ≤ gV) (hn : ∀ q, q < K.length → (fs q).ownBlock ≠ some gV) : CK w0 rb g1 gA gS g7 W l K vL fs re wa du sn w' :=
  ⟨Ext.of_below (Keep.below h.x.below k h.x.below.size (fun i hi e => by have e : i = gV := e; omega)), h.b2.keep k (h.b2.ne hv (by decide)), h.bS.keep k (h.bS.ne hv (by decide)), h.b4.keep k (h.b4.ne hv (by decide)), h.bA.keep k (h.bA.ne hv (by decide)), h.b7.keep k (h.b7.ne hv (by decide)),
    h.L.keep k hv (by decide), fun q hq => (h.fl q hq).away k (hn q hq), h.ap, ⟨h.R.ap, h.R.re.keep k hv (by decide), h.R.wa.keep k hv (by decide), h.R.du.keep k hv (by decide), h.R.sn.keep k hv (by decide)⟩⟩
/-- a thing is put behind -/
theorem CK.push {w6 : World} {t : PT} {v' vF : Value} (h : CK w0 rb g1 gA gS g7 W l K vL fs re wa du sn w) (KW : Keep (fun j => vL.ownBlock = some j) w w6)
    (o6 : w6.ownsRow w0.heap.size 49 6 v' (K.length + 1) (flat K.length 6 (cL K fs) ++ [.int .i64 t.cls, .int .i64 t.fmt, .int .i64 t.hash, .bool t.fin, vF, .string t.B]))
    (OW : Own w w0.heap.size 38 vF t.F.length 2 (cF t.F)) (hap : ∀ q, q < K.length → Apart vF (fs q)) (h7 : w0.heap.size ≤ g7) (hg7 : g1 + 1 ≠ g7) :
    CK w0 rb g1 gA gS g7 W l (K ++ [t]) v' (fun i => if i = K.length then vF else fs i) re wa du sn (w6.setCell ⟨g7, 0, none⟩ v') := by
  have KT6 : KT [49] w w6 := Keep.mono KW (fun j hj => by obtain ⟨_, cs, hb⟩ := h.L.block hj; exact ⟨_, _, by simp, hb⟩)
  have X6 : Ext w0 w6 := Ext.of_below (Keep.below h.x.below KW h.x.below.size (fun i hi e => by have := (h.L.block e).1; omega))
  have B7 := blk_kt h.b7 KT6 (by decide)
  have KTo := kt_set B7 0 v'
  have hl : (K ++ [t]).length = K.length + 1 := by simp
  have L6 : Own w6 w0.heap.size 49 v' (K ++ [t]).length 6 (cL (K ++ [t]) (fun i => if i = K.length then vF else fs i)) := by
    show w6.ownsRow _ _ _ _ _ _
    have e1 : (List.range 6).map (cL (K ++ [t]) (fun i => if i = K.length then vF else fs i) K.length) = [.int .i64 t.cls, .int .i64 t.fmt, .int .i64 t.hash, .bool t.fin, vF, .string t.B] := by
      rw [show List.range 6 = [0, 1, 2, 3, 4, 5] from rfl]
      simp only [List.map_cons, List.map_nil, cL, cT, if_true, tAt_push K t K.length (by omega)]
    have e2 : flat K.length 6 (cL (K ++ [t]) (fun i => if i = K.length then vF else fs i)) = flat K.length 6 (cL K fs) := flat_congr (fun i j hi => by simp only [cL]; rw [if_neg (by omega), tAt_push K t i (by omega), if_neg (by omega)])
    rw [hl, flat_succ, e1, e2]
    exact o6
  refine ⟨X6.setNew (p := ⟨g7, 0, none⟩) h7 _, (blk_kt h.b2 KT6 (by decide)).far (p := ⟨g7, 0, none⟩) hg7 _, blk_kt (blk_kt h.bS KT6 (by decide)) KTo (by decide), blk_kt (blk_kt h.b4 KT6 (by decide)) KTo (by decide), blk_kt (blk_kt h.bA KT6 (by decide)) KTo (by decide), ?_, L6.kt KTo (by decide), fun q hq => ?_, fun q p hq hp => ?_, (h.R.kt KT6 (by decide) (by decide) (by decide)).kt KTo (by decide) (by decide) (by decide)⟩
  · have := B7.set 0 v'
    simpa [cellsC] using this
  · rw [hl] at hq
    show Own _ _ _ (if q = K.length then _ else _) _ _ _
    rw [tAt_push K t q hq]
    by_cases e : q = K.length
    · rw [if_pos e, if_pos e]; exact (OW.kt KT6 (by decide)).kt KTo (by decide)
    · rw [if_neg e, if_neg e]; exact ((h.fl q (by omega)).kt KT6 (by decide)).kt KTo (by decide)
  · rw [hl] at hq
    show Apart (if q = K.length then _ else _) (if p = K.length then _ else _)
    rw [if_neg (by omega : p ≠ K.length)]
    by_cases e : q = K.length
    · rw [if_pos e]; exact hap p (by omega)
    · rw [if_neg e]; exact h.ap q p (by omega) hp
/-- behind Told -/
theorem CK.told (h : CK w0 rb g1 gA gS g7 W l K vL fs re wa du sn w) (k : Keep (PTold g7 re wa du) w w') (h7 : w0.heap.size ≤ g7) (hrb : w0.heap.size ≤ rb) (hg7 : g1 + 1 ≠ g7) :
    Ext w0 w' ∧ Blk w' (g1 + 1) 31 zeroWc ∧ Own w' w0.heap.size 49 vL K.length 6 (cL K fs) ∧ ∀ q, q < K.length → Own w' w0.heap.size 38 (fs q) (tAt K q).F.length 2 (cF (tAt K q).F) := by
  have hb : ∀ j, PTold g7 re wa du j → w0.heap.size ≤ j ∧ ∃ t cs, t ∈ [31, 3, 96] ∧ Blk w j t cs := by
    rintro j (e | e | e | e)
    · subst e; exact ⟨h7, _, _, by simp, h.b7⟩
    · obtain ⟨q, cs, b⟩ := h.R.re.block e; exact ⟨by omega, _, _, by simp, b⟩
    · obtain ⟨q, cs, b⟩ := h.R.wa.block e; exact ⟨by omega, _, _, by simp, b⟩
    · obtain ⟨q, cs, b⟩ := h.R.du.block e; exact ⟨by omega, _, _, by simp, b⟩
  have KTT : KT [31, 3, 96] w w' := Keep.mono k (fun j hj => (hb j hj).2)
  refine ⟨Ext.of_below (Keep.below h.x.below k h.x.below.size (fun i hi e => by have := (hb i e).1; omega)), h.b2.keep k ?_, h.L.kt KTT (by decide), fun q hq => (h.fl q hq).kt KTT (by decide)⟩
  rintro (e | e | e | e)
  · exact hg7 e
  · obtain ⟨q, cs, b⟩ := h.R.re.block e; exact h.b2.ne b (by decide) rfl
  · obtain ⟨q, cs, b⟩ := h.R.wa.block e; exact h.b2.ne b (by decide) rfl
  · obtain ⟨q, cs, b⟩ := h.R.du.block e; exact h.b2.ne b (by decide) rfl
end
theorem there_ok {W : PW} {x : Int} (h : x = 0 ∨ thereB W x = true) : okN W.L.length x := by
  rcases h with h | h
  · exact .inl h
  · unfold thereB liveB at h
    simp only [Bool.and_eq_true, decide_eq_true_eq] at h
    exact .inr h.2.1
theorem canon_ok {W : PW} (hc : checkB W = true) : OkR W.L.length W.R := by
  have hg := check_regs hc
  have hl := regs_lens hc
  unfold regsB at hg
  simp only [Bool.and_eq_true, Bool.or_eq_true, decide_eq_true_eq] at hg
  obtain ⟨g1, g2, g3, g4, _, g6, _⟩ := hg
  refine ⟨there_ok g1, there_ok g2, fun i hi => ?_, fun i hi => ?_, fun i hi => ?_, by omega, by omega, by omega⟩
  · exact there_ok (.inr ((allTo_iff _ _).1 g3 i hi))
  · unfold waitB at g6
    have q := (allTo_iff _ _).1 g6 i hi
    rw [Bool.and_eq_true] at q
    exact ⟨there_ok (.inr q.1), there_ok (.inr q.2)⟩
  · exact there_ok (.inr ((allTo_iff _ _).1 g4 i hi))
end Go.Proofs.YtjpalcejmloocaaGreat.World
namespace Go.Proofs.YtjpalcejmloocaaGreat.World
open Go.RowKit Go.Proofs.YtjpalcejmloocaaGreat.Plain
set_option linter.unusedVariables false
attribute [local go_sem ↓] Go.wp_at_zero Go.wp_at_succ
theorem Blk.after (w : World) (ob : Obj) (t : TypeId) (cs : Array Value) : Blk ((w.alloc ob).alloc (.cells cs t)) (w.heap.size + 1) t cs := by
  have h := Blk.new (w.alloc ob) t cs
  have e : (w.alloc ob).heap.size = w.heap.size + 1 := Array.size_push ..
  rw [e] at h; exact h
end Go.Proofs.YtjpalcejmloocaaGreat.World
namespace Go.Proofs.YtjpalcejmloocaaGreat.World
open Go.RowKit Go.Proofs.YtjpalcejmloocaaGreat.Plain
set_option linter.unusedVariables false
attribute [local go_sem ↓] Go.wp_at_zero Go.wp_at_succ
section
variable {w : World}
end
end Go.Proofs.YtjpalcejmloocaaGreat.World
namespace Go.Proofs.YtjpalcejmloocaaGreat.World
open Go.RowKit Go.Proofs.YtjpalcejmloocaaGreat.Plain
set_option linter.unusedVariables false
attribute [local go_sem ↓] Go.wp_at_zero Go.wp_at_succ
def eqPV (u v : PV) : Bool := u.obj == v.obj && u.n == v.n
def eqFs (F F' : List PV) : Bool := decide (F.length = F'.length) && allTo (fun i => eqPV (vAt F i) (vAt F' i)) F.length
def eqT (t t' : PT) : Bool := t.cls == t'.cls && (t.fmt == t'.fmt && (t.hash == t'.hash && (t.fin == t'.fin && (t.B == t'.B && eqFs t.F t'.F))))
def eqL (L L' : List PT) : Bool := decide (L.length = L'.length) && allTo (fun i => eqT (tAt L i) (tAt L' i)) L.length
def aggT (t : PT) (vF : Value) : Array Value := #[.int .i64 t.cls, .int .i64 t.fmt, .int .i64 t.hash, .bool t.fin, vF, .string t.B]
def eqP (u v : Int × Int) : Bool := u.1 == v.1 && u.2 == v.2
section
variable {w : World}
end
end Go.Proofs.YtjpalcejmloocaaGreat.World
namespace Go.Proofs.YtjpalcejmloocaaGreat.World
open Go.RowKit Go.Proofs.YtjpalcejmloocaaGreat.Plain
set_option linter.unusedVariables false
def ptr2 (g : Nat) : Value := .pointer (some ⟨g, 0, none⟩)
/-- a row of so many cells, of which more is known -/
structure RowP (n : Nat) (P : Array Value → World → Prop) (cs : Array Value) (W : World) : Prop where
  size : cs.size = n
  one : cs.all (·.oneCell') = true
  p : P cs W
/-- what a property of rows must bear -/
structure RowOk (T : TypeId) (P : Array Value → World → Prop) : Prop where
  ext : ∀ cs W W', P cs W → Ext W W' → P cs W'
  row : ∀ cs W g old c, P cs W → Blk W g T old → P cs (W.setRow g c)
structure TwoI (w0 : World) (n : Nat) (T : TypeId) (zs : Array Value) (PA PB : Array Value → World → Prop) (va vb : Value) (L : Nat → Bool) (s : Nat → Value) (W : World) : Prop where
  x : Ext w0 W
  v0 : L 0 = true → s 0 = va
  v1 : L 1 = true → ∃ cs, s 1 = .agg cs ∧ RowP n PA cs W
  v2 : L 2 = true → s 2 = vb
  v3 : L 3 = true → ∃ cs, s 3 = .agg cs ∧ RowP n PB cs W
  k6 : L 6 = true → L 4 = true
  k7 : L 7 = true → L 5 = true
  a4 : L 4 = true → L 6 = false → ∃ g, s 4 = ptr2 g ∧ w0.heap.size ≤ g ∧ Blk W g T zs
  a5 : L 5 = true → L 7 = false → ∃ g, s 5 = ptr2 g ∧ w0.heap.size ≤ g ∧ Blk W g T zs
  s6 : L 6 = true → ∃ g cs, s 4 = ptr2 g ∧ w0.heap.size ≤ g ∧ Blk W g T cs ∧ RowP n PA cs W
  s7 : L 7 = true → ∃ g cs, s 5 = ptr2 g ∧ w0.heap.size ≤ g ∧ Blk W g T cs ∧ RowP n PB cs W
  ne : L 4 = true → L 5 = true → s 4 ≠ s 5
section
variable {w0 W W' : World} {n : Nat} {T : TypeId} {zs : Array Value} {PA PB : Array Value → World → Prop} {va vb : Value} {L : Nat → Bool} {s : Nat → Value}
theorem RowP.ext {P : Array Value → World → Prop} {cs : Array Value} (h : RowP n P cs W) (o : RowOk T P) (y : Ext W W') : RowP n P cs W' := ⟨h.size, h.one, o.ext _ _ _ h.p y⟩
theorem RowP.row {P : Array Value → World → Prop} {cs c old : Array Value} {g : Nat} (h : RowP n P cs W) (o : RowOk T P) (b : Blk W g T old) : RowP n P cs (W.setRow g c) := ⟨h.size, h.one, o.row _ _ _ _ _ h.p b⟩
theorem TwoI.ext (oA : RowOk T PA) (oB : RowOk T PB) (I : TwoI w0 n T zs PA PB va vb L s W) (y : Ext W W') : TwoI w0 n T zs PA PB va vb L s W' :=
  ⟨I.x.trans y, I.v0, fun h => (I.v1 h).elim fun cs q => ⟨cs, q.1, q.2.ext oA y⟩, I.v2, fun h => (I.v3 h).elim fun cs q => ⟨cs, q.1, q.2.ext oB y⟩, I.k6, I.k7,
   fun h h' => (I.a4 h h').elim fun g q => ⟨g, q.1, q.2.1, q.2.2.ext y⟩, fun h h' => (I.a5 h h').elim fun g q => ⟨g, q.1, q.2.1, q.2.2.ext y⟩,
   fun h => by obtain ⟨g, cs, e, hb, b, r⟩ := I.s6 h; exact ⟨g, cs, e, hb, b.ext y, r.ext oA y⟩, fun h => by obtain ⟨g, cs, e, hb, b, r⟩ := I.s7 h; exact ⟨g, cs, e, hb, b.ext y, r.ext oB y⟩, I.ne⟩
/-- what holds at the end -/
theorem TwoI.done (I : TwoI w0 n T zs PA PB va vb L s W) (h : ∀ i, i < 8 → L i = true) : ∃ g g' cs cs', s 4 = ptr2 g ∧ s 5 = ptr2 g' ∧ w0.heap.size ≤ g ∧ w0.heap.size ≤ g' ∧ g ≠ g' ∧ Blk W g T cs ∧ Blk W g' T cs' ∧ RowP n PA cs W ∧ RowP n PB cs' W ∧ Ext w0 W := by
  obtain ⟨g, cs, e, hg, b, r⟩ := I.s6 (h 6 (by omega))
  obtain ⟨g', cs', e', hg', b', r'⟩ := I.s7 (h 7 (by omega))
  exact ⟨g, g', cs, cs', e, e', hg, hg', fun q => I.ne (h 4 (by omega)) (h 5 (by omega)) (by rw [e, e', q]), b, b', r, r', I.x⟩
end
end Go.Proofs.YtjpalcejmloocaaGreat.World
namespace Go.Proofs.YtjpalcejmloocaaGreat.World
open Go.RowKit Go.Proofs.YtjpalcejmloocaaGreat.Plain
set_option linter.unusedVariables false
attribute [local go_sem ↓] Go.wp_at_zero Go.wp_at_succ
def eqInts (l l' : List Int) : Bool := decide (l.length = l'.length) && allTo (fun i => l.getD i 0 == l'.getD i 0) l.length
def eqStrs (l l' : List ByteArray) : Bool := decide (l.length = l'.length) && allTo (fun i => sAt l i == sAt l' i) l.length
def eqWaits (l l' : List (Int × Int)) : Bool := decide (l.length = l'.length) && allTo (fun i => eqP (wAt l i) (wAt l' i)) l.length
def eqW (A B : PW) : Bool := A.last == B.last && (A.R.proc == B.R.proc && (A.R.frame == B.R.frame && (A.R.out == B.R.out && (A.R.inp == B.R.inp && (A.R.how == B.R.how && (A.R.exit == B.R.exit && (eqL A.L B.L && (eqInts A.R.ready B.R.ready && (eqWaits A.R.wait B.R.wait && (eqInts A.R.due B.R.due && eqStrs A.R.snaps B.R.snaps))))))))))
theorem NewW.ext {w w' : World} {b : Nat} {W : PW} {x : WV} (h : NewW w b W x) (y : Ext w w') : NewW w' b W x := ⟨h.L.ext y, fun i hi => (h.fs i hi).ext y, h.ap, h.dead.ext y, h.R.ext y, h.nums⟩
theorem NewW.kt {w w' : World} {b : Nat} {W : PW} {x : WV} {ts : List TypeId} (h : NewW w b W x) (k : KT ts w w') (h1 : 3 ∉ ts) (h2 : 96 ∉ ts) (h3 : 9 ∉ ts) (h4 : 49 ∉ ts) (h5 : 38 ∉ ts) (h6 : 4 ∉ ts) : NewW w' b W x :=
  ⟨h.L.kt k h4, fun i hi => (h.fs i hi).kt k h5, h.ap, h.dead.kt k h6, h.R.kt k h1 h2 h3, h.nums⟩
theorem NewW.base {w : World} {b b' : Nat} {W : PW} {x : WV} (h : NewW w b W x) (hb : b' ≤ b) : NewW w b' W x := ⟨h.L.base hb, fun i hi => (h.fs i hi).base hb, h.ap, h.dead.base hb, h.R.base hb, h.nums⟩
theorem NewW.row {w : World} {b : Nat} {W : PW} {x : WV} (h : NewW w b W x) : (cellsW W x).size = 13 ∧ (cellsW W x).all (·.oneCell') = true := by
  obtain ⟨vL, fs, vD, vRe, vWa, vDu, vSn⟩ := x
  obtain ⟨A1, c1, e1⟩ := Own.form h.L
  obtain ⟨A2, c2, e2⟩ := Own.form h.dead
  obtain ⟨A3, c3, e3⟩ := Own.form h.R.re
  obtain ⟨A4, c4, e4⟩ := Own.form h.R.wa
  obtain ⟨A5, c5, e5⟩ := Own.form h.R.du
  obtain ⟨A6, c6, e6⟩ := Own.form h.R.sn
  simp only at e1 e2 e3 e4 e5 e6
  subst e1 e2 e3 e4 e5 e6
  exact ⟨rfl, by simp [cellsW, Value.oneCell']⟩
section
variable {w : World}
def SameP (w : World) (WA WB : PW) (e : Ending) (w' : World) : Prop :=
  ∃ r, e = .returned (.bool r) ∧ (checkB WA = false → r = false) ∧ (checkB WB = false → r = false) ∧
      (checkB WA = true → checkB WB = true → ∃ la lb, RchL WA.L.length (nxW WA true) (rootsOf WA.R) la ∧ RchL WB.L.length (nxW WB true) (rootsOf WB.R) lb ∧ r = eqW (canonW WA la) (canonW WB lb)) ∧ Ext w w'
theorem SameP.yes {w w' : World} {WA WB : PW} {la lb : List Bool} {r : Bool} (hA : checkB WA = true) (hB : checkB WB = true) (ra : RchL WA.L.length (nxW WA true) (rootsOf WA.R) la) (rb : RchL WB.L.length (nxW WB true) (rootsOf WB.R) lb) (h : r = eqW (canonW WA la) (canonW WB lb)) (x : Ext w w') : SameP w WA WB (.returned (.bool r)) w' :=
  ⟨r, rfl, fun h => absurd h (by rw [hA]; decide), fun h => absurd h (by rw [hB]; decide), fun _ _ => ⟨la, lb, ra, rb, h⟩, x⟩
end
end Go.Proofs.YtjpalcejmloocaaGreat.World
namespace Go.Proofs.YtjpalcejmloocaaGreat.World
open Go.RowKit Go.Proofs.YtjpalcejmloocaaGreat.Plain
set_option linter.unusedVariables false
attribute [local go_sem ↓] Go.wp_at_zero Go.wp_at_succ
section
variable {w : World}
end
end Go.Proofs.YtjpalcejmloocaaGreat.World
