/-
  Reach11, Reach12, as one text (a claim has at most 60 files).
-/
import Derived.Test.YtadhkmplhgcgkaaMc18
namespace Go.Proofs.Ytadhkmplhgcgkaa.World
open Go.RowKit Go.Proofs.Ytadhkmplhgcgkaa.Plain
set_option linter.unusedVariables false
/-- how many are kept ahead of a place -/
def rankL (l : List Bool) (i : Nat) : Nat := (l.take i).countP (fun b => b)
theorem rankL_0 (l : List Bool) : rankL l 0 = 0 := rfl
theorem rankL_succ (l : List Bool) (i : Nat) (hi : i < l.length) : rankL l (i + 1) = rankL l i + (if sB l i = true then 1 else 0) := by
  unfold rankL sB
  rw [List.take_succ_eq_append_getElem hi, List.countP_append, List.getD_eq_getElem?_getD, List.getElem?_eq_getElem hi]
  congr 1
  show List.countP _ [l[i]] = if l[i] = true then 1 else 0
  rw [List.countP_singleton]
theorem rankL_le (l : List Bool) (i : Nat) : rankL l i ≤ i := by
  unfold rankL
  have := List.countP_le_length (p := fun b : Bool => b) (l := l.take i)
  rw [List.length_take] at this
  omega
/-- the places anew, laid up to i -/
def atK (l : List Bool) (i : Nat) : List Int := (List.range l.length).map (fun j => if j < i ∧ sB l j = true then (rankL l j : Int) else 0)
def atL (l : List Bool) : List Int := atK l l.length
theorem atK_len (l : List Bool) (i : Nat) : (atK l i).length = l.length := by unfold atK; simp
theorem atK_0 (l : List Bool) : atK l 0 = List.replicate l.length 0 := by
  unfold atK
  apply List.ext_getElem?
  intro q
  rw [List.getElem?_map, List.getElem?_replicate]
  by_cases h : q < l.length
  · rw [List.getElem?_range h, if_pos h]
    show some (if q < 0 ∧ sB l q = true then (rankL l q : Int) else 0) = some 0
    rw [if_neg (fun c => by omega)]
  · rw [List.getElem?_eq_none (by simpa using h), if_neg h]; rfl
theorem atK_yes (l : List Bool) (i : Nat) (hi : i < l.length) (hs : sB l i = true) : (atK l i).set i (rankL l i : Int) = atK l (i + 1) := by
  apply List.ext_getElem?
  intro q
  rw [List.getElem?_set, atK_len]
  unfold atK
  by_cases e : i = q
  · subst e
    rw [if_pos rfl, if_pos hi, List.getElem?_map, List.getElem?_range hi]
    show _ = some (if i < i + 1 ∧ sB l i = true then (rankL l i : Int) else 0)
    rw [if_pos ⟨by omega, hs⟩]
  · rw [if_neg e, List.getElem?_map, List.getElem?_map]
    by_cases h : q < l.length
    · rw [List.getElem?_range h]
      show some (if q < i ∧ sB l q = true then (rankL l q : Int) else 0) = some (if q < i + 1 ∧ sB l q = true then (rankL l q : Int) else 0)
      by_cases h2 : q < i
      · simp only [h2, show q < i + 1 by omega, true_and]
      · rw [if_neg (fun c => h2 c.1), if_neg (fun c => by omega)]
    · rw [List.getElem?_eq_none (by simpa using h)]; rfl
theorem atK_no (l : List Bool) (i : Nat) (hi : i < l.length) (hs : sB l i = false) : atK l i = atK l (i + 1) := by
  unfold atK
  refine List.map_congr_left fun q hq => ?_
  by_cases e : i = q
  · subst e; rw [if_neg (fun c => by omega), if_neg (fun c => by rw [hs] at c; cases c.2)]
  · by_cases h2 : q < i
    · simp only [h2, show q < i + 1 by omega, true_and]
    · rw [if_neg (fun c => h2 c.1), if_neg (fun c => by omega)]
/-- a value, a thing told anew -/
def canV (a : List Int) (v : PV) : PV := if v.obj = true then ⟨true, fA a v.n⟩ else v
def canT (a : List Int) (t : PT) : PT := { t with cls := fA a t.cls, F := t.F.map (canV a) }
def canK (W : PW) (l : List Bool) (i : Nat) : List PT := ((List.range i).filter (fun j => sB l j)).map (fun j => canT (atL l) (tAt W.L j))
theorem canK_succ (W : PW) (l : List Bool) (i : Nat) : canK W l (i + 1) = canK W l i ++ (if sB l i = true then [canT (atL l) (tAt W.L i)] else []) := by
  unfold canK
  rw [List.range_succ, List.filter_append, List.map_append]
  congr 1
  by_cases h : sB l i = true
  · rw [if_pos h, List.filter_cons_of_pos h]; rfl
  · rw [if_neg h, List.filter_cons_of_neg h]; rfl
theorem canK_len (W : PW) (l : List Bool) (i : Nat) : (canK W l i).length ≤ i := by
  unfold canK
  rw [List.length_map]
  have := List.length_filter_le (fun j => sB l j) (List.range i)
  rw [List.length_range] at this
  exact this
/-- a world with what can be come to alone -/
def canonW (W : PW) (l : List Bool) : PW := ⟨canK W l W.L.length, [], W.last, toldR (fA (atL l)) W.R⟩
end Go.Proofs.Ytadhkmplhgcgkaa.World
namespace Go.Proofs.Ytadhkmplhgcgkaa.World
open Go.RowKit Go.Proofs.Ytadhkmplhgcgkaa.Plain
set_option linter.unusedVariables false
def zeroWc : Array Value := #[.slice none 0 0, .slice none 0 0, .int .i64 0, .int .i64 0, .int .i64 0, .slice none 0 0, .slice none 0 0, .slice none 0 0, .string ByteArray.empty, .string ByteArray.empty, .int .i64 0, .int .i64 0, .slice none 0 0]
theorem vAt_set (l : List PV) (i k : Nat) (y : PV) (hi : i < l.length) : vAt (l.set i y) k = if k = i then y else vAt l k := by
  unfold vAt
  rw [List.getD_eq_getElem?_getD, List.getD_eq_getElem?_getD, List.getElem?_set]
  by_cases e : i = k
  · subst e; rw [if_pos rfl, if_pos hi, if_pos rfl]; rfl
  · rw [if_neg e, if_neg (fun h => e h.symm)]
theorem flat_vals_set (l : List PV) (i : Nat) (hi : i < l.length) (y : PV) (j : Nat) (hj : j < 2) (hy : ∀ q, q < 2 → q ≠ j → cV y q = cV (vAt l i) q) : flat l.length 2 (cF (l.set i y)) = (flat l.length 2 (cF l)).set (i * 2 + j) (cV y j) := by
  apply List.ext_getElem?
  intro q
  rw [List.getElem?_set, flat_len]
  by_cases hq : q < l.length * 2
  · have e : ∀ c : Nat → Nat → Value, (flat l.length 2 c)[q]? = some (c (q / 2) (q % 2)) := fun c => by
      unfold flat
      rw [List.getElem?_map, List.getElem?_range hq]; rfl
    rw [e, e]
    unfold cF
    rw [vAt_set _ _ _ _ hi]
    by_cases h1 : q / 2 = i
    · rw [if_pos h1]
      by_cases h2 : q % 2 = j
      · rw [if_pos (by omega), if_pos (by omega), h2]
      · rw [if_neg (by omega), h1, hy _ (by omega) h2]
    · rw [if_neg h1, if_neg (by omega)]
  · have e : ∀ c : Nat → Nat → Value, (flat l.length 2 c)[q]? = none := fun c => List.getElem?_eq_none (by rw [flat_len]; omega)
    rw [e, e]
    split
    · rename_i h1
      rw [if_neg (by omega)]
    · rfl
/-- fields, k of them told anew -/
def canP (a : List Int) (l : List PV) (i : Nat) : List PV := (l.take i).map (canV a) ++ l.drop i
theorem canP_len (a : List Int) (l : List PV) (i : Nat) : (canP a l i).length = l.length := by unfold canP; simp; omega
theorem canP_0 (a : List Int) (l : List PV) : canP a l 0 = l := by unfold canP; simp
theorem canP_all (a : List Int) (l : List PV) : canP a l l.length = l.map (canV a) := by unfold canP; simp
theorem canP_at (a : List Int) (l : List PV) (i : Nat) (hi : i < l.length) : vAt (canP a l i) i = vAt l i := by
  unfold canP vAt
  rw [List.getD_eq_getElem?_getD, List.getElem?_append_right (by simp; omega), List.getElem?_drop, List.getD_eq_getElem?_getD]
  simp
  congr 2; omega
theorem canP_set (a : List Int) (l : List PV) (i : Nat) (hi : i < l.length) : (canP a l i).set i (canV a (vAt l i)) = canP a l (i + 1) := by
  apply List.ext_getElem?
  intro q
  rw [List.getElem?_set, canP_len]
  unfold canP vAt
  by_cases e : i = q
  · subst e
    rw [if_pos rfl, if_pos hi, List.getElem?_append_left (by simp; omega), List.getElem?_map, List.getElem?_take_of_lt (by omega), List.getElem?_eq_getElem hi, List.getD_eq_getElem?_getD, List.getElem?_eq_getElem hi]; rfl
  · rw [if_neg e]
    by_cases h : q < i
    · rw [List.getElem?_append_left (by simp; omega), List.getElem?_append_left (by simp; omega), List.getElem?_map, List.getElem?_map, List.getElem?_take_of_lt h, List.getElem?_take_of_lt (by omega)]
    · rw [List.getElem?_append_right (by simp; omega), List.getElem?_append_right (by simp; omega), List.getElem?_drop, List.getElem?_drop]
      congr 1
      simp only [List.length_map, List.length_take]
      omega
theorem canP_same (a : List Int) (l : List PV) (i : Nat) (hi : i < l.length) (ho : (vAt l i).obj = false) : canP a l i = canP a l (i + 1) := by
  rw [← canP_set a l i hi]
  have e : canV a (vAt l i) = vAt (canP a l i) i := by
    rw [canP_at a l i hi]; unfold canV; rw [ho]; rfl
  rw [e]
  apply List.ext_getElem?
  intro q
  rw [List.getElem?_set]
  by_cases h : i = q
  · subst h
    have hl : i < (canP a l i).length := by rw [canP_len]; exact hi
    rw [if_pos rfl, if_pos hl, List.getElem?_eq_getElem hl]
    unfold vAt
    rw [List.getD_eq_getElem?_getD, List.getElem?_eq_getElem hl]; rfl
  · rw [if_neg h]
/-- a field of a row of the call's own -/
theorem own_val {w : World} {base n : Nat} {v : Value} {F : List PV} (h : Own w base 37 v n 2 (cF F)) (hn : n = F.length) (j : Nat) (hj : j < n) : ∃ g cap cur, v = .slice (some ⟨g, 0, none⟩) n cap ∧ n ≤ cap ∧ cap ≤ 9223372036854775807 ∧ base ≤ g ∧ Blk w g 37 cur ∧
    w.cell? ⟨g, j * 2, none⟩ = some (.bool (vAt F j).obj) ∧ w.cell? ⟨g, j * 2 + 1, none⟩ = some (.int .i64 (vAt F j).n) ∧ ∀ w' y, Blk w' g 37 (cur.setIfInBounds (j * 2 + 1) (.int .i64 y)) → Own w' base 37 v n 2 (cF (F.set j ⟨(vAt F j).obj, y⟩)) := by
  subst hn
  have S : ∀ y, flat F.length 2 (cF (F.set j ⟨(vAt F j).obj, y⟩)) = (flat F.length 2 (cF F)).set (j * 2 + 1) (.int .i64 y) := fun y => flat_vals_set F j hj ⟨(vAt F j).obj, y⟩ 1 (by omega) (fun q hq hn => by
    obtain rfl : q = 0 := by omega
    rfl)
  obtain ⟨g, cap, cur, rfl, h1, h2, h3, hb, hc, _⟩ := h.put (o := j * 2 + 1) (by omega) (S 0)
  obtain ⟨b, off, e, _, cc⟩ := h.row.at_ j hj
  injection e with e
  injection e with e1 e2
  subst e1 e2
  have c0 := cc 0 (by omega)
  have c1 := cc 1 (by omega)
  rw [Nat.zero_add] at c0 c1
  refine ⟨_, cap, cur, rfl, h1, h2, h3, hb, c0, c1, fun w' y b => ?_⟩
  obtain ⟨g', cap', cur', e', _, _, _, hb', _, hput⟩ := h.put (o := j * 2 + 1) (by omega) (S y)
  injection e' with e1; injection e1 with e1; injection e1 with e1
  subst e1
  have ec : cur' = cur := by
    have a : w.heap[g]? = _ := hb
    have a' : w.heap[g]? = _ := hb'
    rw [a] at a'
    injection a' with a'; injection a' with a'; exact a'.symm
  subst ec
  exact hput w' b
theorem tAt_push (K : List PT) (t : PT) (q : Nat) (hq : q < K.length + 1) : tAt (K ++ [t]) q = if q = K.length then t else tAt K q := by
  unfold tAt
  by_cases e : q = K.length
  · subst e; rw [if_pos rfl, List.getD_eq_getElem?_getD, List.getElem?_append_right (Nat.le_refl _)]; simp
  · rw [if_neg e, List.getD_eq_getElem?_getD, List.getElem?_append_left (by omega), List.getD_eq_getElem?_getD]
structure CK (w0 : World) (rb g1 gA gS g7 : Nat) (W : PW) (l : List Bool) (K : List PT) (vL : Value) (fs : Nat → Value) (re wa du sn : Value) (w : World) : Prop where
  x : Ext w0 w
  b2 : Blk w (g1 + 1) 31 zeroWc
  bS : Blk w gS 4 (l.map Value.bool).toArray
  b4 : Blk w (gA + 1) 22 #[.slice (some ⟨gA, 0, none⟩) W.L.length W.L.length]
  bA : Blk w gA 3 ((atL l).map (Value.int .i64)).toArray
  b7 : Blk w g7 31 (cellsC W vL (.slice none 0 0) re wa du sn)
  L : Own w w0.heap.size 57 vL K.length 6 (cL K fs)
  fl : ∀ q, q < K.length → Own w w0.heap.size 37 (fs q) (tAt K q).F.length 2 (cF (tAt K q).F)
  ap : ∀ q p, q < K.length → p < q → Apart (fs q) (fs p)
  R : RegsNew w rb W.R re wa du sn
section
variable {w0 w w' : World} {rb g1 gA gS g7 : Nat} {W : PW} {l : List Bool} {K : List PT} {vL : Value} {fs : Nat → Value} {re wa du sn : Value}
theorem CK.ext (h : CK w0 rb g1 gA gS g7 W l K vL fs re wa du sn w) (y : Ext w w') : CK w0 rb g1 gA gS g7 W l K vL fs re wa du sn w' :=
  ⟨h.x.trans y, h.b2.ext y, h.bS.ext y, h.b4.ext y, h.bA.ext y, h.b7.ext y, h.L.ext y, fun q hq => (h.fl q hq).ext y, h.ap, h.R.ext y⟩
/-- a row of fields that is not yet the world's is turned -/
theorem CK.val {gV : Nat} {cur : Array Value} (h : CK w0 rb g1 gA gS g7 W l K vL fs re wa du sn w) (k : Keep (· = gV) w w') (hv : Blk w gV 37 cur) (hb : w0.heap.size ≤ gV) (hn : ∀ q, q < K.length → (fs q).ownBlock ≠ some gV) : CK w0 rb g1 gA gS g7 W l K vL fs re wa du sn w' :=
  ⟨Ext.of_below (Keep.below h.x.below k h.x.below.size (fun i hi e => by have e : i = gV := e; omega)), h.b2.keep k (h.b2.ne hv (by decide)), h.bS.keep k (h.bS.ne hv (by decide)), h.b4.keep k (h.b4.ne hv (by decide)), h.bA.keep k (h.bA.ne hv (by decide)), h.b7.keep k (h.b7.ne hv (by decide)),
    h.L.keep k hv (by decide), fun q hq => (h.fl q hq).away k (hn q hq), h.ap, ⟨h.R.ap, h.R.re.keep k hv (by decide), h.R.wa.keep k hv (by decide), h.R.du.keep k hv (by decide), h.R.sn.keep k hv (by decide)⟩⟩
/-- a thing is put behind -/
theorem CK.push {w6 : World} {t : PT} {v' vF : Value} (h : CK w0 rb g1 gA gS g7 W l K vL fs re wa du sn w) (KW : Keep (fun j => vL.ownBlock = some j) w w6)
    (o6 : w6.ownsRow w0.heap.size 57 6 v' (K.length + 1) (flat K.length 6 (cL K fs) ++ [.int .i64 t.cls, .int .i64 t.fmt, .int .i64 t.hash, .bool t.fin, vF, .string t.B]))
    (OW : Own w w0.heap.size 37 vF t.F.length 2 (cF t.F)) (hap : ∀ q, q < K.length → Apart vF (fs q)) (h7 : w0.heap.size ≤ g7) (hg7 : g1 + 1 ≠ g7) :
    CK w0 rb g1 gA gS g7 W l (K ++ [t]) v' (fun i => if i = K.length then vF else fs i) re wa du sn (w6.setCell ⟨g7, 0, none⟩ v') := by
  have KT6 : KT [57] w w6 := Keep.mono KW (fun j hj => by obtain ⟨_, cs, hb⟩ := h.L.block hj; exact ⟨_, _, by simp, hb⟩)
  have X6 : Ext w0 w6 := Ext.of_below (Keep.below h.x.below KW h.x.below.size (fun i hi e => by have := (h.L.block e).1; omega))
  have B7 := blk_kt h.b7 KT6 (by decide)
  have KTo := kt_set B7 0 v'
  have hl : (K ++ [t]).length = K.length + 1 := by simp
  have L6 : Own w6 w0.heap.size 57 v' (K ++ [t]).length 6 (cL (K ++ [t]) (fun i => if i = K.length then vF else fs i)) := by
    show w6.ownsRow _ _ _ _ _ _
    have e1 : (List.range 6).map (cL (K ++ [t]) (fun i => if i = K.length then vF else fs i) K.length) = [.int .i64 t.cls, .int .i64 t.fmt, .int .i64 t.hash, .bool t.fin, vF, .string t.B] := by
      rw [show List.range 6 = [0, 1, 2, 3, 4, 5] from rfl]
      simp only [List.map_cons, List.map_nil, cL, cT, if_true, tAt_push K t K.length (by omega)]
    have e2 : flat K.length 6 (cL (K ++ [t]) (fun i => if i = K.length then vF else fs i)) = flat K.length 6 (cL K fs) := flat_congr (fun i j hi => by simp only [cL]; rw [if_neg (by omega), tAt_push K t i (by omega), if_neg (by omega)])
    rw [hl, flat_succ, e1, e2]
    exact o6
  refine ⟨X6.setNew (p := ⟨g7, 0, none⟩) h7 _, (blk_kt h.b2 KT6 (by decide)).far (p := ⟨g7, 0, none⟩) hg7 _, blk_kt (blk_kt h.bS KT6 (by decide)) KTo (by decide), blk_kt (blk_kt h.b4 KT6 (by decide)) KTo (by decide), blk_kt (blk_kt h.bA KT6 (by decide)) KTo (by decide), ?_, L6.kt KTo (by decide), fun q hq => ?_, fun q p hq hp => ?_, (h.R.kt KT6 (by decide) (by decide) (by decide)).kt KTo (by decide) (by decide) (by decide)⟩
  · have := B7.set 0 v'
    simpa [cellsC] using this
  · rw [hl] at hq
    show Own _ _ _ (if q = K.length then _ else _) _ _ _
    rw [tAt_push K t q hq]
    by_cases e : q = K.length
    · rw [if_pos e, if_pos e]; exact (OW.kt KT6 (by decide)).kt KTo (by decide)
    · rw [if_neg e, if_neg e]; exact ((h.fl q (by omega)).kt KT6 (by decide)).kt KTo (by decide)
  · rw [hl] at hq
    show Apart (if q = K.length then _ else _) (if p = K.length then _ else _)
    rw [if_neg (by omega : p ≠ K.length)]
    by_cases e : q = K.length
    · rw [if_pos e]; exact hap p (by omega)
    · rw [if_neg e]; exact h.ap q p (by omega) hp
/-- behind Told -/
theorem CK.told (h : CK w0 rb g1 gA gS g7 W l K vL fs re wa du sn w) (k : Keep (PTold g7 re wa du) w w') (h7 : w0.heap.size ≤ g7) (hrb : w0.heap.size ≤ rb) (hg7 : g1 + 1 ≠ g7) :
    Ext w0 w' ∧ Blk w' (g1 + 1) 31 zeroWc ∧ Own w' w0.heap.size 57 vL K.length 6 (cL K fs) ∧ ∀ q, q < K.length → Own w' w0.heap.size 37 (fs q) (tAt K q).F.length 2 (cF (tAt K q).F) := by
  have hb : ∀ j, PTold g7 re wa du j → w0.heap.size ≤ j ∧ ∃ t cs, t ∈ [31, 3, 75] ∧ Blk w j t cs := by
    rintro j (e | e | e | e)
    · subst e; exact ⟨h7, _, _, by simp, h.b7⟩
    · obtain ⟨q, cs, b⟩ := h.R.re.block e; exact ⟨by omega, _, _, by simp, b⟩
    · obtain ⟨q, cs, b⟩ := h.R.wa.block e; exact ⟨by omega, _, _, by simp, b⟩
    · obtain ⟨q, cs, b⟩ := h.R.du.block e; exact ⟨by omega, _, _, by simp, b⟩
  have KTT : KT [31, 3, 75] w w' := Keep.mono k (fun j hj => (hb j hj).2)
  refine ⟨Ext.of_below (Keep.below h.x.below k h.x.below.size (fun i hi e => by have := (hb i e).1; omega)), h.b2.keep k ?_, h.L.kt KTT (by decide), fun q hq => (h.fl q hq).kt KTT (by decide)⟩
  rintro (e | e | e | e)
  · exact hg7 e
  · obtain ⟨q, cs, b⟩ := h.R.re.block e; exact h.b2.ne b (by decide) rfl
  · obtain ⟨q, cs, b⟩ := h.R.wa.block e; exact h.b2.ne b (by decide) rfl
  · obtain ⟨q, cs, b⟩ := h.R.du.block e; exact h.b2.ne b (by decide) rfl
end
theorem fA_le (l : List Bool) (x : Int) : 0 ≤ fA (atL l) x ∧ fA (atL l) x ≤ l.length := by
  unfold fA atL atK
  rw [List.getD_eq_getElem?_getD, List.getElem?_map]
  by_cases h : x.toNat < l.length
  · rw [List.getElem?_range h]
    show 0 ≤ (if x.toNat < l.length ∧ sB l x.toNat = true then (rankL l x.toNat : Int) else 0) ∧ (if x.toNat < l.length ∧ sB l x.toNat = true then (rankL l x.toNat : Int) else 0) ≤ l.length
    have := rankL_le l x.toNat
    split <;> omega
  · rw [List.getElem?_eq_none (by simpa using h)]
    show 0 ≤ (0 : Int) ∧ (0 : Int) ≤ l.length
    omega
theorem fA_in (l : List Bool) (h : l.length ≤ 3000) (x : Int) : in64 (fA (atL l) x) := by
  have := fA_le l x
  unfold in64; omega
theorem told_in (l : List Bool) (h : l.length ≤ 3000) (x : Int) : in64 (toldN (fA (atL l)) x) := by
  unfold toldN
  split
  · unfold in64; omega
  · exact fA_in l h x
theorem canon_nums {W : PW} {l : List Bool} (n : Nums W) (hc : checkB W = true) (h : l.length = W.L.length) : Nums (canonW W l) := by
  have hl : l.length ≤ 3000 := by rw [h]; exact (check_len hc).2
  refine ⟨n.last, told_in l hl _, told_in l hl _, n.how, n.exit, n.out, n.inp, fun x hx => ?_, fun x hx => ?_, fun x hx => ?_, n.snaps, fun t ht => ?_⟩
  · obtain ⟨y, _, rfl⟩ := List.mem_map.1 hx; exact told_in l hl _
  · obtain ⟨y, _, rfl⟩ := List.mem_map.1 hx; exact told_in l hl _
  · obtain ⟨y, _, rfl⟩ := List.mem_map.1 hx; exact ⟨told_in l hl _, told_in l hl _⟩
  · obtain ⟨j, hj, rfl⟩ := List.mem_map.1 (show t ∈ ((List.range W.L.length).filter (fun j => sB l j)).map (fun j => canT (atL l) (tAt W.L j)) from ht)
    have hj2 : j < W.L.length := List.mem_range.1 (List.mem_filter.1 hj).1
    have q := n.things _ (tAt_mem hj2)
    refine ⟨fA_in l hl _, q.2.1, q.2.2.1, q.2.2.2.1, fun v hv => ?_⟩
    obtain ⟨u, hu, rfl⟩ := List.mem_map.1 hv
    unfold canV
    split
    · exact fA_in l hl _
    · exact q.2.2.2.2 u hu
theorem canon_at {w : World} {base rb : Nat} {W : PW} {l : List Bool} {vL re wa du sn : Value} {fs : Nat → Value} (L : Own w base 57 vL (canK W l W.L.length).length 6 (cL (canK W l W.L.length) fs))
    (hf : ∀ q, q < (canK W l W.L.length).length → Own w base 37 (fs q) (tAt (canK W l W.L.length) q).F.length 2 (cF (tAt (canK W l W.L.length) q).F)) (R : RegsNew w rb (toldR (fA (atL l)) W.R) re wa du sn) (n : Nums (canonW W l)) :
    WorldAt w ⟨vL, fs, .slice none 0 0, re, wa, du, sn⟩ (canonW W l) :=
  ⟨⟨L.row, fun i hi => (hf i hi).row⟩, ⟨none, 0, rfl, Nat.le_refl _, by omega, fun i hi => absurd hi (Nat.not_lt_zero _)⟩, R.re.row, R.wa.row, R.du.row, R.sn.row, n⟩
theorem canon_new {w : World} {base : Nat} {W : PW} {l : List Bool} {vL re wa du sn : Value} {fs : Nat → Value} (L : Own w base 57 vL (canK W l W.L.length).length 6 (cL (canK W l W.L.length) fs))
    (hf : ∀ q, q < (canK W l W.L.length).length → Own w base 37 (fs q) (tAt (canK W l W.L.length) q).F.length 2 (cF (tAt (canK W l W.L.length) q).F)) (ap : ∀ q p, q < (canK W l W.L.length).length → p < q → Apart (fs q) (fs p))
    (R : RegsNew w base (toldR (fA (atL l)) W.R) re wa du sn) (n : Nums (canonW W l)) :
    NewW w base (canonW W l) ⟨vL, fs, .slice none 0 0, re, wa, du, sn⟩ :=
  ⟨L, hf, ap, ⟨rfl, .inl ⟨rfl, rfl⟩⟩, R, n⟩
theorem there_ok {W : PW} {x : Int} (h : x = 0 ∨ thereB W x = true) : okN W.L.length x := by
  rcases h with h | h
  · exact .inl h
  · unfold thereB liveB at h
    simp only [Bool.and_eq_true, decide_eq_true_eq] at h
    exact .inr h.2.1
theorem canon_ok {W : PW} (hc : checkB W = true) : OkR W.L.length W.R := by
  have hg := check_regs hc
  have hl := regs_lens hc
  unfold regsB at hg
  simp only [Bool.and_eq_true, Bool.or_eq_true, decide_eq_true_eq] at hg
  obtain ⟨g1, g2, g3, g4, _, g6, _⟩ := hg
  refine ⟨there_ok g1, there_ok g2, fun i hi => ?_, fun i hi => ?_, fun i hi => ?_, by omega, by omega, by omega⟩
  · exact there_ok (.inr ((allTo_iff _ _).1 g3 i hi))
  · unfold waitB at g6
    have q := (allTo_iff _ _).1 g6 i hi
    rw [Bool.and_eq_true] at q
    exact ⟨there_ok (.inr q.1), there_ok (.inr q.2)⟩
  · exact there_ok (.inr ((allTo_iff _ _).1 g4 i hi))
theorem canon_fld {W : PW} (hc : checkB W = true) {i : Nat} (hi : i < W.L.length) : (tAt W.L i).F.length ≤ 60 ∧ ∀ k, k < (tAt W.L i).F.length → (vAt (tAt W.L i).F k).obj = true → 0 ≤ (vAt (tAt W.L i).F k).n ∧ (vAt (tAt W.L i).F k).n < W.L.length := by
  have z := (check_thing hc hi).2
  unfold shapeB at z
  split at z
  · simp only [Bool.and_eq_true, decide_eq_true_eq] at z
    exact ⟨by omega, fun k hk => by omega⟩
  · split at z
    · simp only [Bool.and_eq_true, decide_eq_true_eq] at z
      refine ⟨z.2.1, fun k hk ho => ?_⟩
      have q := (allTo_iff _ _).1 z.2.2 k hk
      unfold fldB at q
      rw [ho] at q
      exact of_decide_eq_true q
    · cases z
end Go.Proofs.Ytadhkmplhgcgkaa.World
