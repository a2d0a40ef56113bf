/-
  SimpleBlocks, plain.
-/
import Derived.Test.YtnhijjcplnomgaaGreatSimpleDo18
import Derived.Test.YtnhijjcplnomgaaGreatThingF
namespace Go.Proofs.YtnhijjcplnomgaaGreat.World
open Go.RowKit Go.Proofs.YtnhijjcplnomgaaGreat.Plain
set_option linter.unusedVariables false
def blocksW : PW := (firstW.meth 0 0 0).start 24 0 (num 0) 5
theorem blocksW_check : checkB blocksW = true := by decide +kernel
theorem blocksW_len : blocksW.L.length = 27 := by unfold blocksW PW.start PW.meth; rw [len_add, len_add, len_add, len_add]; rfl
theorem blocksW_first (i : Nat) (hi : i < 23) : tAt blocksW.L i = firstT i := by
  have e : firstW.L.length = 23 := rfl
  unfold blocksW PW.start PW.meth
  rw [tAt_add _ _ _ _ _ _ (by simp only [len_add]; omega), tAt_add _ _ _ _ _ _ (by simp only [len_add]; omega), tAt_add _ _ _ _ _ _ (by simp only [len_add]; omega), tAt_add _ _ _ _ _ _ (by omega)]
  exact first_at i hi
structure SB (S : MS) (p : Int) : Prop where
  std : S.Std
  fr : MS.Fr S 25
  pc : S.get 25 1 = num p
  meth : S.get 25 3 = objV 24
  blk : S.get 25 5 = objV 0
  sp : S.get 25 2 = num 0
  len : S.L.length = 27
  last : S.last < 3000
theorem sb0 : SB (newS blocksW 5) 0 := by
  have s := std_new blocksW_check blocksW_first 5
  have e3 : (newS blocksW 5).get 25 3 = objV 24 := by kernel_rfl
  have e5 : (newS blocksW 5).get 25 5 = objV 0 := by kernel_rfl
  exact ⟨s, ⟨s.wf, by decide +kernel, by rw [e3]; decide, by rw [e5]; decide⟩, by kernel_rfl, e3, e5, by kernel_rfl, blocksW_len, by decide +kernel⟩
theorem SB.go {S : MS} {p q : Int} (h : SB S p) (hq : 0 ≤ q ∧ q ≤ 60) : S.goOK 25 q = true ∧ SB (S.goTo 25 q) q := by
  obtain ⟨ok, e, fr, m, g⟩ := h.fr.next (n := q) (by omega)
  have gi : S.goIn 25 q = true := by unfold MS.goIn; rw [decide_eq_true hq, h.fr.is]; rfl
  have gt : S.goTo 25 q = S.put 25 1 (num q) := by unfold MS.goTo; rw [gi, if_pos rfl, e]
  have hf := h.fr.field (l := 1) (by omega)
  refine ⟨by unfold MS.goOK; rw [gi, ok]; rfl, ?_⟩
  rw [gt]
  exact ⟨h.std.put (by omega) hf (MS.fits_small (n := q) (by omega)), fr, by rw [g, if_pos ⟨rfl, rfl⟩], by rw [g, if_neg (by omega)]; exact h.meth, by rw [g, if_neg (by omega)]; exact h.blk, by rw [g, if_neg (by omega)]; exact h.sp, by rw [m.len]; exact h.len, by rw [m.last]; exact h.last⟩
structure SBR (P : MS) (f : Nat → PV) : Prop where
  g6 : P.get 25 6 = objV 27
  g2 : P.get 25 2 = num 1
  has : P.has 27 = true
  fmt : P.fmt 27 ≠ 3
  cls : (P.t 27).cls = 13
  len : (P.t 27).F.length = 4
  fld : ∀ j, j < 4 → vAt (P.t 27).F j = f j
theorem SB.block {S : MS} {p : Int} (h : SB S p) {f : Nat → PV} (hf : ∀ j, j < 4 → S.block0.may (f j) = true) : (S.clS f 4).pushOK 25 (objV 27) = true ∧ SBR ((S.clS f 4).push 25 (objV 27)) f := by
  obtain ⟨o, m, g, _⟩ := MS.clS_ok h.std h.last f hf 4 (by omega)
  have hn : (S.L.length : Int) = 27 := by rw [h.len]; rfl
  rw [hn] at o g
  have gb : ∀ k q : Int, k ≠ 27 → S.block0.get k q = S.get k q := fun k q hk => MS.get_add h.std.wf (by rw [hn]; exact hk) q
  have gc : ∀ k q : Int, k ≠ 27 → (S.clS f 4).get k q = S.block0.get k q := fun k q hk => (g k q hk).trans (gb k q hk).symm
  have is : (S.clS f 4).isFrame 25 = true := by
    rw [m.isFrame (gc 25 · (by omega)) (fun q => gc _ q (by rw [gb _ _ (by omega), h.meth]; decide)) (fun q => gc _ q (by rw [gb _ _ (by omega), h.blk]; decide))]
    exact MS.isFrame_add h.std.wf h.fr.is
  have fr : MS.Fr (S.clS f 4) 25 := ⟨o.std.wf, is, by rw [g _ _ (by omega), h.meth]; decide, by rw [g _ _ (by omega), h.blk]; decide⟩
  have hasN : (S.clS f 4).has 27 = true := MS.fmt_has (by rw [o.fmt]; decide)
  have spz : (S.clS f 4).sp 25 = 0 := by
    show ((S.clS f 4).get 25 2).n = 0
    rw [g _ _ (by omega), h.sp]; rfl
  obtain ⟨ok, fr2, m2, g2⟩ := fr.push (v := objV 27) (by rw [spz]; omega) hasN
  rw [spz] at g2
  have hasP : ((S.clS f 4).push 25 (objV 27)).has 27 = true := by rw [m2.has]; exact hasN
  have fmtP : ((S.clS f 4).push 25 (objV 27)).fmt 27 = 1 := by rw [m2.fmt]; exact o.fmt
  have szP : ((S.clS f 4).push 25 (objV 27)).size 27 = 4 := by rw [m2.size]; exact o.size
  have clsP : ((S.clS f 4).push 25 (objV 27)).cls 27 = 13 := by
    rw [m2.cls, m.cls]
    have hh : S.block0.has 27 = true := by rw [← m.has]; exact hasN
    unfold MS.cls; rw [hh, if_pos rfl]
    have e : S.block0.t 27 = MS.newT 13 1 4 (S.last + 1) := by rw [← hn]; exact MS.t_new
    rw [e]; rfl
  generalize hP : (S.clS f 4).push 25 (objV 27) = P at *
  have hB : (P.t 27).B.size = 0 := by
    have hlt := MS.has_lt hasP
    refine fr2.wf.noB (27 : Int).toNat (by omega) ?_
    have q := fmtP
    unfold MS.fmt at q; rw [hasP, if_pos rfl] at q
    show (P.t 27).fmt ≠ 3
    rw [q]; decide
  have hlen : (P.t 27).F.length = 4 := by
    have q := szP
    unfold MS.size at q; rw [hasP, if_pos rfl, hB] at q
    omega
  refine ⟨ok, ⟨by rw [g2, if_neg (by omega), if_pos ⟨rfl, by omega⟩], by rw [g2, if_pos ⟨rfl, rfl⟩]; rfl, hasP, by rw [fmtP]; decide, ?_, hlen, fun j hj => ?_⟩⟩
  · have q := clsP
    unfold MS.cls at q; rw [hasP, if_pos rfl] at q; exact q
  · have q := o.get j hj
    rw [if_pos hj] at q
    have e := g2 27 j
    rw [if_neg (by omega), if_neg (by omega), q] at e
    have hf : P.isField 27 j = true := by
      unfold MS.isField
      rw [hasP, fmtP, szP, decide_eq_true (show 0 ≤ (j : Int) ∧ (j : Int) < 4 by omega)]; rfl
    unfold MS.get at e
    rw [if_pos hf] at e
    exact e
theorem SB.may {S : MS} {p : Int} (h : SB S p) {a t q : Int} (ha : 0 ≤ a ∧ a ≤ 100 ∧ 0 ≤ t ∧ t ≤ 100 ∧ 0 ≤ q ∧ q ≤ 100) : ∀ j, j < 4 → S.block0.may (MS.clV 25 a t q j) = true := fun j hj => by
  unfold MS.clV
  split
  · exact MS.has_add_old h.std.wf (MS.isFrame_has h.fr.is)
  · split
    · exact MS.fits_small (n := a) (by omega)
    · split
      · exact MS.fits_small (n := t) (by omega)
      · exact MS.fits_small (n := q) (by omega)
theorem own4 {w : World} {b : Nat} {v : Value} {F : List PV} (h : Own w b 40 v 4 2 (cF F)) : ∃ g cap, v = .slice (some ⟨g, 0, none⟩) 4 cap ∧ g < w.heap.size ∧ (∀ i, i < 4 → w.cell? ⟨g, i * 2, none⟩ = some (.bool (vAt F i).obj) ∧ w.cell? ⟨g, i * 2 + 1, none⟩ = some (.int .i64 (vAt F i).n)) := by
  obtain ⟨g, cap, rfl, _, _, hg, _⟩ := h.lt 0 (by omega)
  refine ⟨g, cap, rfl, hg, fun i hi => ?_⟩
  obtain ⟨g', cap', e, _, _, _, hc, _⟩ := h.lt i hi
  injection e with e1 e2 e3
  injection e1 with e1
  injection e1 with e1
  subst e1
  exact ⟨hc 0 (by omega), hc 1 (by omega)⟩
end Go.Proofs.YtnhijjcplnomgaaGreat.World
