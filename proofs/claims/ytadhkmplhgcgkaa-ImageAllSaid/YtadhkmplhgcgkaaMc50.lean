/-
  BackLaw0, ImgAll0, FirstPlain, as one text (a claim has at most 60 files).
-/
import Derived.Test.YtadhkmplhgcgkaaMc44
import Derived.Test.YtadhkmplhgcgkaaMc46
import Derived.Test.YtadhkmplhgcgkaaMc32
import Derived.Test.YtadhkmplhgcgkaaMc48
import Derived.Test.YtadhkmplhgcgkaaMc49
import Derived.Test.YtadhkmplhgcgkaaMc35
import Derived.Test.YtadhkmplhgcgkaaMc36
import Derived.Test.YtadhkmplhgcgkaaMc24
import Derived.Test.YtadhkmplhgcgkaaMc45
import Derived.Test.YtadhkmplhgcgkaaMc47
import Derived.Test.YtadhkmplhgcgkaaMc10
namespace Go.Proofs.Ytadhkmplhgcgkaa.World
open Go.RowKit Go.ChangeShapes Go.WideShapes Go.Deep Go.Proofs.Ytadhkmplhgcgkaa.Plain
set_option linter.unusedVariables false
section
variable {H : Type} {enc : TypeId × Value → H} {w : World}
theorem td_u8 {cs : List Value} (h : Td H enc w 5 cs) : ∃ n, cs = [.int .u8 n] ∧ 0 ≤ n ∧ n < 256 := by
  obtain ⟨f, y, h⟩ := h
  obtain ⟨n, e, _, hw⟩ := DataW.trod_int Try.underlying5 h
  have := bounds_u8 hw
  exact ⟨n, e, this.1, by omega⟩
theorem td_bytes {cs : List Value} (h : Td H enc w 45 cs) : ∃ v l, cs = [v] ∧ Row w v l.length 1 (cU l) ∧ okB l ∧ l.length ≤ maxLen := by
  obtain ⟨A, n, cap, rfl, h1, h2, h3⟩ := td_slice Try.underlying45 (C := 1) (by kernel_rfl) (by omega) h
  have key : ∀ i, i < n → ∃ z : Int, (∃ b off, A = some ⟨b, off, none⟩ ∧ b < w.heap.size ∧ w.cell? ⟨b, off + i, none⟩ = some (.int .u8 z)) ∧ (0 ≤ z ∧ z < 256) := fun i hi => by
    obtain ⟨b, off, cs', ea, hb, hc, ht'⟩ := h3 i hi
    obtain ⟨z, rfl, hz⟩ := td_u8 ht'
    have := hc 0 (by omega)
    exact ⟨z, ⟨b, off, ea, hb, by simpa using this⟩, hz⟩
  obtain ⟨f, hf⟩ := choose_lt key
  refine ⟨_, (List.range n).map f, rfl, ?_, fun x hx => ?_, by simp; omega⟩
  · refine ⟨A, cap, by simp, by simpa using h1, by unfold maxLen at h2; omega, fun i hi => ?_⟩
    have hi' : i < n := by simpa using hi
    obtain ⟨⟨b, off, ea, hb, hc⟩, _⟩ := hf i hi'
    refine ⟨b, off, ea, hb, fun j hj => ?_⟩
    obtain rfl : j = 0 := by omega
    unfold cU
    rw [Nat.mul_one, Nat.add_zero, hc, List.getD_eq_getElem?_getD, List.getElem?_map, List.getElem?_range hi']; rfl
  · obtain ⟨i, hi, rfl⟩ := List.mem_map.1 hx
    exact (hf i (List.mem_range.1 hi)).2
set_option maxRecDepth 100000 in
theorem open_bytes {r : Reach} {b0 : Nat} {v : Value} {d : DataW H} {p : List MemPlace} (hv : Value.okWide Try.prog w r b0 45 v) (h : DataW.Trod enc Try.prog w 0 (fun _ => true) true 45 v d p) :
    ∃ l, Row w v l.length 1 (cU l) ∧ okB l ∧ l.length ≤ maxLen := by
  obtain ⟨a, len, cap, rfl⟩ := okWide_slice Try.underlying45 hv
  obtain ⟨fuel, hf⟩ := h
  have hT : Td H enc w 45 [.slice a len cap] := ⟨fuel, _, hf⟩
  obtain ⟨v, l, e, h⟩ := td_bytes hT
  injection e with e
  subst e
  exact ⟨l, h⟩
end
/-! ### few things are few bytes -/
theorem flatT_le {W : PW} (hc : checkB W = true) (hn : Nums W) : ∀ k, k ≤ W.L.length → ((W.L.take k).flatMap encT).length ≤ 300 * k
  | 0, _ => by simp
  | k + 1, h => by
    rw [flatT_take _ _ (by omega), List.length_append]
    have := flatT_le hc hn k (by omega)
    have := (put_ok hc hn (show k < W.L.length by omega)).2
    omega
theorem encL_len (l : List Int) : (encL l).length = 4 + 4 * l.length := by
  unfold encL
  rw [List.length_append, b4_len, flat4_len]
theorem few_in {W : PW} {most : Int} (h : fewB W most = true) : (W.L.length : Int) ≤ most ∧ (W.R.ready.length : Int) ≤ 30 ∧ (W.R.wait.length : Int) ≤ 30 ∧ (W.R.due.length : Int) ≤ most := by
  unfold fewB at h
  simp only [Bool.and_eq_true, Bool.not_eq_true', decide_eq_false_iff_not] at h
  omega
theorem enc_few {W : PW} (hc : checkB W = true) (hn : Nums W) (hf : fewB W 120 = true) : (encW W).length ≤ 60000 := by
  obtain ⟨f1, f2, f3, f4⟩ := few_in hf
  have q := flatT_le hc hn _ (Nat.le_refl _)
  rw [List.take_length] at q
  unfold encW
  simp only [List.length_append, b4_len, encL_len, flatP_len]
  show 3 + 4 + _ + 4 + 4 + _ + 4 + _ + _ + 4 ≤ 60000
  omega
theorem put_few {W : PW} (hn : Nums W) (hf : fewB W 120 = true) (h : (putS W).1 = 0) : (putS W).2.length ≤ 60000 := by
  have hc := (get_put h).2.2.1
  unfold putS at h ⊢
  by_cases h1 : (!checkB W || W.dead.contains true) = true
  · rw [if_pos h1] at h; exact absurd h (by decide)
  · rw [if_neg h1] at h ⊢
    by_cases h2 : 65536 < (encW W).length
    · rw [if_pos h2] at h; exact absurd h (by decide)
    · rw [if_neg h2]; exact enc_few hc hn hf
theorem b4_ok (n : Int) (h : 0 ≤ n ∧ n < 4294967296) : okB (b4 n) := by
  intro x hx
  unfold b4 at hx
  simp only [List.mem_cons, List.not_mem_nil, or_false] at hx
  rcases hx with rfl | rfl | rfl | rfl <;> omega
theorem okB_app {a b : List Int} (ha : okB a) (hb : okB b) : okB (a ++ b) := fun x hx => (List.mem_append.1 hx).elim (ha x) (hb x)
theorem okB_flat {α : Type} {l : List α} {f : α → List Int} (h : ∀ a ∈ l, okB (f a)) : okB (l.flatMap f) := fun x hx => by
  obtain ⟨a, ha, hx⟩ := List.mem_flatMap.1 hx
  exact h a ha x hx
theorem okB_bytesI (s : ByteArray) : okB (bytesI s) := fun x hx => by
  unfold bytesI at hx
  obtain ⟨b, _, rfl⟩ := List.mem_map.1 hx
  have := b.toNat_lt
  omega
theorem okB_encT {t : PT} (h : PutOk t) : okB (encT t) := by
  have hk : 0 ≤ kindT t ∧ kindT t < 4294967296 := by
    have := h.fmt
    unfold kindT
    split <;> omega
  unfold encT
  refine okB_app (okB_app (okB_app (b4_ok _ (by have := h.cls; omega)) (b4_ok _ hk)) (b4_ok _ (by have := h.hash; omega))) ?_
  split
  · exact okB_app (b4_ok _ (by have := h.B; omega)) (okB_bytesI _)
  · refine okB_app (b4_ok _ (by have := h.F; omega)) (okB_flat fun u hu => b4_ok _ (valW_in u ?_))
    obtain ⟨k, hk, rfl⟩ := List.getElem_of_mem hu
    have := h.n k hk
    unfold vAt at this
    rw [List.getD_eq_getElem?_getD, List.getElem?_eq_getElem hk] at this
    exact this
theorem okB_encL {l : List Int} (hl : l.length < 4294967296) (h : ∀ x ∈ l, 0 ≤ x ∧ x < 4294967296) : okB (encL l) :=
  okB_app (b4_ok _ (by omega)) (okB_flat fun x hx => b4_ok x (h x hx))
theorem okB_enc {W : PW} (hc : checkB W = true) (hn : Nums W) : okB (encW W) := by
  have h := back_w hc
  unfold encW
  refine okB_app (okB_app (okB_app (okB_app (okB_app (okB_app (okB_app (okB_app (okB_app ?_ (b4_ok _ (by have := h.N; omega))) (okB_flat fun t ht => ?_)) (b4_ok _ h.proc)) (b4_ok _ h.frame)) (okB_encL h.lens.1 h.ready)) (b4_ok _ (by have := h.lens.2.1; omega))) (okB_flat fun p hp => okB_app (b4_ok _ (h.wait p hp).1) (b4_ok _ (h.wait p hp).2))) (okB_encL h.lens.2.2 h.due)) (b4_ok _ h.last)
  · intro x hx
    simp only [List.mem_cons, List.not_mem_nil, or_false] at hx
    rcases hx with rfl | rfl | rfl <;> omega
  · obtain ⟨i, hi, rfl⟩ := List.getElem_of_mem ht
    have := okB_encT (put_ok hc hn hi).1
    unfold tAt at this
    rw [List.getD_eq_getElem?_getD, List.getElem?_eq_getElem hi] at this
    exact this
theorem okB_put {W : PW} (hn : Nums W) : okB (putS W).2 := by
  unfold putS
  by_cases h1 : (!checkB W || W.dead.contains true) = true
  · rw [if_pos h1]; intro x hx; cases hx
  · rw [if_neg h1]
    split
    · intro x hx; cases hx
    · refine okB_enc ?_ hn
      cases e : checkB W with
      | true => rfl
      | false => rw [e] at h1; exact absurd rfl h1
/-- what a world's copy is whose registers were laid anew -/
def barR (W : PW) : PW := ⟨W.L, W.dead, W.last, (bareW W).R⟩
theorem eq_bar {W : PW} (hd : W.dead.contains true = false) : eqE (bareW W) (barR W) = true := by
  have e : eqThB (bareW W) (barR W) = eqThB (bareW W) (bareW W) := by
    funext i
    unfold eqThB
    show (eqT (tAt W.L i) (tAt W.L i) && (liveB (bareW W) i == liveB W i)) = (eqT (tAt W.L i) (tAt W.L i) && (liveB (bareW W) i == liveB (bareW W) i))
    rw [bare_live hd]
  have q := eqE_refl (bareW W)
  unfold eqE at q ⊢
  rw [e]
  exact q
section
variable {w : World}
theorem get_none {v : Value} {b : List Int} {k : Int} (h : Row w v b.length 1 (cU b)) (hb : okB b) (hn : b.length ≤ 9000000000000000000) (hg : getS b = (k, none)) :
    Calls Try.prog 21 #[v] w fun e w' => e = .returned (.tuple #[.agg zeroWc, .int .i64 k]) ∧ Ext w w' :=
  (getW h hb hn).mono fun e w' ⟨cs, he, h1, _, x⟩ => ⟨by rw [he, h1 (by rw [hg]), hg], x⟩
theorem get_some {v : Value} {b : List Int} {W : PW} (h : Row w v b.length 1 (cU b)) (hb : okB b) (hn : b.length ≤ 9000000000000000000) (hg : getS b = (0, some W)) :
    Calls Try.prog 21 #[v] w fun e w' => ∃ x, e = .returned (.tuple #[.agg (cellsW W x), .int .i64 0]) ∧ NewW w' w.heap.size W x ∧ Ext w w' :=
  (getW h hb hn).mono fun e w' ⟨cs, he, _, h2, x⟩ => by
    obtain ⟨y, e1, n⟩ := h2 W (by rw [hg])
    exact ⟨y, by rw [he, e1, hg], n, x⟩
end
theorem get_cases {b : List Int} : (∃ k, k ≠ 0 ∧ getS b = (k, none)) ∨ ∃ W, getS b = (0, some W) := by
  unfold getS
  split
  · exact .inl ⟨2, by decide, rfl⟩
  · split
    · exact .inl ⟨4, by decide, rfl⟩
    · split
      · exact .inr ⟨_, rfl⟩
      · rename_i h
        exact .inl ⟨_, h, rfl⟩
end Go.Proofs.Ytadhkmplhgcgkaa.World
namespace Go.Proofs.Ytadhkmplhgcgkaa.World
open Go.RowKit Go.Proofs.Ytadhkmplhgcgkaa.Plain
set_option linter.unusedVariables false
attribute [local go_sem ↓] Go.wp_at_zero Go.wp_at_succ
theorem few_lens {W : PW} (h : fewB W 120 = true) : W.L.length ≤ 1000000 ∧ W.dead.length ≤ 1000000 ∧ W.R.ready.length ≤ 1000000 ∧ W.R.wait.length ≤ 1000000 ∧ W.R.due.length ≤ 1000000 ∧ W.R.snaps.length ≤ 1000000 ∧ ∀ i, i < W.L.length → (tAt W.L i).F.length ≤ 1000000 := by
  unfold fewB at h
  simp only [Bool.and_eq_true, Bool.not_eq_true', decide_eq_false_iff_not] at h
  refine ⟨by omega, by omega, by omega, by omega, by omega, by omega, fun i hi => ?_⟩
  have q := (allTo_iff _ _).1 h.2.2.2.2.2.2.2.2.1 i hi
  unfold fewT at q
  simp only [Bool.and_eq_true, Bool.not_eq_true', decide_eq_false_iff_not] at q
  omega
theorem rcopy_few {w : World} {x : WV} {W : PW} (h : WorldAt w x W) (hf : fewB W 120 = true) : Calls Try.prog 43 #[.agg (cellsW W x)] w fun e w' => (∃ x', e = .returned (.agg (cellsW W x')) ∧ NewW w' w.heap.size W x') ∧ Ext w w' := by
  obtain ⟨a, b, c, d, e, f, g⟩ := few_lens hf
  exact rcopy h a b c d e f g
theorem copy_few {w : World} {x : WV} {W : PW} (h : WorldAt w x W) (hf : fewB W 120 = true) : Calls Try.prog 31 #[.agg (cellsW W x)] w fun e w' => ∃ x, e = .returned (.agg (cellsW W x)) ∧ WorldAt w' x W ∧ Ext w w' := by
  obtain ⟨a, b, c, d, e, f, g⟩ := few_lens hf
  refine (copy_ h a b c d e f g).mono ?_
  rintro e w' ⟨⟨x', e1, n⟩, xx⟩
  exact ⟨x', e1, n.at_, xx⟩
def zeroP : PW := mkG [] 0 0 [] [] [] 0
def getU (b : List Int) : PW := ((getS b).2).getD zeroP
theorem getU_dead {b : List Int} (h : okB b) : (getU b).dead = [] := by
  unfold getU
  rcases get_cases (b := b) with ⟨k, _, e⟩ | ⟨W, e⟩
  · rw [e]; rfl
  · rw [e]
    have q := (put_get h e).2.2
    show W.dead = []
    rw [q]; rfl
theorem post_u {w w' : World} {b : List Int} {e : Ending} (h : PostG w b e w') : ∃ x, e = .returned (.tuple #[.agg (cellsW (getU b) x), .int .i64 (getS b).1]) ∧ WorldAt w' x (getU b) ∧ Ext w w' := by
  obtain ⟨cs, he, h1, h2, xx⟩ := h
  unfold getU
  cases hg : (getS b).2 with
  | none =>
    refine ⟨xG (.slice none 0 0) (fun _ => .slice none 0 0) (.slice none 0 0) (.slice none 0 0) (.slice none 0 0), ?_, (NewW.zero w' w'.heap.size _).at_, xx⟩
    rw [he, h1 hg]; rfl
  | some W =>
    obtain ⟨x, e1, n⟩ := h2 W hg
    exact ⟨x, by rw [he, e1]; rfl, n.at_, xx⟩
theorem bytes_strI {b : List Int} (h : okB b) : bytesI (strI b) = b := bytesI_str _ b rfl h
set_option maxRecDepth 100000 in
set_option maxHeartbeats 4000000 in
theorem world_few {w : World} {x : WV} {W : PW} (h : WorldAt w x W) (hc : fewB W 120 = true) : Calls Try.prog 20 #[.agg (cellsW W x)] w fun e w' => (∃ x', e = .returned (.agg (cellsW W x')) ∧ NewW w' w.heap.size W x') ∧ Ext w w' := by
  have CE := Lib.hid (fun W2 (z : Ext w W2) => rcopy_few (h.ext z) hc)
  unfold cellsW at CE ⊢
  obtain ⟨vL, fs, vD, vRe, vWa, vDu, vSn⟩ := x
  simp only at CE ⊢
  obtain ⟨AvL, cvL, evL, lvL, _⟩ := h.L.row.form
  replace evL : vL = .slice AvL W.L.length cvL := evL
  subst evL
  obtain ⟨AvD, cvD, evD, lvD, _⟩ := Row.form h.dead
  replace evD : vD = .slice AvD W.dead.length cvD := evD
  subst evD
  obtain ⟨AvRe, cvRe, evRe, lvRe, _⟩ := Row.form h.ready
  replace evRe : vRe = .slice AvRe W.R.ready.length cvRe := evRe
  subst evRe
  obtain ⟨AvWa, cvWa, evWa, lvWa, _⟩ := Row.form h.wait
  replace evWa : vWa = .slice AvWa W.R.wait.length cvWa := evWa
  subst evWa
  obtain ⟨AvDu, cvDu, evDu, lvDu, _⟩ := Row.form h.due
  replace evDu : vDu = .slice AvDu W.R.due.length cvDu := evDu
  subst evDu
  obtain ⟨AvSn, cvSn, evSn, lvSn, _⟩ := Row.form h.snaps
  replace evSn : vSn = .slice AvSn W.R.snaps.length cvSn := evSn
  subst evSn
  clear h
  go_enter Try.func20, Try.ntmps20
  go_upto_region 1 with (fail)
  refine wp_name (fun W1 hW => ?_)
  have b2 := Blk.new' hW
  have b1 : Blk W1 w.heap.size _ _ := (Blk.new w _ _).alloc' hW
  have x1 := ((Ext.refl w).alloc _).alloc' hW
  simp only [World.size_alloc] at b2
  clear hW
  obtain ⟨r1, r2, r3⟩ := b1.rules
  have X1 := Lib.hid x1
  have B2 := Lib.hid b2
  clear b1 b2 x1
  have hp : w.heap.size ≤ w.heap.size + 1 := Nat.le_succ _
  generalize hq : w.heap.size = q at *
  have QB := Lib.hid hq
  generalize q + 1 = pb at *
  clear hq
  go_wp2_with ((go_at_call 43; refine (CE.out _ X1.out).mono ?_; rintro e w2 ⟨⟨xc, rfl, nc⟩, x2⟩; obtain ⟨cL, cfs, cD, cRe, cWa, cDu, cSn⟩ := xc; obtain ⟨aL, kL, fL⟩ := Own.form nc.L; obtain ⟨aD, kD, fD⟩ := Own.form nc.dead; obtain ⟨aRe, kRe, fRe⟩ := Own.form nc.R.re; obtain ⟨aWa, kWa, fWa⟩ := Own.form nc.R.wa; obtain ⟨aDu, kDu, fDu⟩ := Own.form nc.R.du; obtain ⟨aSn, kSn, fSn⟩ := Own.form nc.R.sn; simp only at fL fD fRe fWa fDu fSn; subst fL fD fRe fWa fDu fSn; have NC := Lib.hid nc; have X2 := Lib.hid (X1.out.trans x2); have B3 := Lib.hid (B2.out.ext x2); have SZ := Lib.hid X1.out.below.size; clear r1 r2 r3; obtain ⟨r1, r2, r3⟩ := (B2.out.ext x2).rules; clear nc x2))
  have hpw : w.heap.size ≤ pb := by rw [QB.out]; exact hp
  have KP := keep13 w2 pb (.slice aL W.L.length kL) (.slice aD W.dead.length kD) (.int .i64 W.last) (.int .i64 W.R.proc) (.int .i64 W.R.frame) (.slice aRe W.R.ready.length kRe) (.slice aWa W.R.wait.length kWa) (.slice aDu W.R.due.length kDu) (.string W.R.out) (.string W.R.inp) (.int .i64 W.R.how) (.int .i64 W.R.exit) (.slice aSn W.R.snaps.length kSn)
  have XE := ext13 X2.out hpw (.slice aL W.L.length kL) (.slice aD W.dead.length kD) (.int .i64 W.last) (.int .i64 W.R.proc) (.int .i64 W.R.frame) (.slice aRe W.R.ready.length kRe) (.slice aWa W.R.wait.length kWa) (.slice aDu W.R.due.length kDu) (.string W.R.out) (.string W.R.inp) (.int .i64 W.R.how) (.int .i64 W.R.exit) (.slice aSn W.R.snaps.length kSn)
  have KPT : KT [31] w2 _ := Keep.mono KP (fun j e => by subst e; exact ⟨_, _, by simp, B3.out⟩)
  refine bodyPost_ret (v := .agg #[.slice aL W.L.length kL, .slice aD W.dead.length kD, .int .i64 W.last, .int .i64 W.R.proc, .int .i64 W.R.frame, .slice aRe W.R.ready.length kRe, .slice aWa W.R.wait.length kWa, .slice aDu W.R.due.length kDu, .string W.R.out, .string W.R.inp, .int .i64 W.R.how, .int .i64 W.R.exit, .slice aSn W.R.snaps.length kSn]) (by simp [results, Try.results20, go_sem, r1]) rfl ?_
  refine ⟨⟨⟨.slice aL W.L.length kL, cfs, .slice aD W.dead.length kD, .slice aRe W.R.ready.length kRe, .slice aWa W.R.wait.length kWa, .slice aDu W.R.due.length kDu, .slice aSn W.R.snaps.length kSn⟩, rfl, ?_⟩, XE⟩
  rw [QB.out]
  exact (NC.out.kt KPT (by decide) (by decide) (by decide) (by decide) (by decide) (by decide)).base (by have := SZ.out; rw [QB.out] at this; exact this)
end Go.Proofs.Ytadhkmplhgcgkaa.World
namespace Go.Proofs.Ytadhkmplhgcgkaa.World
open Go.RowKit Go.Proofs.Ytadhkmplhgcgkaa.Plain
set_option linter.unusedVariables false

def num (n : Int) : PV := ⟨false, n⟩
def objV (n : Int) : PV := ⟨true, n⟩
def sizes16 : List Int := [0, 0, 0, 0, 0, 0, 0, 5, 0, 22, 4, 2, 1, 0, 2, 2]
def fmts16 : List Int := [1, 1, 1, 1, 1, 3, 3, 1, 1, 1, 1, 1, 1, 2, 1, 1]
def txtLost : ByteArray := ⟨#[108, 111, 115, 116]⟩
def txtBool : ByteArray := ⟨#[98, 111, 111, 108]⟩
def txtBack : ByteArray := ⟨#[98, 97, 99, 107]⟩
def names3 : List ByteArray := [txtLost, txtBool, txtBack]
def firstT (i : Nat) : PT :=
  if i < 3 then ⟨3 + i, 1, i + 1, false, [], ByteArray.empty⟩
  else if i < 19 then ⟨10, 1, i + 1, false, [objV 0, objV 0, objV 0, num (sizes16.getD (i - 3) 0), num (fmts16.getD (i - 3) 0)], ByteArray.empty⟩
  else if i < 22 then ⟨9, 3, i + 1, false, [], names3.getD (i - 19) ByteArray.empty⟩
  else ⟨15, 1, i + 1, false, [num 0], ByteArray.empty⟩
def firstL (n : Nat) : List PT := (List.range n).map firstT
def regs0 : PR := ⟨0, 0, [], [], [], ByteArray.empty, ByteArray.empty, 0, 0, []⟩
def firstW : PW := ⟨firstL 23, [], 23, regs0⟩
theorem firstL_succ (n : Nat) : firstL (n + 1) = firstL n ++ [firstT n] := by unfold firstL; rw [List.range_succ, List.map_append]; rfl
theorem firstL_len (n : Nat) : (firstL n).length = n := by unfold firstL; simp
theorem first_check : checkB firstW = true := by decide +kernel

/-! ### a thing more -/
def PW.add (W : PW) (c f : Int) (F : List PV) (B : ByteArray) : PW := { W with L := W.L ++ [⟨c, f, W.last + 1, false, F, B⟩], last := W.last + 1 }
theorem live_nil {W : PW} (hd : W.dead = []) (i : Int) : liveB W i = decide (0 ≤ i ∧ i < W.L.length) := by
  unfold liveB; rw [hd]; simp
theorem live_mono {W W' : PW} (hd : W.dead = []) (hd' : W'.dead = []) (hl : W.L.length ≤ W'.L.length) {i : Int} (h : liveB W i = true) : liveB W' i = true := by
  rw [live_nil hd] at h; rw [live_nil hd']
  have := of_decide_eq_true h
  exact decide_eq_true (by omega)
theorem allTo_mono {f g : Nat → Bool} {n : Nat} (h : allTo f n = true) (hfg : ∀ i, i < n → f i = true → g i = true) : allTo g n = true :=
  (allTo_iff g n).2 fun i hi => hfg i hi ((allTo_iff f n).1 h i hi)
theorem shape_mono {n m : Nat} {t : PT} (hm : n ≤ m) (h : shapeB n t = true) : shapeB m t = true := by
  unfold shapeB at *
  by_cases h3 : t.fmt = 3
  · rw [if_pos h3] at *; exact h
  · rw [if_neg h3] at *
    by_cases h1 : t.fmt = 1 ∨ t.fmt = 2
    · rw [if_pos h1] at *
      simp only [Bool.and_eq_true] at *
      refine ⟨h.1, h.2.1, ?_⟩
      exact allTo_mono h.2.2 fun i _ hf => MS.fldB_mono hf hm
    · rw [if_neg h1] at h; cases h
theorem prevH_app (L : List PT) (x : PT) (i : Nat) (hi : i ≤ L.length) : prevH (L ++ [x]) i = prevH L i := by
  cases i with
  | zero => rfl
  | succ i => show (tAt (L ++ [x]) i).hash = (tAt L i).hash; rw [MS.tAt_app, if_pos (by omega)]
theorem there_mono {W W' : PW} (hd : W.dead = []) (hd' : W'.dead = []) (hl : W.L.length ≤ W'.L.length) {i : Int} (h : thereB W i = true) : thereB W' i = true := by
  unfold thereB at *
  rw [Bool.and_eq_true] at *
  exact ⟨h.1, live_mono hd hd' hl h.2⟩
theorem check_add {W : PW} {c f : Int} {F : List PV} {B : ByteArray} (h : checkB W = true) (hd : W.dead = []) (hl : W.last < 3000) (hn : W.L.length < 3000) (hc : 0 ≤ c ∧ c < W.L.length) (hk : isClsB (tAt W.L c.toNat) = true)
    (hs : shapeB (W.L.length + 1) ⟨c, f, W.last + 1, false, F, B⟩ = true) : checkB (W.add c f F B) = true := by
  have hd' : (W.add c f F B).dead = [] := hd
  have hlen : (W.add c f F B).L.length = W.L.length + 1 := by unfold PW.add; simp
  have hle : W.L.length ≤ (W.add c f F B).L.length := by omega
  have T : ∀ i, i < W.L.length → tAt (W.add c f F B).L i = tAt W.L i := fun i hi => by show tAt (W.L ++ [_]) i = _; rw [MS.tAt_app, if_pos hi]
  have TN : tAt (W.add c f F B).L W.L.length = ⟨c, f, W.last + 1, false, F, B⟩ := by show tAt (W.L ++ [_]) _ = _; rw [MS.tAt_app, if_neg (by omega), if_pos rfl]
  unfold checkB at h ⊢
  simp only [Bool.and_eq_true] at h ⊢
  obtain ⟨h1, h2, h3, h4, h5⟩ := h
  have h1 := of_decide_eq_true h1
  refine ⟨decide_eq_true (by omega), decide_eq_true (by rw [hd']; exact .inl rfl), ?_, ?_, ?_⟩
  · unfold thingsB at *
    simp only [Bool.and_eq_true] at *
    obtain ⟨g1, g2, g3⟩ := h3
    have g2 := of_decide_eq_true g2
    have g3 := of_decide_eq_true g3
    refine ⟨(allTo_iff _ _).2 fun i hi => ?_, decide_eq_true ?_, decide_eq_true (by show W.last + 1 ≤ 3000; omega)⟩
    · rw [hlen] at hi
      by_cases hi2 : i < W.L.length
      · have o := (allTo_iff _ _).1 g1 i hi2
        unfold oneB at *
        rw [T i hi2]
        show (decide (prevH (W.L ++ [_]) i < _) && _) = true
        rw [prevH_app _ _ _ (by omega)]
        simp only [Bool.and_eq_true] at *
        refine ⟨o.1, o.2.1, ?_⟩
        have p := o.2.2
        unfold thingB at *
        rw [T i hi2]
        have lv : liveB W (i : Int) = true := by rw [live_nil hd]; exact decide_eq_true (by omega)
        have lv' : liveB (W.add c f F B) (i : Int) = true := live_mono hd hd' hle lv
        rw [lv'] 
        rw [lv] at p
        simp only [Bool.and_eq_true, if_true] at p ⊢
        obtain ⟨p1, p2, p3, p4, p5⟩ := p
        have p1 := of_decide_eq_true p1
        refine ⟨decide_eq_true (by omega), shape_mono hle p2, live_mono hd hd' hle p3, ?_, ?_⟩
        · rw [T _ (by omega)]; exact p4
        · refine allTo_mono p5 fun j _ hj => ?_
          rw [Bool.or_eq_true] at *
          exact hj.imp id (live_mono hd hd' hle)
      · obtain rfl : i = W.L.length := by omega
        unfold oneB
        rw [TN]
        show (decide (prevH (W.L ++ [_]) _ < _) && _) = true
        rw [prevH_app _ _ _ (by omega)]
        simp only [Bool.and_eq_true]
        refine ⟨decide_eq_true (by show _ < W.last + 1; omega), decide_eq_true (by show W.last + 1 ≤ 3000; omega), ?_⟩
        unfold thingB
        rw [TN]
        have lv' : liveB (W.add c f F B) (W.L.length : Int) = true := by rw [live_nil hd']; exact decide_eq_true (by omega)
        have lc : liveB (W.add c f F B) c = true := by rw [live_nil hd']; exact decide_eq_true (by omega)
        rw [lv', hlen]
        simp only [Bool.and_eq_true, if_true]
        refine ⟨decide_eq_true (by show 0 ≤ c ∧ c < _; omega), hs, lc, ?_, ?_⟩
        · show isClsB (tAt (W.add c f F B).L c.toNat) = true
          rw [T _ (by omega)]; exact hk
        · refine (allTo_iff _ _).2 fun j hj => ?_
          have hj : j < F.length := hj
          show (!(vAt F j).obj || liveB _ (vAt F j).n) = true
          cases ho : (vAt F j).obj with
          | false => rfl
          | true =>
            rw [live_nil hd', hlen]
            unfold shapeB at hs
            by_cases hf3 : f = 3
            · rw [if_pos hf3] at hs
              simp only [Bool.and_eq_true] at hs
              have := of_decide_eq_true hs.1
              omega
            · rw [if_neg hf3] at hs
              split at hs
              · simp only [Bool.and_eq_true] at hs
                have := (allTo_iff _ _).1 hs.2.2 j hj
                unfold fldB at this
                have this : (if (vAt F j).obj = true then decide (0 ≤ (vAt F j).n ∧ (vAt F j).n < ((W.L.length + 1 : Nat) : Int)) else fitsB (vAt F j).n) = true := this
                rw [if_pos ho] at this
                have := of_decide_eq_true this
                exact decide_eq_true this
              · cases hs
    · rw [hlen]
      show (tAt (W.add c f F B).L W.L.length).hash ≤ W.last + 1
      rw [TN]; exact Int.le_refl _
  · refine allTo_mono h4 fun i hi hf => ?_
    unfold spec1B at *
    rw [T i (by omega)]; exact hf
  · unfold regsB at *
    simp only [Bool.and_eq_true] at *
    obtain ⟨r1, r2, r3, r4, r5, r6, r7, r8⟩ := h5
    refine ⟨?_, ?_, ?_, ?_, r5, ?_, r7, r8⟩
    · rw [Bool.or_eq_true] at *; exact r1.imp id (there_mono hd hd' hle)
    · rw [Bool.or_eq_true] at *; exact r2.imp id (there_mono hd hd' hle)
    · exact allTo_mono r3 fun j _ hj => there_mono hd hd' hle hj
    · exact allTo_mono r4 fun j _ hj => there_mono hd hd' hle hj
    · refine allTo_mono r6 fun j _ hj => ?_
      rw [Bool.and_eq_true] at *
      exact ⟨there_mono hd hd' hle hj.1, there_mono hd hd' hle hj.2⟩
end Go.Proofs.Ytadhkmplhgcgkaa.World
