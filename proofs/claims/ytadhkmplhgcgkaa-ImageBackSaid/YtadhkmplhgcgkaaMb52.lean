/-
  BackLaw0, Awake7, as one text (a claim has at most 60 files).
-/
import Derived.Test.YtadhkmplhgcgkaaMb48
import Derived.Test.YtadhkmplhgcgkaaMb49
import Derived.Test.YtadhkmplhgcgkaaMb50
import Derived.Test.YtadhkmplhgcgkaaMb51
import Derived.Test.YtadhkmplhgcgkaaMb46
import Derived.Test.YtadhkmplhgcgkaaMb43
import Derived.Test.YtadhkmplhgcgkaaMb47
import Derived.Test.YtadhkmplhgcgkaaMb31
import Derived.Test.YtadhkmplhgcgkaaMb32
import Derived.Test.YtadhkmplhgcgkaaMb35
namespace Go.Proofs.Ytadhkmplhgcgkaa.World
open Go.RowKit Go.ChangeShapes Go.WideShapes Go.Deep Go.Proofs.Ytadhkmplhgcgkaa.Plain
set_option linter.unusedVariables false
section
variable {H : Type} {enc : TypeId × Value → H} {w : World}
theorem td_u8 {cs : List Value} (h : Td H enc w 5 cs) : ∃ n, cs = [.int .u8 n] ∧ 0 ≤ n ∧ n < 256 := by
  obtain ⟨f, y, h⟩ := h
  obtain ⟨n, e, _, hw⟩ := DataW.trod_int Try.underlying5 h
  have := bounds_u8 hw
  exact ⟨n, e, this.1, by omega⟩
theorem td_bytes {cs : List Value} (h : Td H enc w 45 cs) : ∃ v l, cs = [v] ∧ Row w v l.length 1 (cU l) ∧ okB l ∧ l.length ≤ maxLen := by
  obtain ⟨A, n, cap, rfl, h1, h2, h3⟩ := td_slice Try.underlying45 (C := 1) (by kernel_rfl) (by omega) h
  have key : ∀ i, i < n → ∃ z : Int, (∃ b off, A = some ⟨b, off, none⟩ ∧ b < w.heap.size ∧ w.cell? ⟨b, off + i, none⟩ = some (.int .u8 z)) ∧ (0 ≤ z ∧ z < 256) := fun i hi => by
    obtain ⟨b, off, cs', ea, hb, hc, ht'⟩ := h3 i hi
    obtain ⟨z, rfl, hz⟩ := td_u8 ht'
    have := hc 0 (by omega)
    exact ⟨z, ⟨b, off, ea, hb, by simpa using this⟩, hz⟩
  obtain ⟨f, hf⟩ := choose_lt key
  refine ⟨_, (List.range n).map f, rfl, ?_, fun x hx => ?_, by simp; omega⟩
  · refine ⟨A, cap, by simp, by simpa using h1, by unfold maxLen at h2; omega, fun i hi => ?_⟩
    have hi' : i < n := by simpa using hi
    obtain ⟨⟨b, off, ea, hb, hc⟩, _⟩ := hf i hi'
    refine ⟨b, off, ea, hb, fun j hj => ?_⟩
    obtain rfl : j = 0 := by omega
    unfold cU
    rw [Nat.mul_one, Nat.add_zero, hc, List.getD_eq_getElem?_getD, List.getElem?_map, List.getElem?_range hi']; rfl
  · obtain ⟨i, hi, rfl⟩ := List.mem_map.1 hx
    exact (hf i (List.mem_range.1 hi)).2
set_option maxRecDepth 100000 in
theorem open_bytes {r : Reach} {b0 : Nat} {v : Value} {d : DataW H} {p : List MemPlace} (hv : Value.okWide Try.prog w r b0 45 v) (h : DataW.Trod enc Try.prog w 0 (fun _ => true) true 45 v d p) :
    ∃ l, Row w v l.length 1 (cU l) ∧ okB l ∧ l.length ≤ maxLen := by
  obtain ⟨a, len, cap, rfl⟩ := okWide_slice Try.underlying45 hv
  obtain ⟨fuel, hf⟩ := h
  have hT : Td H enc w 45 [.slice a len cap] := ⟨fuel, _, hf⟩
  obtain ⟨v, l, e, h⟩ := td_bytes hT
  injection e with e
  subst e
  exact ⟨l, h⟩
end
/-! ### few things are few bytes -/
theorem flatT_le {W : PW} (hc : checkB W = true) (hn : Nums W) : ∀ k, k ≤ W.L.length → ((W.L.take k).flatMap encT).length ≤ 300 * k
  | 0, _ => by simp
  | k + 1, h => by
    rw [flatT_take _ _ (by omega), List.length_append]
    have := flatT_le hc hn k (by omega)
    have := (put_ok hc hn (show k < W.L.length by omega)).2
    omega
theorem encL_len (l : List Int) : (encL l).length = 4 + 4 * l.length := by
  unfold encL
  rw [List.length_append, b4_len, flat4_len]
theorem few_in {W : PW} {most : Int} (h : fewB W most = true) : (W.L.length : Int) ≤ most ∧ (W.R.ready.length : Int) ≤ 30 ∧ (W.R.wait.length : Int) ≤ 30 ∧ (W.R.due.length : Int) ≤ most := by
  unfold fewB at h
  simp only [Bool.and_eq_true, Bool.not_eq_true', decide_eq_false_iff_not] at h
  omega
theorem enc_few {W : PW} (hc : checkB W = true) (hn : Nums W) (hf : fewB W 120 = true) : (encW W).length ≤ 60000 := by
  obtain ⟨f1, f2, f3, f4⟩ := few_in hf
  have q := flatT_le hc hn _ (Nat.le_refl _)
  rw [List.take_length] at q
  unfold encW
  simp only [List.length_append, b4_len, encL_len, flatP_len]
  show 3 + 4 + _ + 4 + 4 + _ + 4 + _ + _ + 4 ≤ 60000
  omega
theorem put_few {W : PW} (hn : Nums W) (hf : fewB W 120 = true) (h : (putS W).1 = 0) : (putS W).2.length ≤ 60000 := by
  have hc := (get_put h).2.2.1
  unfold putS at h ⊢
  by_cases h1 : (!checkB W || W.dead.contains true) = true
  · rw [if_pos h1] at h; exact absurd h (by decide)
  · rw [if_neg h1] at h ⊢
    by_cases h2 : 65536 < (encW W).length
    · rw [if_pos h2] at h; exact absurd h (by decide)
    · rw [if_neg h2]; exact enc_few hc hn hf
theorem b4_ok (n : Int) (h : 0 ≤ n ∧ n < 4294967296) : okB (b4 n) := by
  intro x hx
  unfold b4 at hx
  simp only [List.mem_cons, List.not_mem_nil, or_false] at hx
  rcases hx with rfl | rfl | rfl | rfl <;> omega
theorem okB_app {a b : List Int} (ha : okB a) (hb : okB b) : okB (a ++ b) := fun x hx => (List.mem_append.1 hx).elim (ha x) (hb x)
theorem okB_flat {α : Type} {l : List α} {f : α → List Int} (h : ∀ a ∈ l, okB (f a)) : okB (l.flatMap f) := fun x hx => by
  obtain ⟨a, ha, hx⟩ := List.mem_flatMap.1 hx
  exact h a ha x hx
theorem okB_bytesI (s : ByteArray) : okB (bytesI s) := fun x hx => by
  unfold bytesI at hx
  obtain ⟨b, _, rfl⟩ := List.mem_map.1 hx
  have := b.toNat_lt
  omega
theorem okB_encT {t : PT} (h : PutOk t) : okB (encT t) := by
  have hk : 0 ≤ kindT t ∧ kindT t < 4294967296 := by
    have := h.fmt
    unfold kindT
    split <;> omega
  unfold encT
  refine okB_app (okB_app (okB_app (b4_ok _ (by have := h.cls; omega)) (b4_ok _ hk)) (b4_ok _ (by have := h.hash; omega))) ?_
  split
  · exact okB_app (b4_ok _ (by have := h.B; omega)) (okB_bytesI _)
  · refine okB_app (b4_ok _ (by have := h.F; omega)) (okB_flat fun u hu => b4_ok _ (valW_in u ?_))
    obtain ⟨k, hk, rfl⟩ := List.getElem_of_mem hu
    have := h.n k hk
    unfold vAt at this
    rw [List.getD_eq_getElem?_getD, List.getElem?_eq_getElem hk] at this
    exact this
theorem okB_encL {l : List Int} (hl : l.length < 4294967296) (h : ∀ x ∈ l, 0 ≤ x ∧ x < 4294967296) : okB (encL l) :=
  okB_app (b4_ok _ (by omega)) (okB_flat fun x hx => b4_ok x (h x hx))
theorem okB_enc {W : PW} (hc : checkB W = true) (hn : Nums W) : okB (encW W) := by
  have h := back_w hc
  unfold encW
  refine okB_app (okB_app (okB_app (okB_app (okB_app (okB_app (okB_app (okB_app (okB_app ?_ (b4_ok _ (by have := h.N; omega))) (okB_flat fun t ht => ?_)) (b4_ok _ h.proc)) (b4_ok _ h.frame)) (okB_encL h.lens.1 h.ready)) (b4_ok _ (by have := h.lens.2.1; omega))) (okB_flat fun p hp => okB_app (b4_ok _ (h.wait p hp).1) (b4_ok _ (h.wait p hp).2))) (okB_encL h.lens.2.2 h.due)) (b4_ok _ h.last)
  · intro x hx
    simp only [List.mem_cons, List.not_mem_nil, or_false] at hx
    rcases hx with rfl | rfl | rfl <;> omega
  · obtain ⟨i, hi, rfl⟩ := List.getElem_of_mem ht
    have := okB_encT (put_ok hc hn hi).1
    unfold tAt at this
    rw [List.getD_eq_getElem?_getD, List.getElem?_eq_getElem hi] at this
    exact this
theorem okB_put {W : PW} (hn : Nums W) : okB (putS W).2 := by
  unfold putS
  by_cases h1 : (!checkB W || W.dead.contains true) = true
  · rw [if_pos h1]; intro x hx; cases hx
  · rw [if_neg h1]
    split
    · intro x hx; cases hx
    · refine okB_enc ?_ hn
      cases e : checkB W with
      | true => rfl
      | false => rw [e] at h1; exact absurd rfl h1
/-- what a world's copy is whose registers were laid anew -/
def barR (W : PW) : PW := ⟨W.L, W.dead, W.last, (bareW W).R⟩
theorem eq_bar {W : PW} (hd : W.dead.contains true = false) : eqE (bareW W) (barR W) = true := by
  have e : eqThB (bareW W) (barR W) = eqThB (bareW W) (bareW W) := by
    funext i
    unfold eqThB
    show (eqT (tAt W.L i) (tAt W.L i) && (liveB (bareW W) i == liveB W i)) = (eqT (tAt W.L i) (tAt W.L i) && (liveB (bareW W) i == liveB (bareW W) i))
    rw [bare_live hd]
  have q := eqE_refl (bareW W)
  unfold eqE at q ⊢
  rw [e]
  exact q
section
variable {w : World}
theorem get_none {v : Value} {b : List Int} {k : Int} (h : Row w v b.length 1 (cU b)) (hb : okB b) (hn : b.length ≤ 9000000000000000000) (hg : getS b = (k, none)) :
    Calls Try.prog 21 #[v] w fun e w' => e = .returned (.tuple #[.agg zeroWc, .int .i64 k]) ∧ Ext w w' :=
  (getW h hb hn).mono fun e w' ⟨cs, he, h1, _, x⟩ => ⟨by rw [he, h1 (by rw [hg]), hg], x⟩
theorem get_some {v : Value} {b : List Int} {W : PW} (h : Row w v b.length 1 (cU b)) (hb : okB b) (hn : b.length ≤ 9000000000000000000) (hg : getS b = (0, some W)) :
    Calls Try.prog 21 #[v] w fun e w' => ∃ x, e = .returned (.tuple #[.agg (cellsW W x), .int .i64 0]) ∧ NewW w' w.heap.size W x ∧ Ext w w' :=
  (getW h hb hn).mono fun e w' ⟨cs, he, _, h2, x⟩ => by
    obtain ⟨y, e1, n⟩ := h2 W (by rw [hg])
    exact ⟨y, by rw [he, e1, hg], n, x⟩
end
theorem get_cases {b : List Int} : (∃ k, k ≠ 0 ∧ getS b = (k, none)) ∨ ∃ W, getS b = (0, some W) := by
  unfold getS
  split
  · exact .inl ⟨2, by decide, rfl⟩
  · split
    · exact .inl ⟨4, by decide, rfl⟩
    · split
      · exact .inr ⟨_, rfl⟩
      · rename_i h
        exact .inl ⟨_, h, rfl⟩
end Go.Proofs.Ytadhkmplhgcgkaa.World
namespace Go.Proofs.Ytadhkmplhgcgkaa.World
open Go.RowKit Go.Proofs.Ytadhkmplhgcgkaa.Plain
set_option linter.unusedVariables false
attribute [local go_sem ↓] Go.wp_at_zero Go.wp_at_succ
theorem first_put0 : (putS firstW).1 = 0 := by decide +kernel
theorem first_put_len : 300 < (putS firstW).2.length := by decide +kernel
theorem first_put3 : (putS firstW).2.take 3 = [67, 81, 49] := by decide +kernel
theorem cq_get : getS [67, 81] = (3, none) := by
  have h : (getS [67, 81]).1 = 3 := by decide +kernel
  rcases get_cases (b := [67, 81]) with ⟨k, _, e⟩ | ⟨W, e⟩
  · rw [e] at h ⊢
    have h : k = 3 := h
    rw [h]
  · rw [e] at h
    have h : (0 : Int) = 3 := h
    omega
theorem str_cq1 : strI [67, 81, 49] = ⟨#[67, 81, 49]⟩ := by decide +kernel
theorem okB_cq : okB [67, 81] := by
  intro x hx
  simp only [List.mem_cons, List.not_mem_nil, or_false] at hx
  rcases hx with rfl | rfl <;> omega
set_option maxRecDepth 100000 in
set_option maxHeartbeats 4000000 in
theorem awake7 (w : World) : Calls Try.prog 18 #[] w fun e w' => e = .returned (.bool true) ∧ Ext w w' := by
  go_enter Try.func18, Try.ntmps18
  go_upto_region 3 with ((first | (go_at_call 21; refine (get_none (rowB (l := [67, 81]) (Blk.new _ _ _) (by decide)) okB_cq (by decide) cq_get).mono ?_; rintro e w2 ⟨rfl, x2⟩; have X2 := Lib.hid (((Ext.refl w).alloc _).trans x2); clear x2; simp only [zeroWc]) | (go_at_call 19; refine (putW WA.out).mono ?_; rintro e w4 ⟨A4, c4, n4, rfl, o4, l4, x4⟩; rw [first_put0]; have O4 := Lib.hid o4; have L4 := Lib.hid l4; have X4 := Lib.hid (X3.out.trans x4); clear o4 l4 x4) | (go_at_call 8; refine (first_ _).mono ?_; rintro e w3 ⟨x, rfl, hb, x3⟩; have WA := Lib.hid (hb.at_ (nums_of_check first_check)); have X3 := Lib.hid ((X2.out.alloc _).trans x3); clear hb x3)))
  have hl4 : 300 < n4 := by rw [← L4.out]; exact first_put_len
  have hl4I : (300 : Int) < (n4 : Int) := by omega
  have ro : Row w4 (.slice A4 n4 c4) (putS firstW).2.length 1 (cU (putS firstW).2) := (OwnB.own O4.out).row
  rw [L4.out] at ro
  have r3 : Row w4 (.slice A4 3 c4) ((putS firstW).2.take 3).length 1 (cU ((putS firstW).2.take 3)) := row_take (by rw [L4.out]; exact ro) (by rw [L4.out]; omega)
  obtain ⟨A5, c5, e5, l5, l5'⟩ := Row.form ro
  injection e5 with e5 _ e6
  subst e5 e6
  rw [first_put3] at r3
  have hcv : (convert 45 9 (.slice A4 3 c4)).run Try.prog w4 = .ok (.string ⟨#[67, 81, 49]⟩) w4 := by
    have q := conv_str r3
    rw [str_cq1] at q
    exact q
  have hc3 : (3 : Int) ≤ (c4 : Int) := by omega
  clear ro r3 O4 L4 X2 X3 WA
  go_wp2_with ((first | (go_at_call 8; refine (first_ _).mono ?_; rintro e w5 ⟨y, rfl, hb, x5⟩; have WB := Lib.hid (hb.at_ (nums_of_check first_check)); have X5 := Lib.hid (X4.out.trans x5); clear hb x5) | (go_at_call 24; refine (check WB.out).mono ?_; rintro e w6 ⟨rfl, x6⟩; rw [first_check]; have X6 := Lib.hid (X5.out.trans x6); clear x6)))
  go_ret
  exact ⟨ret_bool rfl, X6.out⟩
end Go.Proofs.Ytadhkmplhgcgkaa.World
