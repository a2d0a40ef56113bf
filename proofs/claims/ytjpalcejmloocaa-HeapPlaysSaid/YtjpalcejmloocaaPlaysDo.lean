/-
  HeapPlays (chapter 5): a call on both heaps: they answer alike, and stay alike.
-/
import Derived.Test.YtjpalcejmloocaaPlaysTwin
import Derived.Test.YtjpalcejmloocaaRefHeap11
import Derived.Test.YtjpalcejmloocaaHqMake2
namespace Go.Proofs.Ytjpalcejmloocaa.RefHeap
open Go.RowKit Go.Proofs.Ytjpalcejmloocaa.Plain Go.Proofs.Ytjpalcejmloocaa.Free Go.Proofs.Ytjpalcejmloocaa.Heap Go.Proofs.Ytjpalcejmloocaa.RefFree
set_option linter.unusedVariables false
def pts : List TypeId := [28, 77, 78, 4, 43, 47, 5]
def PS (b0 : Nat) (w : World) (k : Nat) : Prop := b0 ≤ k ∧ ∃ t cs, t ∈ pts ∧ Blk w k t cs
/-- only what the two heaps have has turned, and new blocks have come -/
def PK (b0 : Nat) (w w' : World) : Prop := Keep (PS b0 w) w w'
theorem PK.of_ext {b0 : Nat} {a b : World} (x : Ext a b) : PK b0 a b := Keep.of_ext x _
theorem PK.trans {b0 : Nat} {a b c : World} (h : PK b0 a b) (k : PK b0 b c) : PK b0 a c := by
  refine ⟨k.os.trans h.os, k.tape.trans h.tape, k.output.trans h.output, Nat.le_trans h.size k.size, fun i hi hn => ?_⟩
  have e := h.block i hi hn
  refine (k.block i (Nat.lt_of_lt_of_le hi h.size) ?_).trans e
  rintro ⟨hb, t, cs, ht, hk⟩
  exact hn ⟨hb, t, cs, ht, e.symm.trans hk⟩
theorem PK.of_hk {b0 h : Nat} {o : O3} {w w' : World} {S : List Int} {L : List Run} {Bg : List Bool} (H : Heap w h b0 o S L Bg) (k : HKp b0 o w w') : PK b0 w w' := by
  obtain ⟨s, sb, f, bb, v, rfl, H⟩ := H
  refine Keep.mono k ?_
  rintro j ⟨hb, hj | ⟨cs, hj⟩⟩
  · rcases hj with rfl | rfl | rfl
    · exact ⟨hb, _, _, by decide, H.sto.row⟩
    · exact ⟨hb, _, _, by decide, H.fre.blk⟩
    · exact ⟨hb, _, _, by decide, H.bg⟩
  · exact ⟨hb, _, _, by decide, hj⟩
theorem PK.of_rk {b0 base : Nat} {w w' : World} (hb : b0 ≤ base) (k : RK base w w') : PK b0 w w' := Keep.mono k (fun j hj => by
  obtain ⟨h1, t, cs, ht, hB⟩ := hj
  refine ⟨Nat.le_trans hb h1, t, cs, ?_, hB⟩
  simp only [rts, pts, List.mem_cons, List.not_mem_nil, or_false] at ht ⊢
  rcases ht with h | h | h | h | h <;> simp [h])
theorem PK.blk {b0 g : Nat} {t : TypeId} {cs : Array Value} {w w' : World} (k : PK b0 w w') (B : Blk w g t cs) (h : g < b0 ∨ t ∉ pts) : Blk w' g t cs :=
  B.keep k (by
    rintro ⟨hb, t', cs', ht, hk⟩
    rcases h with h | h
    · omega
    · by_cases e : t = t'
      · subst e; exact h ht
      · exact B.ne hk e rfl)
/-- behind a call on both -/
def After (w : World) (h q f ib b0 base n m : Nat) (o : O3) (w2 : World) : Prop := ∃ vL Q S L Bg is, Both w2 h q f ib b0 base o vL Q S L Bg is ∧ Q.length ≤ m + 1 ∧ S.length = n ∧ PK b0 w w2
section
variable {w w' : World} {h q f ib b0 base : Nat} {o : O3} {vL : Value} {Q A B : List QO} {qq : QO} {S : List Int} {L : List Run} {Bg : List Bool} {is : List Bool} {at_ : Int}
/-- heap's call, then the reference's -/
def Pair (w : World) (h q f ib b0 base n m : Nat) (o : O3) (c1 c2 : FuncId) (args : List Value) (r : Value) : Prop :=
  ∀ W, Ext w W → Calls Try.prog c1 (.pointer (some ⟨h, 0, none⟩) :: args).toArray W fun e w1 => e = .returned r ∧ PK b0 W w1 ∧ ∀ W1, Ext w1 W1 → Calls Try.prog c2 (.pointer (some ⟨q, 0, none⟩) :: args).toArray W1 fun e w2 => e = .returned r ∧ After w h q f ib b0 base n m o w2
/-- nothing turns -/
theorem pair_no (b : Both w h q f ib b0 base o vL Q S L Bg is) {c1 c2 : FuncId} {args : List Value} {r : Value}
    (h1 : ∀ W, Ext w W → Calls Try.prog c1 (.pointer (some ⟨h, 0, none⟩) :: args).toArray W fun e w1 => e = .returned r ∧ Ext W w1)
    (h2 : ∀ W, Ext w W → Calls Try.prog c2 (.pointer (some ⟨q, 0, none⟩) :: args).toArray W fun e w1 => e = .returned r ∧ Ext W w1) : Pair w h q f ib b0 base S.length Q.length o c1 c2 args r := fun W x =>
  (h1 W x).mono (fun e w1 hp => ⟨hp.1, PK.of_ext hp.2, fun W1 x1 => (h2 W1 (x.trans (hp.2.trans x1))).mono (fun e w2 hp2 => ⟨hp2.1, vL, Q, S, L, Bg, is, b.ext (x.trans (hp.2.trans (x1.trans hp2.2))), by omega, rfl, PK.of_ext (x.trans (hp.2.trans (x1.trans hp2.2)))⟩)⟩)
/-- heap's call turns its words; the reference's its objects -/
theorem pair_yes (b : Both w h q f ib b0 base o vL Q S L Bg is) (hbb : b0 ≤ base) {c1 c2 : FuncId} {args : List Value} {r : Value} {Q' : List QO} {is' : List Bool} {G : List Int → List Run → List Bool → Prop}
    (hm : Q'.length ≤ Q.length + 1)
    (h1 : ∀ W, Ext w W → Calls Try.prog c1 (.pointer (some ⟨h, 0, none⟩) :: args).toArray W fun e w1 => e = .returned r ∧ ∃ S' L' Bg', Heap w1 h b0 o S' L' Bg' ∧ G S' L' Bg' ∧ HKp b0 o W w1)
    (h2 : ∀ W, HAt W q f ib base S.length vL Q is → Calls Try.prog c2 (.pointer (some ⟨q, 0, none⟩) :: args).toArray W fun e w2 => e = .returned r ∧ (∃ (v' : Value) (Q2 : List QO), HAt w2 q f ib base S.length v' Q2 is' ∧ objs Q2 = objs Q' ∧ Q2.length = Q'.length) ∧ RK base W w2)
    (h3 : ∀ S' L' Bg', G S' L' Bg' → HR (objs Q') S' L' Bg' is' ∧ S'.length = S.length) : Pair w h q f ib b0 base S.length Q.length o c1 c2 args r := fun W x => by
  refine (h1 W x).mono ?_
  rintro e w1 ⟨he, S', L', Bg', H1, hG, k1⟩
  refine ⟨he, PK.of_hk (b.H.ext x) k1, fun W1 x1 => ?_⟩
  have R1 := ((b.R.ext x).hk k1 b.lo).ext x1
  refine (h2 W1 R1).mono ?_
  rintro e w2 ⟨he2, ⟨v', Q2, R2, eo, el⟩, k2⟩
  obtain ⟨hr, hl⟩ := h3 S' L' Bg' hG
  refine ⟨he2, v', Q2, S', L', Bg', is', ⟨heap_rk (H1.ext x1) k2 b.lo, by rw [hl]; exact R2, by rw [eo]; exact hr, b.lo⟩, by omega, hl, ?_⟩
  exact (((PK.of_ext x).trans (PK.of_hk (b.H.ext x) k1)).trans (PK.of_ext x1)).trans (PK.of_rk hbb k2)
theorem find_case (Q : List QO) (at_ : Int) : (∃ A qq B, Q = A ++ qq :: B ∧ (qq.o.k : Int) + 1 = at_) ∨ ∀ a ∈ Q, (a.o.k : Int) + 1 ≠ at_ := by
  by_cases hq : ∃ qq ∈ Q, (qq.o.k : Int) + 1 = at_
  · obtain ⟨qq, hm, he⟩ := hq
    obtain ⟨A, B, rfl⟩ := List.append_of_mem hm
    exact .inl ⟨A, qq, B, rfl, he⟩
  · exact .inr (fun a ha e => hq ⟨a, ha, e⟩)
theorem Both.before (b : Both w h q f ib b0 base o vL (A ++ qq :: B) S L Bg is) : ∀ a ∈ A, (a.o.k : Int) + 1 ≠ (qq.o.k : Int) + 1 := fun a ha => by
  have P := b.P
  rw [objs_mid] at P
  have := P.sides.1 a.o (mem_objs ha)
  omega
theorem Both.none (b : Both w h q f ib b0 base o vL Q S L Bg is) (hn : ∀ a ∈ Q, (a.o.k : Int) + 1 ≠ at_) : hasB Bg at_ = false := none_has b.P (fun o ho => by
  obtain ⟨a, ha, rfl⟩ := List.mem_map.1 ho
  exact hn a ha)
theorem do_drop (b : Both w h q f ib b0 base o vL Q S L Bg is) (hbb : b0 ≤ base) (at_ : Int) : ∃ r : Bool, Pair w h q f ib b0 base S.length Q.length o 11 12 [.int .i64 at_] (.bool r) := by
  rcases find_case Q at_ with ⟨A, qq, B, rfl, rfl⟩ | hn
  · have P := b.P
    rw [objs_mid] at P
    obtain ⟨ok, pa⟩ := P.mid
    have hfit := pa.fit
    have hfr : ∀ x, qq.o.k ≤ x → x < qq.o.k + (3 + qq.o.W) → is.getD x false = false := fun x h1 h2 => by
      have q1 := P.free_in (x : Int) (by omega) (by omega)
      rw [P.fr.hs x (by have := P.isl; omega)] at q1
      cases hb : is.getD x false with
      | false => rfl
      | true => exact absurd hb q1
    refine ⟨true, pair_yes b hbb (Q' := A ++ B) (is' := clr is qq.o.k true (3 + qq.o.W)) (G := fun S' L' Bg' => S' = S.set qq.o.k 0 ∧ Bg' = Bg.set (qq.o.k + 1) false ∧ Free.Can 0 L' ∧ ∀ x, Free.has L' x ↔ Free.has L x ∨ ((qq.o.k : Int) ≤ x ∧ x < (qq.o.k : Int) + (3 + qq.o.W))) (by simp; omega) (fun W x => ?_) (fun W R => ?_) ?_⟩
    · have hb0 : b0 ≤ W.heap.size := by
        obtain ⟨s, sb, f', bb, v, _, H⟩ := b.H
        have := H.lo.1; have := H.blk.lt; have := x.below.size; omega
      refine (drop_yes (b.H.ext x) ((qq.o.k : Int) + 1) qq.o.k (3 + qq.o.W) rfl (pa.has P.blen) (by rw [getL_nat _ _ (by omega), pa.w0, ok.got.1]) P.fr.can P.giveok hb0).mono ?_
      rintro e w1 ⟨he, ⟨L', H1, hc, hh⟩, k⟩
      exact ⟨he, _, L', _, H1, ⟨rfl, rfl, hc, hh⟩, k⟩
    · refine (rdrop_yes R b.before ok.ws (by omega) hfr).mono ?_
      rintro e w2 ⟨he, ⟨v', R2⟩, k⟩
      exact ⟨he, ⟨v', _, R2, rfl, rfl⟩, k⟩
    · rintro S' L' Bg' ⟨rfl, rfl, hc, hh⟩
      rw [objs_app]
      exact ⟨P.drop hc hh, List.length_set ..⟩
  · exact ⟨false, pair_no b (fun W x => same_ext (drop_no (b.H.ext x) at_ (b.none hn))) (fun W x => rdrop_no (b.R.ext x) hn)⟩
theorem do_setfield (b : Both w h q f ib b0 base o vL Q S L Bg is) (hbb : b0 ≤ base) (at_ i y : Int) (hy : 0 ≤ y ∧ y < 4294967296) : ∃ r : Bool, Pair w h q f ib b0 base S.length Q.length o 13 14 [.int .i64 at_, .int .i64 i, .int .u32 y] (.bool r) := by
  rcases find_case Q at_ with ⟨A, qq, B, rfl, rfl⟩ | hn
  · have P := b.P
    rw [objs_mid] at P
    obtain ⟨ok, pa⟩ := P.mid
    have hfit := pa.fit
    have lF : qq.o.F.length ≤ 60 ∧ qq.o.F.length ≤ qq.o.W := by
      rcases ok.f with ⟨_, e, _, _⟩ | ⟨_, _, e, e2⟩
      · rw [e]; simp
      · omega
    by_cases hi : 0 ≤ i ∧ i < qq.o.F.length
    · obtain ⟨j, rfl⟩ := Int.eq_ofNat_of_zero_le hi.1
      have hj : j < qq.o.F.length := by have := hi.2; omega
      refine ⟨true, pair_yes b hbb (Q' := A ++ { qq with o := { qq.o with F := qq.o.F.set j y } } :: B) (is' := is) (G := fun S' L' Bg' => S' = S.set (qq.o.k + 3 + j) y ∧ L' = L ∧ Bg' = Bg) (by simp) (fun W x => ?_) (fun W R => ?_) ?_⟩
      · refine (setfield_yes (b.H.ext x) ((qq.o.k : Int) + 1) j y (qq.o.k + 3 + j) (by omega) (by omega) hy (by rw [pa.inF ok P.blen]; simp; omega) (by omega)).mono ?_
        rintro e w1 ⟨he, H1, k⟩
        exact ⟨he, _, _, _, H1, ⟨rfl, rfl, rfl⟩, k⟩
      · refine (rsetf_in R rfl b.before lF.1 j hj y).mono ?_
        rintro e w2 ⟨he, R2, k⟩
        exact ⟨he, ⟨_, _, R2, rfl, rfl⟩, k⟩
      · rintro S' L' Bg' ⟨rfl, rfl, rfl⟩
        rw [objs_mid]
        exact ⟨P.field j hj y hy, List.length_set ..⟩
    · obtain ⟨AF, cF, AB, cB, eF, eB, GT⟩ := b.R.got rfl b.before
      exact ⟨false, pair_no b (fun W x => setfield_no (b.H.ext x) _ i y (by rw [pa.inF ok P.blen]; simpa using hi)) (fun W x => setf_out (w := W) (fun W2 x2 => GT W2 (x.trans x2)) i y (by show qq.o.F.length ≤ 1000; omega) (by show i < 0 ∨ (qq.o.F.length : Int) ≤ i; omega))⟩
  · have GT := b.R.gotno hn
    exact ⟨false, pair_no b (fun W x => setfield_no (b.H.ext x) _ i y ((none_said (S := S) (b.none hn)).2.2.2.2.2.2 i false)) (fun W x => setf_out (w := W) (fun W2 x2 => GT W2 (x.trans x2)) i y (by show 0 ≤ 1000; omega) (by show i < 0 ∨ ((0 : Nat) : Int) ≤ i; omega))⟩
theorem do_setbyte (b : Both w h q f ib b0 base o vL Q S L Bg is) (hbb : b0 ≤ base) (at_ i u : Int) (u1 : -9223372036854775808 ≤ u) (u2 : u ≤ 9223372036854775807) : ∃ r : Bool, Pair w h q f ib b0 base S.length Q.length o 15 16 [.int .i64 at_, .int .i64 i, .int .i64 u] (.bool r) := by
  rcases find_case Q at_ with ⟨A, qq, B, rfl, rfl⟩ | hn
  · have P := b.P
    rw [objs_mid] at P
    obtain ⟨ok, pa⟩ := P.mid
    have hfit := pa.fit
    have lB : qq.o.B.length ≤ 200 ∧ qq.o.B.length ≤ qq.o.W * 4 := by
      rcases ok.f with ⟨_, _, e, e2⟩ | ⟨_, e, _, _⟩
      · omega
      · rw [e]; simp
    have wd : ∀ x ∈ S, 0 ≤ x ∧ x < 4294967296 := by
      obtain ⟨s, sb, f', bb, v, _, H⟩ := b.H
      exact H.wd
    by_cases hi : 0 ≤ i ∧ i < qq.o.B.length
    · obtain ⟨j, rfl⟩ := Int.eq_ofNat_of_zero_le hi.1
      have hj : j < qq.o.B.length := by have := hi.2; omega
      refine ⟨true, pair_yes b hbb (Q' := A ++ { qq with o := { qq.o with B := qq.o.B.set j (u % 256) } } :: B) (is' := is) (G := fun S' L' Bg' => S' = S.set (qq.o.k + 3 + j / 4) (setV (S.getD (qq.o.k + 3 + j / 4) 0) (j % 4) u) ∧ L' = L ∧ Bg' = Bg) (by simp) (fun W x => ?_) (fun W R => ?_) ?_⟩
      · refine (setbyte_yes (b.H.ext x) ((qq.o.k : Int) + 1) j u (qq.o.k + 3 + j / 4) (by omega) (by omega) (by rw [pa.inY ok P.blen]; simp; omega) (by omega) u1 u2).mono ?_
        rintro e w1 ⟨he, H1, k⟩
        rw [getL_nat _ _ (by omega)] at H1
        exact ⟨he, _, _, _, H1, ⟨rfl, rfl, rfl⟩, k⟩
      · refine (rsetb_in R rfl b.before lB.1 j hj u).mono ?_
        rintro e w2 ⟨he, R2, k⟩
        exact ⟨he, ⟨_, _, R2, rfl, rfl⟩, k⟩
      · rintro S' L' Bg' ⟨rfl, rfl, rfl⟩
        rw [objs_mid]
        exact ⟨P.byte wd j hj u, List.length_set ..⟩
    · obtain ⟨AF, cF, AB, cB, eF, eB, GT⟩ := b.R.got rfl b.before
      exact ⟨false, pair_no b (fun W x => setbyte_no (b.H.ext x) _ i u (by rw [pa.inY ok P.blen]; simpa using hi)) (fun W x => setb_out (w := W) (fun W2 x2 => GT W2 (x.trans x2)) i u (by show qq.o.B.length ≤ 1000; omega) (by show i < 0 ∨ (qq.o.B.length : Int) ≤ i; omega))⟩
  · have GT := b.R.gotno hn
    exact ⟨false, pair_no b (fun W x => setbyte_no (b.H.ext x) _ i u ((none_said (S := S) (b.none hn)).2.2.2.2.2.2 i true)) (fun W x => setb_out (w := W) (fun W2 x2 => GT W2 (x.trans x2)) i u (by show 0 ≤ 1000; omega) (by show i < 0 ∨ ((0 : Nat) : Int) ≤ i; omega))⟩
theorem do_setclass (b : Both w h q f ib b0 base o vL Q S L Bg is) (hbb : b0 ≤ base) (at_ c : Int) : ∃ r : Bool, Pair w h q f ib b0 base S.length Q.length o 17 18 [.int .i64 at_, .int .i64 c] (.bool r) := by
  rcases find_case Q at_ with ⟨A, qq, B, rfl, rfl⟩ | hn
  · have P := b.P
    rw [objs_mid] at P
    obtain ⟨ok, pa⟩ := P.mid
    have hfit := pa.fit
    by_cases hc : 0 ≤ c ∧ c ≤ 65536
    · refine ⟨true, pair_yes b hbb (Q' := A ++ { qq with o := { qq.o with cls := c } } :: B) (is' := is) (G := fun S' L' Bg' => S' = S.set (qq.o.k + 1) (refW c) ∧ L' = L ∧ Bg' = Bg) (by simp) (fun W x => ?_) (fun W R => ?_) ?_⟩
      · refine (setclass_yes (b.H.ext x) ((qq.o.k : Int) + 1) c (qq.o.k + 1) (by omega) (by omega) hc.1 hc.2 (pa.has P.blen)).mono ?_
        rintro e w1 ⟨he, H1, k⟩
        exact ⟨he, _, _, _, H1, ⟨rfl, rfl, rfl⟩, k⟩
      · refine (rsetc_yes R rfl b.before hc.1 hc.2).mono ?_
        rintro e w2 ⟨he, R2, k⟩
        exact ⟨he, ⟨_, _, R2, rfl, rfl⟩, k⟩
      · rintro S' L' Bg' ⟨rfl, rfl, rfl⟩
        rw [objs_mid]
        exact ⟨P.clas c hc.1 hc.2, List.length_set ..⟩
    · exact ⟨false, pair_no b (fun W x => setclass_no (b.H.ext x) _ c (by omega)) (fun W x => rsetc_bad (Lib.hid ⟨_, find_yes (b.R.ext x) _ rfl b.before, by omega⟩))⟩
  · exact ⟨false, pair_no b (fun W x => setclass_no (b.H.ext x) _ c (.inl (b.none hn))) (fun W x => rsetc_bad (Lib.hid ⟨_, find_no (b.R.ext x) _ hn, .inl (by decide)⟩))⟩
theorem do_setmark (b : Both w h q f ib b0 base o vL Q S L Bg is) (hbb : b0 ≤ base) (at_ c : Int) (fi : Bool) : ∃ r : Bool, Pair w h q f ib b0 base S.length Q.length o 19 20 [.int .i64 at_, .int .i64 c, .bool fi] (.bool r) := by
  rcases find_case Q at_ with ⟨A, qq, B, rfl, rfl⟩ | hn
  · have P := b.P
    rw [objs_mid] at P
    obtain ⟨ok, pa⟩ := P.mid
    have hfit := pa.fit
    by_cases hc : 0 ≤ c ∧ c ≤ 2
    · refine ⟨true, pair_yes b hbb (Q' := A ++ { qq with o := { qq.o with col := c, fin := fi } } :: B) (is' := is) (G := fun S' L' Bg' => S' = S.set qq.o.k (putN (gotS qq.o.w0) (gotF qq.o.w0) (gotO qq.o.w0) c fi (gotL qq.o.w0)) ∧ L' = L ∧ Bg' = Bg) (by simp) (fun W x => ?_) (fun W R => ?_) ?_⟩
      · refine (setmark_yes (b.H.ext x) ((qq.o.k : Int) + 1) c fi qq.o.k rfl (by omega) hc.1 hc.2 (pa.has P.blen) (x := qq.o.w0) (by rw [getL_nat _ _ (by omega)]; exact pa.w0)).mono ?_
        rintro e w1 ⟨he, H1, k⟩
        exact ⟨he, _, _, _, H1, ⟨rfl, rfl, rfl⟩, k⟩
      · refine (rsetm_yes (fi := fi) R rfl b.before hc.1 hc.2).mono ?_
        rintro e w2 ⟨he, R2, k⟩
        exact ⟨he, ⟨_, _, R2, rfl, rfl⟩, k⟩
      · rintro S' L' Bg' ⟨rfl, rfl, rfl⟩
        rw [objs_mid]
        exact ⟨P.mark c fi hc.1 hc.2, List.length_set ..⟩
    · exact ⟨false, pair_no b (fun W x => same_ext (setmark_bad (b.H.ext x) _ c fi (by omega))) (fun W x => rsetm_bad (Lib.hid ⟨_, find_yes (b.R.ext x) _ rfl b.before, by omega⟩))⟩
  · exact ⟨false, pair_no b (fun W x => same_ext (setmark_no (b.H.ext x) _ c fi (b.none hn))) (fun W x => rsetm_bad (Lib.hid ⟨_, find_no (b.R.ext x) _ hn, .inl (by decide)⟩))⟩
end
end Go.Proofs.Ytjpalcejmloocaa.RefHeap
