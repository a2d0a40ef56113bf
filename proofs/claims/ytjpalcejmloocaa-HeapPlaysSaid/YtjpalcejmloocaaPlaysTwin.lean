/-
  HeapPlays (chapter 5): both heaps answer alike.
-/
import Derived.Test.YtjpalcejmloocaaPlaysSame
import Derived.Test.YtjpalcejmloocaaRefHeap4
namespace Go.Proofs.Ytjpalcejmloocaa.RefHeap
open Go.RowKit Go.Proofs.Ytjpalcejmloocaa.Plain Go.Proofs.Ytjpalcejmloocaa.Free Go.Proofs.Ytjpalcejmloocaa.Heap Go.Proofs.Ytjpalcejmloocaa.RefFree
set_option linter.unusedVariables false
def objs (Q : List QO) : List PO := Q.map (·.o)
theorem objs_mid (A B : List QO) (q : QO) : objs (A ++ q :: B) = objs A ++ q.o :: objs B := by simp [objs]
theorem objs_app (A B : List QO) : objs (A ++ B) = objs A ++ objs B := by simp [objs]
theorem mem_objs {Q : List QO} {q : QO} (h : q ∈ Q) : q.o ∈ objs Q := List.mem_map.2 ⟨q, h, rfl⟩
/-- what both heaps are -/
structure Both (w : World) (h q f ib b0 base : Nat) (o : O3) (vL : Value) (Q : List QO) (S : List Int) (L : List Run) (Bg : List Bool) (is : List Bool) : Prop where
  H : Heap w h b0 o S L Bg
  R : HAt w q f ib base S.length vL Q is
  P : HR (objs Q) S L Bg is
  lo : o.sb < base ∧ o.f < base ∧ o.bb < base
section
variable {w w' : World} {h q f ib b0 base : Nat} {o : O3} {vL : Value} {Q A B : List QO} {qq : QO} {S : List Int} {L : List Run} {Bg : List Bool} {is : List Bool} {at_ : Int}
theorem Both.ext (b : Both w h q f ib b0 base o vL Q S L Bg is) (x : Ext w w') : Both w' h q f ib b0 base o vL Q S L Bg is := ⟨b.H.ext x, b.R.ext x, b.P, b.lo⟩
theorem Both.us (b : Both w h q f ib b0 base o vL Q S L Bg is) : 0 ≤ wordsL L ∧ wordsL L ≤ (S.length : Int) ∧ (S.length : Int) ≤ 65536 := by
  have h1 := b.P.fr.words
  have h2 : is.count true ≤ is.length := List.count_le_length
  have h3 := b.P.isl
  have h4 := b.R.fr.le
  rw [h1]
  omega
/-- the next one, by both -/
theorem Both.nxt (b : Both w h q f ib b0 base o vL Q S L Bg is) (at_ : Int) : ∃ nx : Int, ∀ W, Ext w W → Calls Try.prog 46 #[.pointer (some ⟨q, 0, none⟩), .int .i64 at_] W (fun e w' => e = .returned (.int .i64 nx) ∧ Ext W w') ∧ nx = nextO (objs Q) at_ := by
  cases hf : Q.find? (fun p => decide (at_ < (p.o.k : Int) + 1)) with
  | none =>
    rw [List.find?_eq_none] at hf
    refine ⟨0, fun W x => ⟨next_no (b.R.ext x) at_ (fun a ha => by have := hf a ha; simpa using this), ?_⟩⟩
    unfold nextO
    rw [List.find?_eq_none.2]
    intro p hp
    obtain ⟨a, ha, rfl⟩ := List.mem_map.1 hp
    exact hf a ha
  | some p =>
    obtain ⟨hp, A, B, rfl, hA⟩ := List.find?_eq_some_iff_append.1 hf
    simp only [decide_eq_true_eq] at hp
    refine ⟨(p.o.k : Int) + 1, fun W x => ⟨next_yes (b.R.ext x) at_ hp (fun a ha => by have := hA a ha; simpa using this), ?_⟩⟩
    unfold nextO
    rw [objs_mid, List.find?_append, List.find?_eq_none.2, Option.none_or, List.find?_cons_of_pos (by simpa using hp)]
    intro p' hp'
    obtain ⟨a, ha, rfl⟩ := List.mem_map.1 hp'
    have := hA a ha
    simpa using this
theorem same_ext {P : Program} {fn : FuncId} {args : Array Value} {W : World} {v : Value} (h : Calls P fn args W fun e w' => e = .returned v ∧ W = w') : Calls P fn args W fun e w' => e = .returned v ∧ Ext W w' := h.mono (fun _ _ h => ⟨h.1, h.2 ▸ Ext.refl _⟩)
theorem val_eq {P : Program} {fn : FuncId} {args : Array Value} {W : World} {v u : Value} (e : v = u) (h : Calls P fn args W fun e w' => e = .returned v ∧ Ext W w') : Calls P fn args W fun e w' => e = .returned u ∧ Ext W w' := e ▸ h
def k0 (at_ : Int) : Nat := (if at_ < 0 then 0 else at_).toNat
theorem k0_eq (at_ : Int) : (if at_ < 0 then 0 else at_) = (k0 at_ : Int) := by unfold k0; split <;> omega
theorem heap_next (b : Both w h q f ib b0 base o vL Q S L Bg is) (at_ : Int) (hat : at_ ≤ 9223372036854775807) {nx : Int} (hnx : nx = nextO (objs Q) at_) : ∀ W, Ext w W → Calls Try.prog 22 #[.pointer (some ⟨h, 0, none⟩), .int .i64 at_] W fun e w' => e = .returned (.int .i64 nx) ∧ Ext W w' := fun W x =>
  val_eq (by rw [hnx, ← b.P.next at_ (k0 at_) (k0_eq at_)]) (same_ext (Heap.next (b.H.ext x) at_ (k0 at_) (k0_eq at_) hat))
theorem twin_yes (b : Both w h q f ib b0 base o vL (A ++ qq :: B) S L Bg is) (i : Int) (hat : (qq.o.k : Int) + 1 = at_) : ∃ G sz fd by_ nx, Twin w h q f ib S.length at_ i G vL (wordsL L) sz fd by_ nx := by
  have P := b.P
  rw [objs_mid] at P
  obtain ⟨ok, pa⟩ := P.mid
  obtain ⟨sa, sb⟩ := P.sides
  have hl := P.blen
  have hA : ∀ a ∈ A, (a.o.k : Int) + 1 ≠ at_ := fun a ha => by have := sa a.o (mem_objs ha); omega
  obtain ⟨AF, cF, AB, cB, eF, eB, GT⟩ := b.R.got hat hA
  obtain ⟨nx, hnx⟩ := b.nxt at_
  have hnx0 := (hnx w (Ext.refl _)).2
  have hfit := pa.fit
  have hus := b.us
  have lF : qq.o.F.length ≤ 60 := by rcases ok.f with ⟨_, e, _, _⟩ | ⟨_, _, e, e2⟩; (rw [e]; simp); omega
  have lB : qq.o.B.length ≤ 200 := by rcases ok.f with ⟨_, _, e, _⟩ | ⟨_, e, _, _⟩; exact e; (rw [e]; simp)
  have cellF : ∀ k, k < qq.o.F.length → ∃ g, AF = some ⟨g, 0, none⟩ ∧ g < w.heap.size ∧ w.cell? ⟨g, k, none⟩ = some (.int .u32 (qq.o.F.getD k 0)) := fun k hk => by
    obtain ⟨g, cap, hv, _, hg, _, _, _, hc⟩ := own_cell (b.R.fs qq (by simp)) (by omega)
    refine ⟨g, by rw [eF] at hv; injection hv, hg, hc k _ ?_⟩
    rw [List.getElem?_map, List.getElem?_eq_getElem hk, List.getD_eq_getElem?_getD, List.getElem?_eq_getElem hk]; rfl
  have cellB : ∀ k, k < qq.o.B.length → ∃ g, AB = some ⟨g, 0, none⟩ ∧ g < w.heap.size ∧ w.cell? ⟨g, k, none⟩ = some (.int .u8 (qq.o.B.getD k 0)) := fun k hk => by
    obtain ⟨g, cap, hv, _, hg, _, _, _, hc⟩ := own_cell (b.R.bs qq (by simp)) (by omega)
    refine ⟨g, by rw [eB] at hv; injection hv, hg, hc k _ ?_⟩
    rw [List.getElem?_map, List.getElem?_eq_getElem hk, List.getD_eq_getElem?_getD, List.getElem?_eq_getElem hk]; rfl
  have hF : ∀ (k : Nat), k < qq.o.F.length → ∀ W, Ext w W → Calls Try.prog 42 #[.pointer (some ⟨h, 0, none⟩), .int .i64 at_, .int .i64 (k : Int)] W fun e w' => e = .returned (.int .u32 (qq.o.F.getD k 0)) ∧ Ext W w' := fun k hk W x => by
    have c := field_yes (b.H.ext x) at_ k (by rw [← hat, pa.inF ok hl]; simp; omega) (by omega)
    rw [← hat, pa.fldL ok k hk, hat] at c
    exact c
  have hB : ∀ (k : Nat), k < qq.o.B.length → ∀ W, Ext w W → Calls Try.prog 44 #[.pointer (some ⟨h, 0, none⟩), .int .i64 at_, .int .i64 (k : Int)] W fun e w' => e = .returned (.int .i64 (qq.o.B.getD k 0)) ∧ Ext W w' := fun k hk W x => by
    have c := byte_yes (b.H.ext x) at_ k (by rw [← hat, pa.inY ok hl]; simp; omega) (by omega)
    rw [← hat, pa.bytL ok k hk, hat] at c
    exact c
  have byB : ∀ k, k < qq.o.B.length → 0 ≤ qq.o.B.getD k 0 ∧ qq.o.B.getD k 0 < 256 := fun k hk => by
    rw [List.getD_eq_getElem?_getD, List.getElem?_eq_getElem hk]
    exact ok.bw _ (List.getElem_mem _)
  have FD : ∃ fd, (∀ W, Ext w W → Calls Try.prog 42 #[.pointer (some ⟨h, 0, none⟩), .int .i64 at_, .int .i64 i] W fun e w' => e = .returned (.int .u32 fd) ∧ Ext W w') ∧ ∀ W, Ext w W → Calls Try.prog 43 #[.pointer (some ⟨q, 0, none⟩), .int .i64 at_, .int .i64 i] W fun e w' => e = .returned (.int .u32 fd) ∧ Ext W w' := by
    by_cases hi : 0 ≤ i ∧ i < qq.o.F.length
    · obtain ⟨k, rfl⟩ := Int.eq_ofNat_of_zero_le hi.1
      have hk : k < qq.o.F.length := by have := hi.2; omega
      refine ⟨_, hF k hk, fun W x => ?_⟩
      obtain ⟨g, e1, e2, e3⟩ := cellF k hk
      exact field_in (w := W) (fun W2 x2 => GT W2 (x.trans x2)) k (by show qq.o.F.length ≤ 1000; omega) hk _ e1 (Nat.lt_of_lt_of_le e2 x.below.size) ((x.below.cell (p := ⟨g, k, none⟩) e2).trans e3)
    · refine ⟨0, fun W x => field_no (b.H.ext x) at_ i (by rw [← hat, pa.inF ok hl]; simpa using hi), fun W x => field_out (w := W) (fun W2 x2 => GT W2 (x.trans x2)) i (by show qq.o.F.length ≤ 1000; omega) (by show i < 0 ∨ (qq.o.F.length : Int) ≤ i; omega)⟩
  have BD : ∃ bd, (∀ W, Ext w W → Calls Try.prog 44 #[.pointer (some ⟨h, 0, none⟩), .int .i64 at_, .int .i64 i] W fun e w' => e = .returned (.int .i64 bd) ∧ Ext W w') ∧ ∀ W, Ext w W → Calls Try.prog 45 #[.pointer (some ⟨q, 0, none⟩), .int .i64 at_, .int .i64 i] W fun e w' => e = .returned (.int .i64 bd) ∧ Ext W w' := by
    by_cases hi : 0 ≤ i ∧ i < qq.o.B.length
    · obtain ⟨k, rfl⟩ := Int.eq_ofNat_of_zero_le hi.1
      have hk : k < qq.o.B.length := by have := hi.2; omega
      refine ⟨_, hB k hk, fun W x => ?_⟩
      obtain ⟨g, e1, e2, e3⟩ := cellB k hk
      exact byte_in (w := W) (fun W2 x2 => GT W2 (x.trans x2)) k (by show qq.o.B.length ≤ 1000; omega) hk _ (byB k hk) e1 (Nat.lt_of_lt_of_le e2 x.below.size) ((x.below.cell (p := ⟨g, k, none⟩) e2).trans e3)
    · refine ⟨-1, fun W x => byte_no (b.H.ext x) at_ i (by rw [← hat, pa.inY ok hl]; simpa using hi), fun W x => byte_out (w := W) (fun W2 x2 => GT W2 (x.trans x2)) i (by show qq.o.B.length ≤ 1000; omega) (by show i < 0 ∨ (qq.o.B.length : Int) ≤ i; omega)⟩
  obtain ⟨fd, fd1, fd2⟩ := FD
  obtain ⟨bd, bd1, bd2⟩ := BD
  refine ⟨_, (qq.o.F.length : Int) + qq.o.B.length, fd, bd, nx, ⟨GT, fun W x => ?_, fun W x => ?_, fun W x => ?_, fun W x => ?_, fun W x => ?_, fun W x => ?_, fun W x => ?_, fun W x => ?_, fd1, fd2, bd1, bd2, heap_next b at_ (by omega) hnx0, fun W x => (hnx W x).1, b.R.blk, b.R.fr.blk, fun W x => rwords (b.R.ext x).fr P.fr, ⟨hus.1, hus.2.1, by have := hus.2.2; omega⟩, fun k hk => ?_, fun k hk => ?_, ⟨by show qq.o.F.length ≤ 1000; omega, by show qq.o.B.length ≤ 1000; omega⟩⟩⟩
  · have c := mark_ (b.H.ext x) at_
    rw [← hat, (pa.mrk ok hl).1, (pa.mrk ok hl).2, hat] at c
    exact c
  · exact Heap.words (b.H.ext x)
  · have c := Heap.has (b.H.ext x) at_
    rw [← hat, pa.has hl, hat] at c
    exact same_ext c
  · have c := size_ (b.H.ext x) at_
    rw [← hat, pa.size ok hl, hat] at c
    exact c
  · exact val_eq rfl (size_of (w := W) (fun W2 x2 => GT W2 (x.trans x2)) ⟨by show qq.o.F.length ≤ 1000; omega, by show qq.o.B.length ≤ 1000; omega⟩)
  · have c := fmt_ (b.H.ext x) at_
    rw [← hat, pa.fmt ok hl, hat] at c
    exact c
  · have c := class_ (b.H.ext x) at_
    rw [← hat, pa.cls ok hl, hat] at c
    exact c
  · have c := hash_ (b.H.ext x) at_
    rw [← hat, pa.hsh ok hl, hat] at c
    exact c
  · obtain ⟨g, e1, e2, e3⟩ := cellF k hk
    exact ⟨g, _, e1, e2, e3, hF k hk⟩
  · obtain ⟨g, e1, e2, e3⟩ := cellB k hk
    exact ⟨g, _, e1, e2, e3, (byB k hk).1, (byB k hk).2, hB k hk⟩
theorem twin_no (b : Both w h q f ib b0 base o vL Q S L Bg is) (i : Int) (hn : ∀ a ∈ Q, (a.o.k : Int) + 1 ≠ at_) (hat : at_ ≤ 9223372036854775807) : ∃ G sz fd by_ nx, Twin w h q f ib S.length at_ i G vL (wordsL L) sz fd by_ nx := by
  have hb : hasB Bg at_ = false := none_has b.P (fun o ho => by
    obtain ⟨a, ha, rfl⟩ := List.mem_map.1 ho
    exact hn a ha)
  obtain ⟨n1, n2, n3, n4, n5, n6, n7⟩ := none_said (S := S) hb
  have GT := b.R.gotno hn
  obtain ⟨nx, hnx⟩ := b.nxt at_
  have hnx0 := (hnx w (Ext.refl _)).2
  have hus := b.us
  refine ⟨_, -1, 0, -1, nx, ⟨GT, fun W x => ?_, fun W x => Heap.words (b.H.ext x), fun W x => ?_, fun W x => ?_, fun W x => ?_, fun W x => ?_, fun W x => ?_, fun W x => ?_, fun W x => field_no (b.H.ext x) at_ i (n7 i false), fun W x => field_out (w := W) (fun W2 x2 => GT W2 (x.trans x2)) i (by show 0 ≤ 1000; omega) (by show i < 0 ∨ ((0 : Nat) : Int) ≤ i; omega), fun W x => byte_no (b.H.ext x) at_ i (n7 i true), fun W x => byte_out (w := W) (fun W2 x2 => GT W2 (x.trans x2)) i (by show 0 ≤ 1000; omega) (by show i < 0 ∨ ((0 : Nat) : Int) ≤ i; omega), heap_next b at_ hat hnx0, fun W x => (hnx W x).1, b.R.blk, b.R.fr.blk, fun W x => rwords (b.R.ext x).fr b.P.fr, ⟨hus.1, hus.2.1, by have := hus.2.2; omega⟩, fun k hk => absurd hk (by show ¬ k < 0; omega), fun k hk => absurd hk (by show ¬ k < 0; omega), ⟨by show 0 ≤ 1000; omega, by show 0 ≤ 1000; omega⟩⟩⟩
  · have c := mark_ (b.H.ext x) at_
    rw [n5, n6] at c
    exact c
  · have c := Heap.has (b.H.ext x) at_
    rw [hb] at c
    exact same_ext c
  · have c := size_ (b.H.ext x) at_
    rw [n2] at c
    exact c
  · exact val_eq rfl (size_of (w := W) (fun W2 x2 => GT W2 (x.trans x2)) ⟨by show 0 ≤ 1000; omega, by show 0 ≤ 1000; omega⟩)
  · have c := fmt_ (b.H.ext x) at_
    rw [n1] at c
    exact c
  · have c := class_ (b.H.ext x) at_
    rw [n3] at c
    exact c
  · have c := hash_ (b.H.ext x) at_
    rw [n4] at c
    exact c
/-- same of both, at any place -/
theorem both_same (b : Both w h q f ib b0 base o vL Q S L Bg is) (at_ i : Int) (hat : at_ ≤ 9223372036854775807) : Calls Try.prog 10 #[.pointer (some ⟨h, 0, none⟩), .pointer (some ⟨q, 0, none⟩), .int .i64 at_, .int .i64 i] w fun e w' => e = .returned (.bool true) ∧ Ext w w' := by
  by_cases hq : ∃ qq ∈ Q, (qq.o.k : Int) + 1 = at_
  · obtain ⟨qq, hm, he⟩ := hq
    obtain ⟨A, B, rfl⟩ := List.append_of_mem hm
    obtain ⟨G, sz, fd, bd, nx, T⟩ := twin_yes b i he
    exact same_ok T
  · obtain ⟨G, sz, fd, bd, nx, T⟩ := twin_no b i (fun a ha e => hq ⟨a, ha, e⟩) hat
    exact same_ok T
end
end Go.Proofs.Ytjpalcejmloocaa.RefHeap
