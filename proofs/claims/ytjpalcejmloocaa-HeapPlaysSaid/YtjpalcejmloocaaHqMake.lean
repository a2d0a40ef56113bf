/-
  The contract of heap.Make (chapter 5).
-/
import Derived.Test.YtjpalcejmloocaaHq
namespace Go.Proofs.Ytjpalcejmloocaa.Heap
open Go.RowKit Go.Proofs.Ytjpalcejmloocaa.Plain Go.Proofs.Ytjpalcejmloocaa.Free
set_option linter.unusedVariables false

/-- only the heap's own blocks have turned (from base on, by their types), and new ones have come -/
def hts : List TypeId := [28, 77, 78, 4]
def HS (base : Nat) (o : O3) (w : World) (k : Nat) : Prop := base ≤ k ∧ ((k = o.sb ∨ k = o.f ∨ k = o.bb) ∨ ∃ cs, Blk w k 78 cs)
def HKp (base : Nat) (o : O3) (w w' : World) : Prop := Keep (HS base o w) w w'
theorem HKp.refl (base : Nat) (o : O3) (w : World) : HKp base o w w := Keep.refl _ _
theorem HKp.trans {base : Nat} {o : O3} {a b c : World} (h : HKp base o a b) (k : HKp base o b c) : HKp base o a c := by
  refine ⟨k.os.trans h.os, k.tape.trans h.tape, k.output.trans h.output, Nat.le_trans h.size k.size, fun i hi hn => ?_⟩
  have e := h.block i hi hn
  refine (k.block i (Nat.lt_of_lt_of_le hi h.size) ?_).trans e
  rintro ⟨hb, hk | ⟨cs, hbk⟩⟩
  · exact hn ⟨hb, .inl hk⟩
  · exact hn ⟨hb, .inr ⟨cs, e.symm.trans hbk⟩⟩
theorem HKp.of_ext {base : Nat} {o : O3} {a b : World} (x : Ext a b) : HKp base o a b := Keep.of_ext x _
theorem HKp.ext {base : Nat} {o : O3} {a b c : World} (h : HKp base o a b) (x : Ext b c) : HKp base o a c := h.trans (HKp.of_ext x)
theorem HKp.keep {base : Nat} {o : O3} {a b : World} (h : HKp base o a b) : Keep (base ≤ ·) a b := Keep.mono h (fun k hk => hk.1)
theorem hk_ext {base : Nat} {o : O3} {a w w' : World} (x : Ext a w) (hb : a.heap.size ≤ base) (k : HKp base o w w') : Ext a w' :=
  ((Keep.of_ext x (base ≤ ·)).trans k.keep).toExt (fun j hj hs => by omega)
theorem blk_hk {base : Nat} {o : O3} {w w' : World} {g : Nat} {t : TypeId} {cs : Array Value} (h : Blk w g t cs) (k : HKp base o w w') (hn : t ≠ 78) (h1 : g ≠ o.sb ∧ g ≠ o.f ∧ g ≠ o.bb) : Blk w' g t cs :=
  h.keep k (by
    rintro ⟨_, hk | ⟨cs', hb⟩⟩
    · rcases hk with e | e | e
      · exact h1.1 e
      · exact h1.2.1 e
      · exact h1.2.2 e
    · exact h.ne hb hn rfl)
section
variable {w w' : World} {h s sb f bb base : Nat} {v : Value} {S S' : List Int} {L : List Run} {Bg : List Bool}
theorem Hp.rowBlk (H : Hp w h s sb f bb base v S L Bg) (j : Nat) (hj : v.ownBlock = some j) : base ≤ j ∧ ∃ cur, Blk w j 78 cur := by
  rcases H.fre.own.2 with ⟨rfl, _⟩ | ⟨g, cap, cur, rfl, hb, hg, _⟩
  · cases hj
  · simp [Value.ownBlock] at hj; subst hj; exact ⟨hb, cur, hg⟩
/-- behind Take -/
theorem Hp.took (H : Hp w h s sb f bb base v S L Bg) {v' : Value} {L' : List Run} (hf : Fre w' f base v' L' S.length) (k : Keep (fun j => j = f ∨ v.ownBlock = some j) w w') (hu : ∀ r ∈ L', r.1 + r.2 ≤ S.length) :
    Hp w' h s sb f bb base v' S L' Bg ∧ HKp base ⟨sb, f, bb⟩ w w' := by
  have row := H.rowBlk
  have n1 : ¬ (h = f ∨ v.ownBlock = some h) := by
    rintro (e | e)
    · exact H.blk.ne H.fre.blk (by decide) e
    · obtain ⟨_, cur, hc⟩ := row h e; exact H.blk.ne hc (by decide) rfl
  have n2 : ¬ (s = f ∨ v.ownBlock = some s) := by
    rintro (e | e)
    · exact H.sto.head.ne H.fre.blk (by decide) e
    · obtain ⟨_, cur, hc⟩ := row s e; exact H.sto.head.ne hc (by decide) rfl
  have n3 : ¬ (sb = f ∨ v.ownBlock = some sb) := by
    rintro (e | e)
    · exact H.sto.row.ne H.fre.blk (by decide) e
    · obtain ⟨_, cur, hc⟩ := row sb e; exact H.sto.row.ne hc (by decide) rfl
  have n4 : ¬ (bb = f ∨ v.ownBlock = some bb) := by
    rintro (e | e)
    · exact H.bg.ne H.fre.blk (by decide) e
    · obtain ⟨_, cur, hc⟩ := row bb e; exact H.bg.ne hc (by decide) rfl
  refine ⟨⟨H.blk.keep k n1, H.sto.keep k n2 n3, hf, H.bg.keep k n4, H.len, hu, H.wd, H.lo⟩, Keep.mono k ?_⟩
  rintro j (rfl | e)
  · exact ⟨H.lo.2.2.2.1, .inl (.inr (.inl rfl))⟩
  · obtain ⟨q1, cur, q2⟩ := row j e
    exact ⟨q1, .inr ⟨_, q2⟩⟩
/-- behind Put -/
theorem Hp.put (H : Hp w h s sb f bb base v S L Bg) (hs : Store.Sto w' s sb S') (k : Keep (· = sb) w w') (hl : S'.length = S.length) (hw : ∀ x ∈ S', 0 ≤ x ∧ x < 4294967296) : Hp w' h s sb f bb base v S' L Bg ∧ HKp base ⟨sb, f, bb⟩ w w' := by
  refine ⟨⟨H.blk.keep k (H.blk.ne H.sto.row (by decide)), hs, ?_, H.bg.keep k (H.bg.ne H.sto.row (by decide)), by rw [hl]; exact H.len, by rw [hl]; exact H.up, hw, H.lo⟩, Keep.mono k (fun j e => by rw [e]; exact ⟨H.lo.2.2.1, .inl (.inl rfl)⟩)⟩
  rw [hl]
  refine H.fre.keep k (H.fre.blk.ne H.sto.row (by decide)) (fun j hj e => ?_)
  obtain ⟨_, cur, hc⟩ := H.rowBlk j hj
  subst e
  exact hc.ne H.sto.row (by decide) rfl
theorem wd_set {x : Int} {i : Nat} (hw : ∀ x ∈ S, 0 ≤ x ∧ x < 4294967296) (hx : 0 ≤ x ∧ x < 4294967296) : ∀ y ∈ S.set i x, 0 ≤ y ∧ y < 4294967296 := by
  intro y hy
  rcases List.mem_or_eq_of_mem_set hy with h | h
  · exact hw y h
  · rw [h]; exact hx
/-- a beginning is marked -/
theorem Hp.mark (H : Hp w h s sb f bb base v S L Bg) (i : Nat) (b : Bool) : Hp (w.setCell ⟨bb, i, none⟩ (.bool b)) h s sb f bb base v S L (Bg.set i b) ∧ HKp base ⟨sb, f, bb⟩ w (w.setCell ⟨bb, i, none⟩ (.bool b)) := by
  have k := (Keep.refl (· = bb) w).setCell (p := ⟨bb, i, none⟩) rfl (.bool b)
  refine ⟨⟨?_, H.sto.keep k (H.sto.head.ne H.bg (by decide)) (H.sto.row.ne H.bg (by decide)), ?_, ?_, by rw [List.length_set]; exact H.len, H.up, H.wd, H.lo⟩, Keep.mono k (fun j e => by rw [e]; exact ⟨H.lo.2.2.2.2, .inl (.inr (.inr rfl))⟩)⟩
  · rw [List.length_set]; exact H.blk.keep k (H.blk.ne H.bg (by decide))
  · refine H.fre.keep k (H.fre.blk.ne H.bg (by decide)) (fun j hj e => ?_)
    obtain ⟨_, cur, hc⟩ := H.rowBlk j hj
    subst e
    exact hc.ne H.bg (by decide) rfl
  · have := H.bg.set i (.bool b)
    simpa [List.map_set] using this
theorem Hp.keepN (H : Hp w h s sb f bb base v S L Bg) (x : Ext w w') : Hp w' h s sb f bb base v S L Bg := H.ext x
end
def fill (S : List Int) (p : Nat) (x : Int) : Nat → List Int
  | 0 => S
  | j + 1 => (fill S p x j).set (p + j) x
theorem fill_len (S : List Int) (p : Nat) (x : Int) (j : Nat) : (fill S p x j).length = S.length := by
  induction j with
  | zero => rfl
  | succ j ih => simp [fill, ih]
theorem fill_wd {S : List Int} (hw : ∀ x ∈ S, 0 ≤ x ∧ x < 4294967296) (p : Nat) (x : Int) (hx : 0 ≤ x ∧ x < 4294967296) (j : Nat) : ∀ y ∈ fill S p x j, 0 ≤ y ∧ y < 4294967296 := by
  induction j with
  | zero => exact hw
  | succ j ih => exact wd_set ih hx
def made (S : List Int) (k W : Nat) (fmt odd cls hash x : Int) : List Int := fill (((S.set k (putN W fmt odd 0 false true)).set (k + 1) (refW cls)).set (k + 2) (intW hash)) (k + 3) x W
theorem take_up {L : List Run} {N n : Int} {b : Nat} (hu : ∀ r ∈ L, r.1 + r.2 ≤ N) (hb : b < L.length) : ∀ r ∈ takeAt L b n, r.1 + r.2 ≤ N := by
  intro r hr
  unfold takeAt at hr
  split at hr
  · exact hu r (List.mem_of_mem_eraseIdx hr)
  · rcases List.mem_or_eq_of_mem_set hr with h | h
    · exact hu r h
    · rw [h]; have := hu _ (nth_mem L b hb); show (nth L b).1 + n + ((nth L b).2 - n) ≤ N; omega
section
variable {w : World} {h base : Nat} {o : O3} {S : List Int} {L : List Run} {Bg : List Bool}
set_option maxHeartbeats 1000000 in
theorem make_no00 (w : World) (h : Nat) (fmt n cls hash : Int) (hf : fmt ≠ 3)  (hj : fmt < 1) :
    Calls Try.prog 8 #[.pointer (some ⟨h, 0, none⟩), .int .i64 fmt, .int .i64 n, .int .i64 cls, .int .i64 hash] w fun e w' => e = .returned (.tuple #[.int .i64 0, .bool false]) ∧ w = w' := by
  have df : (fmt == 3) = false := by simpa using hf
  have dj : decide (fmt < 1) = true := by simpa using hj
  clear hf hj
  go_enter Try.func8, Try.ntmps8
  go_wp2
  go_ret2
  exact ⟨rfl, rfl⟩
set_option maxHeartbeats 1000000 in
theorem make_no01 (w : World) (h : Nat) (fmt n cls hash : Int) (hf : fmt ≠ 3) (h0 : ¬ fmt < 1) (hj : 3 < fmt) :
    Calls Try.prog 8 #[.pointer (some ⟨h, 0, none⟩), .int .i64 fmt, .int .i64 n, .int .i64 cls, .int .i64 hash] w fun e w' => e = .returned (.tuple #[.int .i64 0, .bool false]) ∧ w = w' := by
  have df : (fmt == 3) = false := by simpa using hf
  have d0 : decide (fmt < 1) = false := by simpa using h0
  have dj : decide (3 < fmt) = true := by simpa using hj
  clear hf hj h0
  go_enter Try.func8, Try.ntmps8
  go_wp2
  go_ret2
  exact ⟨rfl, rfl⟩
set_option maxHeartbeats 1000000 in
theorem make_no02 (w : World) (h : Nat) (fmt n cls hash : Int) (hf : fmt ≠ 3) (h0 : ¬ fmt < 1) (h1 : ¬ 3 < fmt) (hj : n < 0) :
    Calls Try.prog 8 #[.pointer (some ⟨h, 0, none⟩), .int .i64 fmt, .int .i64 n, .int .i64 cls, .int .i64 hash] w fun e w' => e = .returned (.tuple #[.int .i64 0, .bool false]) ∧ w = w' := by
  have df : (fmt == 3) = false := by simpa using hf
  have d0 : decide (fmt < 1) = false := by simpa using h0
  have d1 : decide (3 < fmt) = false := by simpa using h1
  have dj : decide (n < 0) = true := by simpa using hj
  clear hf hj h0 h1
  go_enter Try.func8, Try.ntmps8
  go_wp2
  go_ret2
  exact ⟨rfl, rfl⟩
set_option maxHeartbeats 1000000 in
theorem make_no03 (w : World) (h : Nat) (fmt n cls hash : Int) (hf : fmt ≠ 3) (h0 : ¬ fmt < 1) (h1 : ¬ 3 < fmt) (h2 : ¬ n < 0) (hj : 60 < n) :
    Calls Try.prog 8 #[.pointer (some ⟨h, 0, none⟩), .int .i64 fmt, .int .i64 n, .int .i64 cls, .int .i64 hash] w fun e w' => e = .returned (.tuple #[.int .i64 0, .bool false]) ∧ w = w' := by
  have df : (fmt == 3) = false := by simpa using hf
  have d0 : decide (fmt < 1) = false := by simpa using h0
  have d1 : decide (3 < fmt) = false := by simpa using h1
  have d2 : decide (n < 0) = false := by simpa using h2
  have dj : decide (60 < n) = true := by simpa using hj
  clear hf hj h0 h1 h2
  go_enter Try.func8, Try.ntmps8
  go_wp2
  go_ret2
  exact ⟨rfl, rfl⟩
set_option maxHeartbeats 1000000 in
theorem make_no04 (w : World) (h : Nat) (fmt n cls hash : Int) (hf : fmt ≠ 3) (h0 : ¬ fmt < 1) (h1 : ¬ 3 < fmt) (h2 : ¬ n < 0) (h3 : ¬ 60 < n) (hj : cls < 0) :
    Calls Try.prog 8 #[.pointer (some ⟨h, 0, none⟩), .int .i64 fmt, .int .i64 n, .int .i64 cls, .int .i64 hash] w fun e w' => e = .returned (.tuple #[.int .i64 0, .bool false]) ∧ w = w' := by
  have df : (fmt == 3) = false := by simpa using hf
  have d0 : decide (fmt < 1) = false := by simpa using h0
  have d1 : decide (3 < fmt) = false := by simpa using h1
  have d2 : decide (n < 0) = false := by simpa using h2
  have d3 : decide (60 < n) = false := by simpa using h3
  have dj : decide (cls < 0) = true := by simpa using hj
  clear hf hj h0 h1 h2 h3
  go_enter Try.func8, Try.ntmps8
  go_wp2
  go_ret2
  exact ⟨rfl, rfl⟩
set_option maxHeartbeats 1000000 in
theorem make_no05 (w : World) (h : Nat) (fmt n cls hash : Int) (hf : fmt ≠ 3) (h0 : ¬ fmt < 1) (h1 : ¬ 3 < fmt) (h2 : ¬ n < 0) (h3 : ¬ 60 < n) (h4 : ¬ cls < 0) (hj : 65536 < cls) :
    Calls Try.prog 8 #[.pointer (some ⟨h, 0, none⟩), .int .i64 fmt, .int .i64 n, .int .i64 cls, .int .i64 hash] w fun e w' => e = .returned (.tuple #[.int .i64 0, .bool false]) ∧ w = w' := by
  have df : (fmt == 3) = false := by simpa using hf
  have d0 : decide (fmt < 1) = false := by simpa using h0
  have d1 : decide (3 < fmt) = false := by simpa using h1
  have d2 : decide (n < 0) = false := by simpa using h2
  have d3 : decide (60 < n) = false := by simpa using h3
  have d4 : decide (cls < 0) = false := by simpa using h4
  have dj : decide (65536 < cls) = true := by simpa using hj
  clear hf hj h0 h1 h2 h3 h4
  go_enter Try.func8, Try.ntmps8
  go_wp2
  go_ret2
  exact ⟨rfl, rfl⟩
set_option maxHeartbeats 1000000 in
theorem make_no06 (w : World) (h : Nat) (fmt n cls hash : Int) (hf : fmt ≠ 3) (h0 : ¬ fmt < 1) (h1 : ¬ 3 < fmt) (h2 : ¬ n < 0) (h3 : ¬ 60 < n) (h4 : ¬ cls < 0) (h5 : ¬ 65536 < cls) (hj : hash < 0) :
    Calls Try.prog 8 #[.pointer (some ⟨h, 0, none⟩), .int .i64 fmt, .int .i64 n, .int .i64 cls, .int .i64 hash] w fun e w' => e = .returned (.tuple #[.int .i64 0, .bool false]) ∧ w = w' := by
  have df : (fmt == 3) = false := by simpa using hf
  have d0 : decide (fmt < 1) = false := by simpa using h0
  have d1 : decide (3 < fmt) = false := by simpa using h1
  have d2 : decide (n < 0) = false := by simpa using h2
  have d3 : decide (60 < n) = false := by simpa using h3
  have d4 : decide (cls < 0) = false := by simpa using h4
  have d5 : decide (65536 < cls) = false := by simpa using h5
  have dj : decide (hash < 0) = true := by simpa using hj
  clear hf hj h0 h1 h2 h3 h4 h5
  go_enter Try.func8, Try.ntmps8
  go_wp2
  go_ret2
  exact ⟨rfl, rfl⟩
set_option maxHeartbeats 1000000 in
theorem make_no07 (w : World) (h : Nat) (fmt n cls hash : Int) (hf : fmt ≠ 3) (h0 : ¬ fmt < 1) (h1 : ¬ 3 < fmt) (h2 : ¬ n < 0) (h3 : ¬ 60 < n) (h4 : ¬ cls < 0) (h5 : ¬ 65536 < cls) (h6 : ¬ hash < 0) (hj : 3000 < hash) :
    Calls Try.prog 8 #[.pointer (some ⟨h, 0, none⟩), .int .i64 fmt, .int .i64 n, .int .i64 cls, .int .i64 hash] w fun e w' => e = .returned (.tuple #[.int .i64 0, .bool false]) ∧ w = w' := by
  have df : (fmt == 3) = false := by simpa using hf
  have d0 : decide (fmt < 1) = false := by simpa using h0
  have d1 : decide (3 < fmt) = false := by simpa using h1
  have d2 : decide (n < 0) = false := by simpa using h2
  have d3 : decide (60 < n) = false := by simpa using h3
  have d4 : decide (cls < 0) = false := by simpa using h4
  have d5 : decide (65536 < cls) = false := by simpa using h5
  have d6 : decide (hash < 0) = false := by simpa using h6
  have dj : decide (3000 < hash) = true := by simpa using hj
  clear hf hj h0 h1 h2 h3 h4 h5 h6
  go_enter Try.func8, Try.ntmps8
  go_wp2
  go_ret2
  exact ⟨rfl, rfl⟩
set_option maxHeartbeats 1000000 in
theorem make_no12 (w : World) (h : Nat) (fmt n cls hash : Int) (hf : fmt = 3) (h0 : ¬ fmt < 1) (h1 : ¬ 3 < fmt) (hj : n < 0) :
    Calls Try.prog 8 #[.pointer (some ⟨h, 0, none⟩), .int .i64 fmt, .int .i64 n, .int .i64 cls, .int .i64 hash] w fun e w' => e = .returned (.tuple #[.int .i64 0, .bool false]) ∧ w = w' := by
  have df : (fmt == 3) = true := by simpa using hf
  have d0 : decide (fmt < 1) = false := by simpa using h0
  have d1 : decide (3 < fmt) = false := by simpa using h1
  have dj : decide (n < 0) = true := by simpa using hj
  clear hf hj h0 h1
  go_enter Try.func8, Try.ntmps8
  go_wp2
  go_ret2
  exact ⟨rfl, rfl⟩
set_option maxHeartbeats 1000000 in
theorem make_no13 (w : World) (h : Nat) (fmt n cls hash : Int) (hf : fmt = 3) (h0 : ¬ fmt < 1) (h1 : ¬ 3 < fmt) (h2 : ¬ n < 0) (hj : 200 < n) :
    Calls Try.prog 8 #[.pointer (some ⟨h, 0, none⟩), .int .i64 fmt, .int .i64 n, .int .i64 cls, .int .i64 hash] w fun e w' => e = .returned (.tuple #[.int .i64 0, .bool false]) ∧ w = w' := by
  have df : (fmt == 3) = true := by simpa using hf
  have d0 : decide (fmt < 1) = false := by simpa using h0
  have d1 : decide (3 < fmt) = false := by simpa using h1
  have d2 : decide (n < 0) = false := by simpa using h2
  have dj : decide (200 < n) = true := by simpa using hj
  clear hf hj h0 h1 h2
  go_enter Try.func8, Try.ntmps8
  go_wp2
  go_ret2
  exact ⟨rfl, rfl⟩
set_option maxHeartbeats 1000000 in
theorem make_no14 (w : World) (h : Nat) (fmt n cls hash : Int) (hf : fmt = 3) (h0 : ¬ fmt < 1) (h1 : ¬ 3 < fmt) (h2 : ¬ n < 0) (h3 : ¬ 200 < n) (hj : cls < 0) :
    Calls Try.prog 8 #[.pointer (some ⟨h, 0, none⟩), .int .i64 fmt, .int .i64 n, .int .i64 cls, .int .i64 hash] w fun e w' => e = .returned (.tuple #[.int .i64 0, .bool false]) ∧ w = w' := by
  have df : (fmt == 3) = true := by simpa using hf
  have d0 : decide (fmt < 1) = false := by simpa using h0
  have d1 : decide (3 < fmt) = false := by simpa using h1
  have d2 : decide (n < 0) = false := by simpa using h2
  have d3 : decide (200 < n) = false := by simpa using h3
  have dj : decide (cls < 0) = true := by simpa using hj
  clear hf hj h0 h1 h2 h3
  go_enter Try.func8, Try.ntmps8
  go_wp2
  go_ret2
  exact ⟨rfl, rfl⟩
set_option maxHeartbeats 1000000 in
theorem make_no15 (w : World) (h : Nat) (fmt n cls hash : Int) (hf : fmt = 3) (h0 : ¬ fmt < 1) (h1 : ¬ 3 < fmt) (h2 : ¬ n < 0) (h3 : ¬ 200 < n) (h4 : ¬ cls < 0) (hj : 65536 < cls) :
    Calls Try.prog 8 #[.pointer (some ⟨h, 0, none⟩), .int .i64 fmt, .int .i64 n, .int .i64 cls, .int .i64 hash] w fun e w' => e = .returned (.tuple #[.int .i64 0, .bool false]) ∧ w = w' := by
  have df : (fmt == 3) = true := by simpa using hf
  have d0 : decide (fmt < 1) = false := by simpa using h0
  have d1 : decide (3 < fmt) = false := by simpa using h1
  have d2 : decide (n < 0) = false := by simpa using h2
  have d3 : decide (200 < n) = false := by simpa using h3
  have d4 : decide (cls < 0) = false := by simpa using h4
  have dj : decide (65536 < cls) = true := by simpa using hj
  clear hf hj h0 h1 h2 h3 h4
  go_enter Try.func8, Try.ntmps8
  go_wp2
  go_ret2
  exact ⟨rfl, rfl⟩
set_option maxHeartbeats 1000000 in
theorem make_no16 (w : World) (h : Nat) (fmt n cls hash : Int) (hf : fmt = 3) (h0 : ¬ fmt < 1) (h1 : ¬ 3 < fmt) (h2 : ¬ n < 0) (h3 : ¬ 200 < n) (h4 : ¬ cls < 0) (h5 : ¬ 65536 < cls) (hj : hash < 0) :
    Calls Try.prog 8 #[.pointer (some ⟨h, 0, none⟩), .int .i64 fmt, .int .i64 n, .int .i64 cls, .int .i64 hash] w fun e w' => e = .returned (.tuple #[.int .i64 0, .bool false]) ∧ w = w' := by
  have df : (fmt == 3) = true := by simpa using hf
  have d0 : decide (fmt < 1) = false := by simpa using h0
  have d1 : decide (3 < fmt) = false := by simpa using h1
  have d2 : decide (n < 0) = false := by simpa using h2
  have d3 : decide (200 < n) = false := by simpa using h3
  have d4 : decide (cls < 0) = false := by simpa using h4
  have d5 : decide (65536 < cls) = false := by simpa using h5
  have dj : decide (hash < 0) = true := by simpa using hj
  clear hf hj h0 h1 h2 h3 h4 h5
  go_enter Try.func8, Try.ntmps8
  go_wp2
  go_ret2
  exact ⟨rfl, rfl⟩
set_option maxHeartbeats 1000000 in
theorem make_no17 (w : World) (h : Nat) (fmt n cls hash : Int) (hf : fmt = 3) (h0 : ¬ fmt < 1) (h1 : ¬ 3 < fmt) (h2 : ¬ n < 0) (h3 : ¬ 200 < n) (h4 : ¬ cls < 0) (h5 : ¬ 65536 < cls) (h6 : ¬ hash < 0) (hj : 3000 < hash) :
    Calls Try.prog 8 #[.pointer (some ⟨h, 0, none⟩), .int .i64 fmt, .int .i64 n, .int .i64 cls, .int .i64 hash] w fun e w' => e = .returned (.tuple #[.int .i64 0, .bool false]) ∧ w = w' := by
  have df : (fmt == 3) = true := by simpa using hf
  have d0 : decide (fmt < 1) = false := by simpa using h0
  have d1 : decide (3 < fmt) = false := by simpa using h1
  have d2 : decide (n < 0) = false := by simpa using h2
  have d3 : decide (200 < n) = false := by simpa using h3
  have d4 : decide (cls < 0) = false := by simpa using h4
  have d5 : decide (65536 < cls) = false := by simpa using h5
  have d6 : decide (hash < 0) = false := by simpa using h6
  have dj : decide (3000 < hash) = true := by simpa using hj
  clear hf hj h0 h1 h2 h3 h4 h5 h6
  go_enter Try.func8, Try.ntmps8
  go_wp2
  go_ret2
  exact ⟨rfl, rfl⟩
def mostI (fmt : Int) : Int := if fmt = 3 then 200 else 60
def badB (fmt n cls hash : Int) : Bool := decide (fmt < 1 ∨ 3 < fmt ∨ n < 0 ∨ mostI fmt < n ∨ cls < 0 ∨ 65536 < cls ∨ hash < 0 ∨ 3000 < hash)
theorem make_no (w : World) (h : Nat) (fmt n cls hash : Int) (hb : badB fmt n cls hash = true) :
    Calls Try.prog 8 #[.pointer (some ⟨h, 0, none⟩), .int .i64 fmt, .int .i64 n, .int .i64 cls, .int .i64 hash] w fun e w' => e = .returned (.tuple #[.int .i64 0, .bool false]) ∧ w = w' := by
  have hb' := of_decide_eq_true hb
  unfold mostI at hb'
  by_cases hf : fmt = 3
  · rw [if_pos hf] at hb'
    have x0 : ¬ fmt < 1 := by omega
    have x1 : ¬ 3 < fmt := by omega
    by_cases x2 : n < 0
    · exact make_no12 w h fmt n cls hash hf x0 x1 x2
    by_cases x3 : 200 < n
    · exact make_no13 w h fmt n cls hash hf x0 x1 x2 x3
    by_cases x4 : cls < 0
    · exact make_no14 w h fmt n cls hash hf x0 x1 x2 x3 x4
    by_cases x5 : 65536 < cls
    · exact make_no15 w h fmt n cls hash hf x0 x1 x2 x3 x4 x5
    by_cases x6 : hash < 0
    · exact make_no16 w h fmt n cls hash hf x0 x1 x2 x3 x4 x5 x6
    by_cases x7 : 3000 < hash
    · exact make_no17 w h fmt n cls hash hf x0 x1 x2 x3 x4 x5 x6 x7
    omega
  · rw [if_neg hf] at hb'
    by_cases x0 : fmt < 1
    · exact make_no00 w h fmt n cls hash hf  x0
    by_cases x1 : 3 < fmt
    · exact make_no01 w h fmt n cls hash hf x0 x1
    by_cases x2 : n < 0
    · exact make_no02 w h fmt n cls hash hf x0 x1 x2
    by_cases x3 : 60 < n
    · exact make_no03 w h fmt n cls hash hf x0 x1 x2 x3
    by_cases x4 : cls < 0
    · exact make_no04 w h fmt n cls hash hf x0 x1 x2 x3 x4
    by_cases x5 : 65536 < cls
    · exact make_no05 w h fmt n cls hash hf x0 x1 x2 x3 x4 x5
    by_cases x6 : hash < 0
    · exact make_no06 w h fmt n cls hash hf x0 x1 x2 x3 x4 x5 x6
    by_cases x7 : 3000 < hash
    · exact make_no07 w h fmt n cls hash hf x0 x1 x2 x3 x4 x5 x6 x7
    omega
end
end Go.Proofs.Ytjpalcejmloocaa.Heap
