/-
  Mem5, as one text (a claim has at most 60 files).
-/
import Derived.Test.YtjpalcejmloocaaGreatCt19
import Derived.Deep.AppendLies
import Derived.Deep.RegionLaw
import Derived.Laws.BytesArg
namespace Go.Proofs.YtjpalcejmloocaaGreat.World
open Go.RowKit Go.Proofs.YtjpalcejmloocaaGreat.Plain
set_option linter.unusedVariables false
attribute [local go_sem ↓] Go.wp_at_zero Go.wp_at_succ
section
variable {w w' w2 : World} {F F' F2 : Nat → Prop} {m : Nat} {S S' : MS} {X : MX}
theorem infoU : (Tryz.prog.info? 5).map (fun i => (i.zero, i.size, i.bytes)) = some (some (.int .u8 0), 1, 1) := by kernel_rfl
theorem make_u8 (n : Nat) (hn : n ≤ 1000000) (w : World) : (Instr.makeSlice 79 (.int .i64 (n : Int)) (.int .i64 (n : Int))).run Tryz.prog w = .ok (.slice (some ⟨w.heap.size, 0, none⟩) n n) (w.alloc (.cells (Array.replicate n (.int .u8 0)) 5)) := by
  obtain ⟨i0, hi, hz0, hz1, hz2⟩ := info_parts infoU
  have h := run_make (P := Tryz.prog) w 79 5 i0 (.int .u8 0) Tryz.underlying79 hi hz0 .i64 .i64 (n : Int) (n : Int) (by omega) (by omega) (by rw [hz2]; omega) (by omega)
  rw [h]
  have e : madeCells (Value.cells (.int .u8 0)) ((n : Int).toNat * i0.size) = Array.replicate n (.int .u8 0) := by
    rw [hz1, Nat.mul_one, Int.toNat_natCast]
    apply Array.ext
    · simp [madeCells]
    · intro j h1 h2
      simp [madeCells, Value.cells, Nat.mod_one]
  rw [e, Int.toNat_natCast]
theorem strOf_size (l : List Int) : (strOfNums l).size = l.length := by simp [strOfNums, ByteArray.size]
theorem zeros_string (w : World) (n : Nat) : Sem.run Tryz.prog (convert 79 9 (.slice (some ⟨w.heap.size, 0, none⟩) n n)) (w.alloc (.cells (Array.replicate n (.int .u8 0)) 5)) = .ok (.string (strOfNums (List.replicate n 0))) (w.alloc (.cells (Array.replicate n (.int .u8 0)) 5)) := by
  refine run_convert_bytes_arg _ _ _ Tryz.underlying79 Tryz.underlying5 w.heap.size 0 n n (List.replicate n 0) (by simp) (fun i hi => ?_) _ Tryz.underlying9
  rw [Nat.zero_add, (Blk.new w 5 (Array.replicate n (.int .u8 0))).cell]
  simp [hi]
/-- the fields of a thing being made -/
structure NF (w wr : World) (c f h : Int) (k : Nat) (vF : Value) : Prop where
  x : Ext w wr
  b : Blk wr w.heap.size 49 #[.int .i64 c, .int .i64 f, .int .i64 h, .bool false, vF, .string ByteArray.empty]
  o : Own wr (w.heap.size + 1) 38 vF k 2 (fun _ j => cV MS.nilV j)
theorem NF.b3 {w wr w3 : World} {c f h : Int} {k : Nat} {vF : Value} {ob : Obj} (L : NF w wr c f h k vF) (g : (wr.alloc ob).grownBy w3 vF.ownBlock) : Blk w3 w.heap.size 49 #[.int .i64 c, .int .i64 f, .int .i64 h, .bool false, vF, .string ByteArray.empty] :=
  (g.block _ (by have := L.b.lt; simp; omega) (fun e => by have := (L.o.block e.symm).1; omega)).trans (L.b.alloc ob)
theorem NF.push {w wr w3 : World} {c f h : Int} {k gg c9 : Nat} {vF : Value} {ob : Obj} (L : NF w wr c f h k vF) (g : (wr.alloc ob).grownBy w3 vF.ownBlock) (o : w3.ownsRow (w.heap.size + 1) 38 2 (.slice (some ⟨gg, 0, none⟩) (k + 1) c9) (k + 1) (flat k 2 (fun _ j => cV MS.nilV j) ++ [.bool true, .int .i64 0])) : NF w (w3.setCell ⟨w.heap.size, 4, none⟩ (.slice (some ⟨gg, 0, none⟩) (k + 1) c9)) c f h (k + 1) (.slice (some ⟨gg, 0, none⟩) (k + 1) c9) := by
  have b3 := L.b3 g
  have k3 : Keep (fun j => vF.ownBlock = some j) (wr.alloc ob) w3 := ⟨g.os, g.tape, g.output, g.size, fun k hk hn => g.block k hk (fun e => hn e.symm)⟩
  have x3 : Ext w w3 := Ext.of_below (Keep.below (L.x.alloc ob).below k3 (L.x.alloc ob).below.size (fun i hi e => by have := (L.o.block e).1; omega))
  have ow : Own w3 (w.heap.size + 1) 38 (.slice (some ⟨gg, 0, none⟩) (k + 1) c9) (k + 1) 2 (fun _ j => cV MS.nilV j) := by
    show w3.ownsRow _ _ _ _ _ _
    rw [flat_succ]; exact o
  refine ⟨x3.setNew (p := ⟨w.heap.size, 4, none⟩) (Nat.le_refl _) _, b3.set 4 _, ow.kt1 b3 ((Keep.refl (· = w.heap.size) w3).setCell (p := ⟨w.heap.size, 4, none⟩) rfl _) (by decide)⟩
/-- a new thing's cells stand in a box; its fields are made -/
structure NB (w wr : World) (c f h : Int) (t : PT) (vF : Value) : Prop where
  x : Ext w wr
  b : Blk wr w.heap.size 49 #[.int .i64 t.cls, .int .i64 t.fmt, .int .i64 t.hash, .bool t.fin, vF, .string t.B]
  o : Own wr (w.heap.size + 1) 38 vF t.F.length 2 (cF t.F)
theorem grow_keep {wr w3 : World} {ob : Obj} {v : Value} (g : (wr.alloc ob).grownBy w3 v.ownBlock) : Keep (fun k => v.ownBlock = some k) wr w3 :=
  ((Keep.refl _ wr).alloc ob).trans ⟨g.os, g.tape, g.output, g.size, fun k hk hn => g.block k hk (fun e => hn e.symm)⟩
theorem grow_kt {wr w3 : World} {ob : Obj} {v : Value} {b n sz : Nat} {e : TypeId} {c : Nat → Nat → Value} (h : Own wr b e v n sz c) (g : (wr.alloc ob).grownBy w3 v.ownBlock) : KT [e] wr w3 :=
  (grow_keep g).mono (fun j hj => by obtain ⟨_, cs, hb⟩ := h.block hj; exact ⟨_, _, by simp, hb⟩)
/-- the three lists of things, on the way to one more -/
structure NA (w wr : World) (bt n1 n2 n3 : Nat) (vl vd vc vl' vd' vc' vF : Value) (cl cd cc : Nat → Nat → Value) (t : PT) : Prop where
  k : Keep (fun g => g = bt ∨ vl.ownBlock = some g ∨ vd.ownBlock = some g ∨ vc.ownBlock = some g) w wr
  b : Blk wr bt 72 #[vl', vd', vc']
  L : Own wr 0 49 vl' n1 6 cl
  D : Own wr 0 4 vd' n2 1 cd
  C : Own wr 0 3 vc' n3 1 cc
  V : Own wr w.heap.size 38 vF t.F.length 2 (cF t.F)
  nl : ∀ g, vl'.ownBlock = some g → vl.ownBlock = some g ∨ w.heap.size ≤ g
  nd : ∀ g, vd'.ownBlock = some g → vd.ownBlock = some g ∨ w.heap.size ≤ g
  nc : ∀ g, vc'.ownBlock = some g → vc.ownBlock = some g ∨ w.heap.size ≤ g
theorem NA.start {wr : World} {bt n : Nat} {vl vd vc vF : Value} {cl cd cc : Nat → Nat → Value} {c f h : Int} {t : PT} (hb : Blk w bt 72 #[vl, vd, vc]) (hL : Own w 0 49 vl n 6 cl) (hD : Own w 0 4 vd n 1 cd) (hC : Own w 0 3 vc n 1 cc) (N : NB w wr c f h t vF) : NA w wr bt n n n vl vd vc vl vd vc vF cl cd cc t :=
  ⟨.of_ext N.x _, hb.ext N.x, hL.ext N.x, hD.ext N.x, hC.ext N.x, N.o.base (by omega), fun _ h => .inl h, fun _ h => .inl h, fun _ h => .inl h⟩
theorem NA.mid0 {wr w3 : World} {bt n1 n2 n3 : Nat} {vl vd vc vl' vd' vc' vF : Value} {cl cd cc : Nat → Nat → Value} {t : PT} {ob : Obj} (N : NA w wr bt n1 n2 n3 vl vd vc vl' vd' vc' vF cl cd cc t) (g : (wr.alloc ob).grownBy w3 vl'.ownBlock) : Blk w3 bt 72 #[vl', vd', vc'] := blk_kt N.b (grow_kt N.L g) (by decide)
theorem NA.mid1 {wr w3 : World} {bt n1 n2 n3 : Nat} {vl vd vc vl' vd' vc' vF : Value} {cl cd cc : Nat → Nat → Value} {t : PT} {ob : Obj} (N : NA w wr bt n1 n2 n3 vl vd vc vl' vd' vc' vF cl cd cc t) (g : (wr.alloc ob).grownBy w3 vd'.ownBlock) : Blk w3 bt 72 #[vl', vd', vc'] := blk_kt N.b (grow_kt N.D g) (by decide)
theorem NA.mid2 {wr w3 : World} {bt n1 n2 n3 : Nat} {vl vd vc vl' vd' vc' vF : Value} {cl cd cc : Nat → Nat → Value} {t : PT} {ob : Obj} (N : NA w wr bt n1 n2 n3 vl vd vc vl' vd' vc' vF cl cd cc t) (g : (wr.alloc ob).grownBy w3 vc'.ownBlock) : Blk w3 bt 72 #[vl', vd', vc'] := blk_kt N.b (grow_kt N.C g) (by decide)
theorem NA.next0 {wr w3 : World} {bt n1 n2 n3 gg c9 : Nat} {vl vd vc vl' vd' vc' vF : Value} {cl cd cc : Nat → Nat → Value} {t : PT} {ob : Obj} (N : NA w wr bt n1 n2 n3 vl vd vc vl' vd' vc' vF cl cd cc t) (g : (wr.alloc ob).grownBy w3 vl'.ownBlock) (hat : vl'.ownBlock = some gg ∨ gg = wr.heap.size + 1) (o : w3.ownsRow 0 49 6 (.slice (some ⟨gg, 0, none⟩) (n1 + 1) c9) (n1 + 1) (flat n1 6 cl ++ [.int .i64 t.cls, .int .i64 t.fmt, .int .i64 t.hash, .bool t.fin, vF, .string t.B])) :
    NA w (w3.setCell ⟨bt, 0, none⟩ (.slice (some ⟨gg, 0, none⟩) (n1 + 1) c9)) bt (n1 + 1) n2 n3 vl vd vc (.slice (some ⟨gg, 0, none⟩) (n1 + 1) c9) vd' vc' vF (fun i j => if i = n1 then cT t vF j else cl i j) cd cc t := by
  have b3 := N.mid0 g
  have kt := grow_kt N.L g
  have gk := grow_keep g
  have ks : Keep (· = bt) w3 (w3.setCell ⟨bt, 0, none⟩ (.slice (some ⟨gg, 0, none⟩) (n1 + 1) c9)) := (Keep.refl (· = bt) w3).setCell (p := ⟨bt, 0, none⟩) rfl _
  have k3 : Keep (fun g => g = bt ∨ vl.ownBlock = some g ∨ vd.ownBlock = some g ∨ vc.ownBlock = some g) w w3 := by
    refine ⟨gk.os.trans N.k.os, gk.tape.trans N.k.tape, gk.output.trans N.k.output, Nat.le_trans N.k.size gk.size, fun j hj hn => (gk.block j (Nat.lt_of_lt_of_le hj N.k.size) (fun e => ?_)).trans (N.k.block j hj hn)⟩
    rcases N.nl _ e with h1 | h1
    · exact hn (.inr (.inl h1))
    · omega
  exact ⟨k3.setCell (p := ⟨bt, 0, none⟩) (.inl rfl) _, b3.set 0 _, (show Own w3 0 49 (.slice (some ⟨gg, 0, none⟩) (n1 + 1) c9) (n1 + 1) 6 (fun i j => if i = n1 then cT t vF j else cl i j) from by
    show w3.ownsRow _ _ _ _ _ _
    have e1 : flat n1 6 (fun i j => if i = n1 then cT t vF j else cl i j) = flat n1 6 cl := flat_congr (fun i j hi => if_neg (by omega))
    have e2 : (List.range 6).map ((fun i j => if i = n1 then cT t vF j else cl i j) n1) = [.int .i64 t.cls, .int .i64 t.fmt, .int .i64 t.hash, .bool t.fin, vF, .string t.B] := by simp [List.range, List.range.loop, cT]
    rw [flat_succ, e1, e2]; exact o).kt1 b3 ks (by decide), (N.D.kt kt (by decide)).kt1 b3 ks (by decide), (N.C.kt kt (by decide)).kt1 b3 ks (by decide), (N.V.kt kt (by decide)).kt1 b3 ks (by decide), fun g9 h9 => by
    simp [Value.ownBlock] at h9
    subst h9
    rcases hat with e | e
    · exact N.nl _ e
    · have := N.k.size; exact .inr (by omega), N.nd, N.nc⟩
theorem NA.next1 {wr w3 : World} {bt n1 n2 n3 gg c9 : Nat} {vl vd vc vl' vd' vc' vF : Value} {cl cd cc : Nat → Nat → Value} {t : PT} {ob : Obj} (N : NA w wr bt n1 n2 n3 vl vd vc vl' vd' vc' vF cl cd cc t) (g : (wr.alloc ob).grownBy w3 vd'.ownBlock) (hat : vd'.ownBlock = some gg ∨ gg = wr.heap.size + 1) (o : w3.ownsRow 0 4 1 (.slice (some ⟨gg, 0, none⟩) (n2 + 1) c9) (n2 + 1) (flat n2 1 cd ++ [.bool false])) :
    NA w (w3.setCell ⟨bt, 1, none⟩ (.slice (some ⟨gg, 0, none⟩) (n2 + 1) c9)) bt n1 (n2 + 1) n3 vl vd vc vl' (.slice (some ⟨gg, 0, none⟩) (n2 + 1) c9) vc' vF cl (fun i j => if i = n2 then .bool false else cd i j) cc t := by
  have b3 := N.mid1 g
  have kt := grow_kt N.D g
  have gk := grow_keep g
  have ks : Keep (· = bt) w3 (w3.setCell ⟨bt, 1, none⟩ (.slice (some ⟨gg, 0, none⟩) (n2 + 1) c9)) := (Keep.refl (· = bt) w3).setCell (p := ⟨bt, 1, none⟩) rfl _
  have k3 : Keep (fun g => g = bt ∨ vl.ownBlock = some g ∨ vd.ownBlock = some g ∨ vc.ownBlock = some g) w w3 := by
    refine ⟨gk.os.trans N.k.os, gk.tape.trans N.k.tape, gk.output.trans N.k.output, Nat.le_trans N.k.size gk.size, fun j hj hn => (gk.block j (Nat.lt_of_lt_of_le hj N.k.size) (fun e => ?_)).trans (N.k.block j hj hn)⟩
    rcases N.nd _ e with h1 | h1
    · exact hn (.inr (.inr (.inl h1)))
    · omega
  exact ⟨k3.setCell (p := ⟨bt, 1, none⟩) (.inl rfl) _, b3.set 1 _, (N.L.kt kt (by decide)).kt1 b3 ks (by decide), (show Own w3 0 4 (.slice (some ⟨gg, 0, none⟩) (n2 + 1) c9) (n2 + 1) 1 (fun i j => if i = n2 then .bool false else cd i j) from by
    show w3.ownsRow _ _ _ _ _ _
    have e1 : flat n2 1 (fun i j => if i = n2 then .bool false else cd i j) = flat n2 1 cd := flat_congr (fun i j hi => if_neg (by omega))
    have e2 : (List.range 1).map ((fun i j => if i = n2 then .bool false else cd i j) n2) = [.bool false] := by simp [List.range, List.range.loop, cT]
    rw [flat_succ, e1, e2]; exact o).kt1 b3 ks (by decide), (N.C.kt kt (by decide)).kt1 b3 ks (by decide), (N.V.kt kt (by decide)).kt1 b3 ks (by decide), N.nl, fun g9 h9 => by
    simp [Value.ownBlock] at h9
    subst h9
    rcases hat with e | e
    · exact N.nd _ e
    · have := N.k.size; exact .inr (by omega), N.nc⟩
theorem NA.next2 {wr w3 : World} {bt n1 n2 n3 gg c9 : Nat} {vl vd vc vl' vd' vc' vF : Value} {cl cd cc : Nat → Nat → Value} {t : PT} {ob : Obj} (N : NA w wr bt n1 n2 n3 vl vd vc vl' vd' vc' vF cl cd cc t) (g : (wr.alloc ob).grownBy w3 vc'.ownBlock) (hat : vc'.ownBlock = some gg ∨ gg = wr.heap.size + 1) (o : w3.ownsRow 0 3 1 (.slice (some ⟨gg, 0, none⟩) (n3 + 1) c9) (n3 + 1) (flat n3 1 cc ++ [.int .i64 0])) :
    NA w (w3.setCell ⟨bt, 2, none⟩ (.slice (some ⟨gg, 0, none⟩) (n3 + 1) c9)) bt n1 n2 (n3 + 1) vl vd vc vl' vd' (.slice (some ⟨gg, 0, none⟩) (n3 + 1) c9) vF cl cd (fun i j => if i = n3 then .int .i64 0 else cc i j) t := by
  have b3 := N.mid2 g
  have kt := grow_kt N.C g
  have gk := grow_keep g
  have ks : Keep (· = bt) w3 (w3.setCell ⟨bt, 2, none⟩ (.slice (some ⟨gg, 0, none⟩) (n3 + 1) c9)) := (Keep.refl (· = bt) w3).setCell (p := ⟨bt, 2, none⟩) rfl _
  have k3 : Keep (fun g => g = bt ∨ vl.ownBlock = some g ∨ vd.ownBlock = some g ∨ vc.ownBlock = some g) w w3 := by
    refine ⟨gk.os.trans N.k.os, gk.tape.trans N.k.tape, gk.output.trans N.k.output, Nat.le_trans N.k.size gk.size, fun j hj hn => (gk.block j (Nat.lt_of_lt_of_le hj N.k.size) (fun e => ?_)).trans (N.k.block j hj hn)⟩
    rcases N.nc _ e with h1 | h1
    · exact hn (.inr (.inr (.inr h1)))
    · omega
  exact ⟨k3.setCell (p := ⟨bt, 2, none⟩) (.inl rfl) _, b3.set 2 _, (N.L.kt kt (by decide)).kt1 b3 ks (by decide), (N.D.kt kt (by decide)).kt1 b3 ks (by decide), (show Own w3 0 3 (.slice (some ⟨gg, 0, none⟩) (n3 + 1) c9) (n3 + 1) 1 (fun i j => if i = n3 then .int .i64 0 else cc i j) from by
    show w3.ownsRow _ _ _ _ _ _
    have e1 : flat n3 1 (fun i j => if i = n3 then .int .i64 0 else cc i j) = flat n3 1 cc := flat_congr (fun i j hi => if_neg (by omega))
    have e2 : (List.range 1).map ((fun i j => if i = n3 then .int .i64 0 else cc i j) n3) = [.int .i64 0] := by simp [List.range, List.range.loop, cT]
    rw [flat_succ, e1, e2]; exact o).kt1 b3 ks (by decide), (N.V.kt kt (by decide)).kt1 b3 ks (by decide), N.nl, N.nd, fun g9 h9 => by
    simp [Value.ownBlock] at h9
    subst h9
    rcases hat with e | e
    · exact N.nc _ e
    · have := N.k.size; exact .inr (by omega)⟩
theorem heap_alloc_set (w : World) (g i : Nat) (v : Value) (ob : Obj) : ((w.setCell ⟨g, i, none⟩ v).alloc ob).heap[w.heap.size]? = some ob := by
  have h := heap_alloc_new (w.setCell ⟨g, i, none⟩ v) ob
  rw [show (w.setCell ⟨g, i, none⟩ v).heap.size = w.heap.size from by simp [World.setCell]] at h
  exact h
theorem six_one (t : PT) (v : Value) (h : v.oneCell' = true) : ∀ u ∈ [Value.int .i64 t.cls, .int .i64 t.fmt, .int .i64 t.hash, .bool t.fin, v, .string t.B], u.oneCell' = true := by
  intro u hu
  simp only [List.mem_cons, List.not_mem_nil, or_false] at hu
  rcases hu with rfl | rfl | rfl | rfl | rfl | rfl <;> first | exact h | rfl
set_option maxRecDepth 100000 in
set_option maxHeartbeats 4000000 in
theorem tnew {bt n : Nat} {vl vd vc : Value} {cl cd cc : Nat → Nat → Value} (hb : Blk w bt 72 #[vl, vd, vc]) (hL : Own w 0 49 vl n 6 cl) (hD : Own w 0 4 vd n 1 cd) (hC : Own w 0 3 vc n 1 cc) (hn : n < 1000000) (c f h : Int) (k : Nat) (hk : k ≤ 1000) :
    Calls Tryz.prog 178 #[.pointer (some ⟨bt, 0, none⟩), .int .i64 c, .int .i64 f, .int .i64 k, .int .i64 h] w fun e w' => e = .returned (.tuple #[.int .i64 n, .bool true]) ∧ ∃ vl' vd' vc' vF, Blk w' bt 72 #[vl', vd', vc'] ∧ Own w' 0 49 vl' (n + 1) 6 (fun i j => if i = n then cT (MS.newT c f k h) vF j else cl i j) ∧ Own w' 0 4 vd' (n + 1) 1 (fun i j => if i = n then .bool false else cd i j) ∧ Own w' 0 3 vc' (n + 1) 1 (fun i j => if i = n then .int .i64 0 else cc i j) ∧ Own w' w.heap.size 38 vF (MS.newT c f k h).F.length 2 (cF (MS.newT c f k h).F) ∧ (∀ g, vl'.ownBlock = some g → vl.ownBlock = some g ∨ w.heap.size ≤ g) ∧ (∀ g, vd'.ownBlock = some g → vd.ownBlock = some g ∨ w.heap.size ≤ g) ∧ (∀ g, vc'.ownBlock = some g → vc.ownBlock = some g ∨ w.heap.size ≤ g) ∧ Keep (fun g => g = bt ∨ vl.ownBlock = some g ∨ vd.ownBlock = some g ∨ vc.ownBlock = some g) w w' := by
  obtain ⟨iV, iV1, iV2, iV3, iV4⟩ := info_parts infoV
  obtain ⟨iT, iT1, iT2, iT3, iT4⟩ := info_parts infoT
  obtain ⟨iB, iB1, iB2, iB3, iB4⟩ := info_parts infoB
  obtain ⟨iI, iI1, iI2, iI3, iI4⟩ := info_parts infoI
  by_cases hf : f = 3
  · subst hf
    have hmk := make_u8 k (by omega)
    have hst := zeros_string (w.alloc (.cells #[.int .i64 c, .int .i64 3, .int .i64 h, .bool false, .slice none 0 0, .string ⟨#[]⟩] 49)) k
    simp only [World.size_alloc] at hst
    go_enter Tryz.func178, Tryz.ntmps178
    go_wp2_with fail
    refine wp_name (fun wr hW => ?_)
    have NBx : NB w wr c 3 h (MS.newT c 3 k h) (.slice none 0 0) := by
      have et : MS.newT c 3 k h = ⟨c, 3, h, false, [], strOfNums (List.replicate k 0)⟩ := rfl
      rw [et, hW]
      exact ⟨is_ext _ _, (Blk.new w _ _).alloc _, ⟨by rw [flat_len], .inl ⟨rfl, rfl⟩⟩⟩
    clear hW hmk hst
    have hvF : ∃ v, v = Value.slice none 0 0 := ⟨_, rfl⟩
    obtain ⟨vF, hvF⟩ := hvF
    rw [← hvF] at NBx
    have hv1 : vF.oneCell' = true := by rw [hvF]; rfl
    clear hvF
    generalize ht : MS.newT c 3 k h = t at *
    have HT := Lib.hid ht
    clear ht
    have hL1 := hL.ext NBx.x
    have hb1 := hb.ext NBx.x
    obtain ⟨A1, p1, rfl⟩ := hL.form
    obtain ⟨A2, p2, rfl⟩ := hD.form
    obtain ⟨A3, p3, rfl⟩ := hC.form
    obtain ⟨z1, z2, z3⟩ := hb1.rules
    obtain ⟨q1, q2, q3⟩ := NBx.b.rules
    have OL : Hid (wr.drew.ownsRow 0 49 6 (.slice A1 n p1) n (flat n 6 cl)) := Lib.hid hL1
    have N1 := Lib.hid (NA.start hb hL hD hC NBx)
    clear hL1 hb1 hb hL hD hC NBx
    go_wp2_with fail
    go_region_law (refine step_append_lies _ (by rfl) _ _ _ (by rfl) 0 49 iT (.agg #[.int .i64 0, .int .i64 0, .int .i64 0, .bool false, .slice none 0 0, .string ByteArray.empty]) 6 72 Tryz.underlying23 iT1 iT2 iT3 iT4 rfl (by decide) _ _ _ (by rfl) (OL.out.alloc _) ⟨wr.heap.size, 0, none⟩ 1 1 [.int .i64 t.cls, .int .i64 t.fmt, .int .i64 t.hash, .bool t.fin, vF, .string t.B] (by rfl) (by rfl) (World.news_of_block (heap_alloc_new wr.drew _)) (six_one _ _ hv1) (by omega) (by unfold maxLen; omega) (by omega) (by simp) (wr.heap.size + 1) (by simp) ?_; intro gg c9 w3 o3 g3 hat hlt3; have B3 := Lib.hid (N1.out.mid0 ⟨g3.os, g3.tape, g3.output, g3.size, g3.block⟩); have O3 := Lib.hid o3; have G3 := Lib.hid g3; obtain ⟨y1, y2, y3⟩ := B3.out.rules; clear o3 g3)
    all_goals
      have N2 := Lib.hid (N1.out.next0 (gg := gg) (c9 := c9) ⟨G3.out.os, G3.out.tape, G3.out.output, G3.out.size, G3.out.block⟩ hat O3.out)
      clear G3 O3 B3 y1 y2 y3 hat hlt3 z1 z2 z3 q1 q2 q3 OL N1
      refine then_name (fun W hW => ?_)
      try rw [← hW] at N2
      obtain ⟨y1, y2, y3⟩ := N2.out.b.rules
      have hwd : w.heap.size ≤ W.heap.size := N2.out.k.size
      clear hW
      have OD : Hid ((W.alloc (.cells #[.bool false] 4)).ownsRow 0 4 1 (.slice A2 n p2) n (flat n 1 cd)) := Lib.hid (World.ownsRow.alloc N2.out.D _)
      have tok1 : True := trivial
      go_wp2_with (first | (at_builtin; have _t := tok1; refine wpList_append_lies _ (by rfl) _ _ _ (by rfl) 0 4 iB (.bool false) 1 1 Tryz.underlying24 iB1 iB2 iB3 iB4 rfl (by decide) _ _ _ (by rfl) OD.out ⟨W.heap.size, 0, none⟩ 1 1 [.bool false] (by rfl) (by rfl) (World.news_of_block (heap_alloc_new W _)) (by simp [Value.oneCell']) (by omega) (by unfold maxLen; omega) (by omega) (by simp) (W.heap.size + 1) (by simp) ?_; intro gb cb w5 o5 g5 hat5 hlt5; have B5 := Lib.hid (N2.out.mid1 g5); have N3 := Lib.hid (N2.out.next1 g5 hat5 o5); obtain ⟨x1, x2, x3⟩ := B5.out.rules; have OC := Lib.hid (World.ownsRow.alloc N3.out.C (.cells #[.int .i64 0] 3)); have hsz5 := (grow_keep g5).size; clear o5 g5 tok1 y1 y2 y3 B5 N2 OD) | (at_builtin; refine wpList_append_lies _ (by rfl) _ _ _ (by rfl) 0 3 iI (.int .i64 0) 1 8 Tryz.underlying25 iI1 iI2 iI3 iI4 rfl (by decide) _ _ _ (by rfl) OC.out ⟨w5.heap.size, 0, none⟩ 1 1 [.int .i64 0] (by rfl) (by rfl) (World.news_of_block (heap_alloc_set w5 _ _ _ _)) (by simp [Value.oneCell']) (by omega) (by unfold maxLen; omega) (by omega) (by simp) (w5.heap.size + 1) (by simp) ?_; intro gi ci w6 o6 g6 hat6 hlt6; have B6 := Lib.hid (N3.out.mid2 g6); have N4 := Lib.hid (N3.out.next2 g6 (by simpa using hat6) o6); obtain ⟨v1, v2, v3⟩ := B6.out.rules; clear o6 g6 B6 N3 OC x1 x2 x3))
      go_ret2
      rw [HT.out]
      exact ⟨rfl, _, _, _, _, N4.out.b, N4.out.L, N4.out.D, N4.out.C, N4.out.V, N4.out.nl, N4.out.nd, N4.out.nc, N4.out.k⟩
  · have hf' : (f == 3) = false := beq_eq_false_iff_ne.2 hf
    go_enter Tryz.func178, Tryz.ntmps178
    go_wp2_with fail
    go_loopw [24] (fun iv wr => ∃ i : Nat, i ≤ k ∧ iv = .int .i64 i ∧ ∃ vF, NF w wr c f h i vF) (fun iv _ => k - (intOf iv).toNat)
    case atStart => exact ⟨0, Nat.zero_le _, rfl, _, (Ext.refl w).alloc _, Blk.new w _ _, ⟨by rw [flat_len], .inl ⟨rfl, rfl⟩⟩⟩
    case round =>
      obtain ⟨i, hi, rfl, vF, L⟩ := hrel
      have LL := Lib.hid L
      obtain ⟨q1, q2, q3⟩ := L.b.rules
      by_cases hlt : i < k
      · have iI : (i : Int) < (k : Int) := by omega
        obtain ⟨A, cp, rfl⟩ := L.o.form
        have o2 : wr.ownsRow (w.heap.size + 1) 38 2 (.slice A i cp) i (flat i 2 (fun _ j => cV MS.nilV j)) := L.o
        have O2 := Lib.hid (o2.alloc (.cells #[.bool true, .int .i64 0] 38))
        have s2 := L.x.below.size
        clear o2 L
        go_wp2_with (at_builtin; refine wpList_append_lies _ rfl _ _ _ rfl (w.heap.size + 1) 38 iV (.agg #[.bool false, .int .i64 0]) 2 16 Tryz.underlying40 iV1 iV2 iV3 iV4 rfl (by decide) _ _ _ (by rfl) O2.out ⟨wr.heap.size, 0, none⟩ 1 1 [.bool true, .int .i64 0] (by rfl) (by rfl) (World.news_of_block (heap_alloc_new wr _)) (by simp [Value.oneCell']) (by omega) (by unfold maxLen; omega) (by omega) (by simp; omega) (wr.heap.size + 1) (by simp) ?_; intro gg c9 w3 o3 g3 hat hlt3; have B3 := Lib.hid (LL.out.b3 g3); have O3 := Lib.hid o3; have G3 := Lib.hid g3; obtain ⟨y1, y2, y3⟩ := B3.out.rules; clear o3 g3 hat)
        have L3 := LL.out.push G3.out O3.out
        clear G3 O3 B3 y1 y2 y3 O2 q1 q2 q3
        go_roundw
        case rel => exact ⟨i + 1, by omega, by go_num, _, L3⟩
        case measure => simp [intOf]; omega
      · obtain rfl : k = i := by omega
        clear hlt
        have NBx : NB w wr c f h (MS.newT c f k h) vF := by
          have et : MS.newT c f k h = ⟨c, f, h, false, List.replicate k MS.nilV, ByteArray.empty⟩ := by unfold MS.newT; rw [if_neg hf]
          rw [et]
          refine ⟨LL.out.x, LL.out.b, ?_⟩
          have := LL.out.o
          show Own wr _ _ _ (List.replicate k MS.nilV).length 2 _
          rw [List.length_replicate]
          refine this.congr fun p q hp hq => ?_
          show _ = cV ((List.replicate k MS.nilV).getD p dV) q
          rw [List.getD_eq_getElem?_getD, List.getElem?_replicate, if_pos hp]; rfl
        clear LL L q1 q2 q3
        have hv1 : vF.oneCell' = true := by obtain ⟨_, _, e⟩ := NBx.o.form; rw [e]; rfl
        generalize ht : MS.newT c f k h = t at *
        have HT := Lib.hid ht
        clear ht
        have hL1 := hL.ext NBx.x
        have hb1 := hb.ext NBx.x
        obtain ⟨A1, p1, rfl⟩ := hL.form
        obtain ⟨A2, p2, rfl⟩ := hD.form
        obtain ⟨A3, p3, rfl⟩ := hC.form
        obtain ⟨z1, z2, z3⟩ := hb1.rules
        obtain ⟨q1, q2, q3⟩ := NBx.b.rules
        have OL : Hid (wr.drew.ownsRow 0 49 6 (.slice A1 n p1) n (flat n 6 cl)) := Lib.hid hL1
        have N1 := Lib.hid (NA.start hb hL hD hC NBx)
        clear hL1 hb1 hb hL hD hC NBx
        go_wp2_with fail
        go_region_law (refine step_append_lies _ (by rfl) _ _ _ (by rfl) 0 49 iT (.agg #[.int .i64 0, .int .i64 0, .int .i64 0, .bool false, .slice none 0 0, .string ByteArray.empty]) 6 72 Tryz.underlying23 iT1 iT2 iT3 iT4 rfl (by decide) _ _ _ (by rfl) (OL.out.alloc _) ⟨wr.heap.size, 0, none⟩ 1 1 [.int .i64 t.cls, .int .i64 t.fmt, .int .i64 t.hash, .bool t.fin, vF, .string t.B] (by rfl) (by rfl) (World.news_of_block (heap_alloc_new wr.drew _)) (six_one _ _ hv1) (by omega) (by unfold maxLen; omega) (by omega) (by simp) (wr.heap.size + 1) (by simp) ?_; intro gg c9 w3 o3 g3 hat hlt3; have B3 := Lib.hid (N1.out.mid0 ⟨g3.os, g3.tape, g3.output, g3.size, g3.block⟩); have O3 := Lib.hid o3; have G3 := Lib.hid g3; obtain ⟨y1, y2, y3⟩ := B3.out.rules; clear o3 g3)
        all_goals
          have N2 := Lib.hid (N1.out.next0 (gg := gg) (c9 := c9) ⟨G3.out.os, G3.out.tape, G3.out.output, G3.out.size, G3.out.block⟩ hat O3.out)
          clear G3 O3 B3 y1 y2 y3 hat hlt3 z1 z2 z3 q1 q2 q3 OL N1
          refine then_name (fun W hW => ?_)
          try rw [← hW] at N2
          obtain ⟨y1, y2, y3⟩ := N2.out.b.rules
          have hwd : w.heap.size ≤ W.heap.size := N2.out.k.size
          clear hW
          have OD : Hid ((W.alloc (.cells #[.bool false] 4)).ownsRow 0 4 1 (.slice A2 n p2) n (flat n 1 cd)) := Lib.hid (World.ownsRow.alloc N2.out.D _)
          have tok1 : True := trivial
          go_wp2_with (first | (at_builtin; have _t := tok1; refine wpList_append_lies _ (by rfl) _ _ _ (by rfl) 0 4 iB (.bool false) 1 1 Tryz.underlying24 iB1 iB2 iB3 iB4 rfl (by decide) _ _ _ (by rfl) OD.out ⟨W.heap.size, 0, none⟩ 1 1 [.bool false] (by rfl) (by rfl) (World.news_of_block (heap_alloc_new W _)) (by simp [Value.oneCell']) (by omega) (by unfold maxLen; omega) (by omega) (by simp) (W.heap.size + 1) (by simp) ?_; intro gb cb w5 o5 g5 hat5 hlt5; have B5 := Lib.hid (N2.out.mid1 g5); have N3 := Lib.hid (N2.out.next1 g5 hat5 o5); obtain ⟨x1, x2, x3⟩ := B5.out.rules; have OC := Lib.hid (World.ownsRow.alloc N3.out.C (.cells #[.int .i64 0] 3)); have hsz5 := (grow_keep g5).size; clear o5 g5 tok1 y1 y2 y3 B5 N2 OD) | (at_builtin; refine wpList_append_lies _ (by rfl) _ _ _ (by rfl) 0 3 iI (.int .i64 0) 1 8 Tryz.underlying25 iI1 iI2 iI3 iI4 rfl (by decide) _ _ _ (by rfl) OC.out ⟨w5.heap.size, 0, none⟩ 1 1 [.int .i64 0] (by rfl) (by rfl) (World.news_of_block (heap_alloc_set w5 _ _ _ _)) (by simp [Value.oneCell']) (by omega) (by unfold maxLen; omega) (by omega) (by simp) (w5.heap.size + 1) (by simp) ?_; intro gi ci w6 o6 g6 hat6 hlt6; have B6 := Lib.hid (N3.out.mid2 g6); have N4 := Lib.hid (N3.out.next2 g6 (by simpa using hat6) o6); obtain ⟨v1, v2, v3⟩ := B6.out.rules; clear o6 g6 B6 N3 OC x1 x2 x3))
          go_ret2
          rw [HT.out]
          exact ⟨rfl, _, _, _, _, N4.out.b, N4.out.L, N4.out.D, N4.out.C, N4.out.V, N4.out.nl, N4.out.nd, N4.out.nc, N4.out.k⟩
end
end Go.Proofs.YtjpalcejmloocaaGreat.World
