/-
  Chapter 4's reference (colloquyref04): contracts.
-/
import Derived.Test.YtjpalcejmloocaaHq
import Derived.Test.YtjpalcejmloocaaRunsPlain
import Derived.Test.YtjpalcejmloocaaFree10
import Derived.Deep.AppendLies
import Derived.Deep.DeepCutAuto
import Derived.Lib.Hide
namespace Go.Proofs.Ytjpalcejmloocaa.RefFree
open Go.RowKit Go.Proofs.Ytjpalcejmloocaa.Plain Go.Proofs.Ytjpalcejmloocaa.Free
set_option linter.unusedVariables false
/-- of each word whether it is free -/
structure FS (w : World) (g ib n : Nat) (is : List Bool) : Prop where
  blk : Blk w g 71 #[.slice (some ⟨ib, 0, none⟩) n n]
  bs : Blk w ib 4 (is.map Value.bool).toArray
  len : is.length = n
  le : n ≤ 65536
section
variable {w w' : World} {g ib n : Nat} {is : List Bool}
theorem FS.ext (h : FS w g ib n is) (x : Ext w w') : FS w' g ib n is := ⟨h.blk.ext x, h.bs.ext x, h.len, h.le⟩
theorem FS.keep {S : Nat → Prop} (h : FS w g ib n is) (k : Keep S w w') (h1 : ¬ S g) (h2 : ¬ S ib) : FS w' g ib n is := ⟨h.blk.keep k h1, h.bs.keep k h2, h.len, h.le⟩
theorem FS.set (h : FS w g ib n is) (i : Nat) (b : Bool) : FS (w.setCell ⟨ib, i, none⟩ (.bool b)) g ib n (is.set i b) := by
  have k := (Keep.refl (· = ib) w).setCell (p := ⟨ib, i, none⟩) rfl (.bool b)
  refine ⟨h.blk.keep k (h.blk.ne h.bs (by decide)), ?_, by rw [List.length_set]; exact h.len, h.le⟩
  have := h.bs.set i (.bool b)
  simpa [List.map_set] using this
theorem FS.at_ (h : FS w g ib n is) (i : Nat) (hi : i < n) : w.cell? ⟨ib, i, none⟩ = some (.bool (is.getD i false)) := (h.bs.cell i).trans (Heap.bg_at is i (by rw [h.len]; exact hi))
end
theorem rep_at (n x : Nat) (hx : x < n) : (clr (List.replicate n false) 0 true n).getD x false = true := by
  rw [clr_get _ _ _ _ (by rw [List.length_replicate]; exact hx), if_pos (by omega)]
theorem rep_frees (n : Nat) : Frees (clr (List.replicate n false) 0 true n) (allL n) := by
  refine ⟨(all_can n).1, by rw [clr_len, List.length_replicate]; exact (all_can n).2, fun x hx => ?_⟩
  rw [clr_len, List.length_replicate] at hx
  rw [all_has, rep_at n x hx]
  exact ⟨fun _ => rfl, fun _ => by omega⟩
set_option maxRecDepth 100000 in
set_option maxHeartbeats 2000000 in
theorem rnew (v X : Int) (n : Nat) (w : World) (hX : (if v < 0 then 0 else v) = X) (hn : (if 65536 < X then 65536 else X) = (n : Int)) (hn2 : n ≤ 65536) :
    Calls Try.prog 26 #[.int .i64 v] w fun e w' => (∃ g ib, e = .returned (.pointer (some ⟨g, 0, none⟩)) ∧ FS w' g ib n (clr (List.replicate n false) 0 true n) ∧ w.heap.size ≤ g ∧ w.heap.size ≤ ib) ∧ Ext w w' := by
  have hmk := Heap.make_bool n (by omega)
  go_enter Try.func26, Try.ntmps26
  go_upto_region 2 with (fail)
  refine wp_name (fun w1 hW => ?_)
  have F0 : FS w1 (w.heap.size + 1) w.heap.size n (List.replicate n false) := by
    rw [hW]
    refine ⟨?_, ?_, List.length_replicate, hn2⟩
    · have := Blk.new (w.alloc (.cells (Array.replicate n (.bool false)) 4)) 71 #[.slice (some ⟨w.heap.size, 0, none⟩) n n]
      rw [World.size_alloc] at this
      exact this
    · have := (Blk.new w 4 (Array.replicate n (.bool false))).alloc (.cells #[.slice (some ⟨w.heap.size, 0, none⟩) n n] 71)
      have e : (Array.replicate n (Value.bool false)) = ((List.replicate n false).map Value.bool).toArray := by simp
      rw [← e]; exact this
  have x0 : Ext w w1 := by rw [hW]; exact ((Ext.refl _).alloc _).alloc _
  have e1 : (w.alloc (.cells (Array.replicate n (.bool false)) 4)).heap.size = w.heap.size + 1 := World.size_alloc ..
  try rw [e1]
  clear hW e1 hmk hX hn
  have HS := Lib.hid (show w.heap.size ≤ w.heap.size + 1 ∧ w.heap.size ≤ w.heap.size from ⟨by omega, Nat.le_refl _⟩)
  generalize hg : w.heap.size + 1 = g at *
  generalize hib : w.heap.size = ib at *
  have FH := Lib.hid F0
  have XH := Lib.hid x0
  clear F0 x0 hg
  go_wp2_with fail
  go_loopw [4] (fun iv wr => ∃ i : Nat, i ≤ n ∧ iv = .int .i64 i ∧ FS wr g ib n (clr (List.replicate n false) 0 true i) ∧ Ext w wr) (fun iv _ => n - (intOf iv).toNat)
  case atStart => exact ⟨0, Nat.zero_le _, rfl, FH.out, XH.out⟩
  case round =>
    obtain ⟨i, hi, rfl, F, x⟩ := hrel
    obtain ⟨r1, r2, r3⟩ := F.blk.rules
    by_cases hlt : i < n
    · have c1 := F.at_ i hlt
      have f1 := F.bs.frozen i
      have l1 := F.bs.lt
      have i1 : (i : Int) < (n : Int) := by omega
      have FN := Lib.hid (F.set i true)
      have XN := Lib.hid (x.setNew (p := ⟨ib, i, none⟩) (by rw [hib]; exact Nat.le_refl _) (.bool true))
      generalize (clr (List.replicate n false) 0 true i).getD i false = bv at *
      clear F x
      go_wp2_with fail
      go_roundw
      case rel => exact ⟨i + 1, by omega, by go_num, by
        have := FN.out
        show FS _ g ib n ((clr (List.replicate n false) 0 true i).set (0 + i) true)
        rw [Nat.zero_add]; exact this, XN.out⟩
      case measure => simp [intOf]; omega
    · obtain rfl : i = n := by omega
      have i1 : (i : Int) ≤ (i : Int) := Int.le_refl _
      go_wp2_with fail
      go_ret
      exact ⟨⟨g, ib, rfl, F, by rw [hib]; exact HS.out.1, by rw [hib]; exact HS.out.2⟩, x⟩
/-- what is grown of the call's own leaves all that was as it was -/
theorem own_ext {w w1 w2 : World} {e : TypeId} {sz n : Nat} {v : Value} {xs : List Value} (x : Ext w w1) (h : w1.ownsRow w.heap.size e sz v n xs) (k : Keep (fun k => v.ownBlock = some k) w1 w2) : Ext w w2 :=
  Ext.of_below (Keep.below x.below k x.below.size (fun i hi hk => by
    rcases h.2 with ⟨rfl, _⟩ | ⟨g, cap, cur, rfl, hb, _⟩
    · cases hk
    · simp [Value.ownBlock] at hk; omega))
/-- a run more -/
theorem wpList_append_run {w : World} {ops : Array Oper} {rest : List Oper} {o : Oper} {a : Act} {Q : Exit → Act → World → Prop} (hgd : o.guard = none) (s x : Operand)
    (ho : o.op = .call { callee := .builtin .append, args := #[s, x], argTypes := #[75, 75] }) (base : Nat) (v : Value) (L : List Run) (hs : a.eval s = v) (h : w.ownsRow base 78 2 v L.length (cells2 L)) (y z : Int) (b : Nat)
    (hx : a.eval x = .slice (some ⟨b, 0, none⟩) 1 1) (hy : Blk w b 78 #[.int .i64 y, .int .i64 z]) (hlen : L.length < 1000000) (hbase : base ≤ w.heap.size)
    (hK : ∀ v' w', w'.ownsRow base 78 2 v' (L ++ [(y, z)]).length (cells2 (L ++ [(y, z)])) → Keep (fun k => v.ownBlock = some k) w w' → wpList Try.prog ops Q rest (a.put o.dst v') w') : wpList Try.prog ops Q (o :: rest) a w := by
  obtain ⟨i0, hi0, hz0, hz1, hz2⟩ := info_parts info2
  refine wpList_append_own_at _ hgd s x 75 ho base 78 i0 (.agg #[.int .i64 0, .int .i64 0]) 2 16 Try.underlying75 hi0 hz0 hz1 hz2 rfl (by decide) v L.length _ hs h ⟨b, 0, none⟩ 1 1 [.int .i64 y, .int .i64 z] hx rfl ?_ (by simp [Value.oneCell']) (by unfold maxLen; omega) (by omega) hbase ?_
  · intro j u hj
    rcases j with _ | _ | j
    · simp at hj; subst hj; rw [Addr.add_lit, hy.cell]; rfl
    · simp at hj; subst hj; rw [Addr.add_lit, hy.cell]; rfl
    · simp at hj
  · intro v' w' o1 g1 _ h5
    refine hK v' w' ?_ ⟨g1.os, g1.tape, g1.output, g1.size, fun k hk hn => g1.block k hk (fun e => hn e.symm)⟩
    rw [List.length_append, cells2_app]
    exact o1
set_option maxRecDepth 100000 in
set_option maxHeartbeats 4000000 in
theorem rruns {w : World} {g ib n : Nat} {is : List Bool} {L : List Run} (F : FS w g ib n is) (k : Frees is L) :
    Calls Try.prog 56 #[.pointer (some ⟨g, 0, none⟩)] w fun e w' => (∃ v, e = .returned v ∧ w'.ownsRow w.heap.size 78 2 v L.length (cells2 L)) ∧ Ext w w' := by
  have FH := Lib.hid F
  have KH := Lib.hid k
  have hle := F.le
  have LH := Lib.hid F.len
  clear F k
  go_enter Try.func56, Try.ntmps56
  go_wp2_with fail
  go_loopw [3, 4, 5] (fun lv fv iv wr => ∃ (i fr : Nat) (l : List Run), i ≤ n + 1 ∧ iv = .int .i64 i ∧ fv = .int .i64 fr ∧ Hid (RunI is l fr i) ∧ wr.ownsRow w.heap.size 78 2 lv l.length (cells2 l) ∧ Ext w wr) (fun _ _ iv _ => n + 1 - (intOf iv).toNat)
  case atStart => exact ⟨0, 0, [], by omega, rfl, rfl, Lib.hid (RunI.start is), World.ownsRow_nil _ _ _ _, Ext.refl _⟩
  case round =>
    obtain ⟨i, fr, l, hi, rfl, rfl, I, O, x⟩ := hrel
    have F := FH.out.ext x
    obtain ⟨r1, r2, r3⟩ := F.blk.rules
    obtain ⟨A, c, hv, hc1, hc2⟩ := own_form O
    subst hv
    have hlen := I.out.le
    have hfi := I.out.fi
    have OH := Lib.hid O
    have XH := Lib.hid x
    have HB := Lib.hid x.below.size
    by_cases hn : i < n
    · have c1 := F.at_ i hn
      have f1 := F.bs.frozen i
      have l1 := F.bs.lt
      have i1 : (i : Int) < (n : Int) := by omega
      have i2 : (i : Int) ≤ (n : Int) := by omega
      clear F O x
      cases hb : is.getD i false with
      | true =>
        rw [hb] at c1
        have I2 := Lib.hid (I.out.more hb)
        clear I hb
        go_wp2_with fail
        go_roundw
        case rel => exact ⟨i + 1, fr, l, by omega, by go_num, rfl, I2, OH.out, XH.out⟩
        case measure => simp [intOf]; omega
      | false =>
        rw [hb] at c1
        by_cases hf : fr < i
        · have I2 := Lib.hid (I.out.cut1 hf hb)
          have i3 : (fr : Int) < (i : Int) := by omega
          clear I hb
          go_wp2_with (at_builtin; refine wpList_append_run rfl (.tmp 34) (.tmp 40) rfl w.heap.size _ l rfl ?c1 (fr : Int) ((i : Int) - (fr : Int)) wr.heap.size rfl (Blk.new _ _ _) (by omega) ?c2 ?_)
          case c1 => exact own_keep OH.out (Keep.of_ext ((Ext.refl _).alloc _) (fun _ => False)) (fun _ _ h => h)
          case c2 => simp; have := HB.out; omega
          intro v' w5 o1 k1
          have E1 := Lib.hid (own_ext (XH.out.trans ((Ext.refl _).alloc _)) (own_keep OH.out (Keep.of_ext ((Ext.refl _).alloc _) (fun _ => False)) (fun _ _ h => h)) k1)
          have O1 := Lib.hid o1
          clear k1 o1 r1 r2 r3
          go_wp2_with fail
          go_roundw
          case rel => exact ⟨i + 1, i + 1, _, by omega, by go_num, by go_num, I2, (by have := O1.out; rw [List.length_append]; exact this), E1.out⟩
          case measure => simp [intOf]; omega
        · have he : fr = i := by omega
          subst he
          have I2 := Lib.hid (I.out.cut0 hb)
          have i3 : (fr : Int) ≤ (fr : Int) := Int.le_refl _
          clear I hb
          go_wp2_with fail
          go_roundw
          case rel => exact ⟨fr + 1, fr + 1, l, by omega, by go_num, by go_num, I2, OH.out, XH.out⟩
          case measure => simp [intOf]; omega
    · by_cases hq : i ≤ n
      · have e : i = n := by omega
        have hb : is.getD i false = false := getD_out is i (by rw [LH.out]; omega)
        have i1 : (n : Int) ≤ (i : Int) := by omega
        have i2 : (i : Int) ≤ (n : Int) := by omega
        clear F O x e
        by_cases hf : fr < i
        · have I2 := Lib.hid (I.out.cut1 hf hb)
          have i3 : (fr : Int) < (i : Int) := by omega
          clear I hb
          go_wp2_with (at_builtin; refine wpList_append_run rfl (.tmp 34) (.tmp 40) rfl w.heap.size _ l rfl ?c1 (fr : Int) ((i : Int) - (fr : Int)) wr.heap.size rfl (Blk.new _ _ _) (by omega) ?c2 ?_)
          case c1 => exact own_keep OH.out (Keep.of_ext ((Ext.refl _).alloc _) (fun _ => False)) (fun _ _ h => h)
          case c2 => simp; have := HB.out; omega
          intro v' w5 o1 k1
          have E1 := Lib.hid (own_ext (XH.out.trans ((Ext.refl _).alloc _)) (own_keep OH.out (Keep.of_ext ((Ext.refl _).alloc _) (fun _ => False)) (fun _ _ h => h)) k1)
          have O1 := Lib.hid o1
          clear k1 o1 r1 r2 r3
          go_wp2_with fail
          go_roundw
          case rel => exact ⟨i + 1, i + 1, _, by omega, by go_num, by go_num, I2, (by have := O1.out; rw [List.length_append]; exact this), E1.out⟩
          case measure => simp [intOf]; omega
        · have he : fr = i := by omega
          subst he
          have I2 := Lib.hid (I.out.cut0 hb)
          have i3 : (fr : Int) ≤ (fr : Int) := Int.le_refl _
          clear I hb
          go_wp2_with fail
          go_roundw
          case rel => exact ⟨fr + 1, fr + 1, l, by omega, by go_num, by go_num, I2, OH.out, XH.out⟩
          case measure => simp [intOf]; omega
      · obtain rfl : i = n + 1 := by omega
        have J := I.out
        rw [← LH.out] at J
        obtain rfl := J.all KH.out
        have i1 : (n : Int) < ((n + 1 : Nat) : Int) := by omega
        clear F O x J I
        go_wp2_with fail
        go_ret
        exact ⟨⟨_, rfl, OH.out⟩, XH.out⟩
set_option maxRecDepth 100000 in
set_option maxHeartbeats 2000000 in
theorem rwords {w : World} {g ib n : Nat} {is : List Bool} {L : List Run} (F : FS w g ib n is) (k : Frees is L) :
    Calls Try.prog 47 #[.pointer (some ⟨g, 0, none⟩)] w fun e w' => e = .returned (.int .i64 (wordsL L)) ∧ Ext w w' := by
  have FH := Lib.hid F
  have KW := Lib.hid k.words
  have hle := F.le
  have LH := Lib.hid F.len
  clear F k
  go_enter Try.func47, Try.ntmps47
  go_wp2_with fail
  go_loopw [3, 4] (fun mv iv wr => ∃ i m : Nat, i ≤ n ∧ iv = .int .i64 i ∧ mv = .int .i64 m ∧ m ≤ i ∧ m = (is.take i).count true ∧ Ext w wr) (fun _ iv _ => n - (intOf iv).toNat)
  case atStart => exact ⟨0, 0, by omega, rfl, rfl, Nat.le_refl _, rfl, Ext.refl _⟩
  case round =>
    obtain ⟨i, m, hi, rfl, rfl, hm, hc, x⟩ := hrel
    have F := FH.out.ext x
    obtain ⟨r1, r2, r3⟩ := F.blk.rules
    have XH := Lib.hid x
    have MH := Lib.hid hc
    by_cases hn : i < n
    · have c1 := F.at_ i hn
      have f1 := F.bs.frozen i
      have l1 := F.bs.lt
      have i1 : (i : Int) < (n : Int) := by omega
      have CS := Lib.hid (count_step is i)
      clear F x hc
      cases hb : is.getD i false with
      | true =>
        rw [hb] at c1 CS
        clear hb
        go_wp2_with fail
        go_roundw
        case rel => exact ⟨i + 1, m + 1, by omega, by go_num, by go_num, by omega, by rw [CS.out, MH.out]; rfl, XH.out⟩
        case measure => simp [intOf]; omega
      | false =>
        rw [hb] at c1 CS
        clear hb
        go_wp2_with fail
        go_roundw
        case rel => exact ⟨i + 1, m, by omega, by go_num, rfl, by omega, by rw [CS.out, MH.out]; rfl, XH.out⟩
        case measure => simp [intOf]; omega
    · obtain rfl : i = n := by omega
      have i1 : (i : Int) ≤ (i : Int) := Int.le_refl _
      clear F x hc
      go_wp2_with fail
      go_ret
      exact ⟨ret_int (by rw [KW.out, MH.out, List.take_of_length_le (by rw [LH.out]; exact Nat.le_refl _)]), XH.out⟩
/-- the word of the run that is best -/
theorem best_run {is : List Bool} {L : List Run} {n : Int} {b : Nat} (k : Frees is L) (hb : bst L n L.length = some b) : b < L.length ∧ n ≤ (nth L b).2 ∧ 0 ≤ (nth L b).1 ∧ (nth L b).1 + (nth L b).2 ≤ is.length := by
  have hl := bst_lt L n _ _ hb
  have hm := nth_mem L b hl
  exact ⟨hl, bst_ge L n _ _ hb, (k.can.weak.ge hm).1, k.up _ hm⟩
def RTake (w : World) (g ib n : Nat) (is : List Bool) (L : List Run) (m : Nat) (e : Ending) (w' : World) : Prop :=
  (bst L m L.length = none → e = .returned (.tuple #[.int .i64 0, .bool false]) ∧ Ext w w') ∧
  (∀ b, bst L m L.length = some b → ∃ k : Nat, (nth L b).1 = (k : Int) ∧ e = .returned (.tuple #[.int .i64 k, .bool true]) ∧ FS w' g ib n (clr is k false m) ∧ Keep (· = ib) w w')
set_option maxRecDepth 100000 in
set_option maxHeartbeats 4000000 in
theorem rtake {w : World} {g ib n : Nat} {is : List Bool} {L : List Run} (F : FS w g ib n is) (k : Frees is L) (m : Nat) (hm : 1 ≤ m) (hm2 : m ≤ 100000) :
    Calls Try.prog 32 #[.pointer (some ⟨g, 0, none⟩), .int .i64 m] w (RTake w g ib n is L m) := by
  have FH := Lib.hid F
  have KH := Lib.hid k
  have hle := F.le
  have LH := Lib.hid F.len
  have RR := Lib.hid (rruns F k)
  clear F k
  go_enter Try.func32, Try.ntmps32
  go_wp2_with fail
  refine RR.out.mono ?_
  rintro e w1 ⟨⟨v, rfl, O⟩, x1⟩
  rcases own_rw O with ⟨rfl, rfl⟩ | ⟨gr, cap, cur, rfl, hb, hr⟩
  · clear O
    have X1 := Lib.hid x1
    have WW : Hid (Ext w1 w1) := Lib.hid (Ext.refl _)
    go_wp2_with fail
    go_loopw [7, 8] (fun b i wr => b = .int .i64 (-1) ∧ i = .int .i64 0 ∧ Ext w1 wr) (fun _ _ _ => 0)
    case atStart => exact ⟨rfl, rfl, WW.out⟩
    case round =>
      obtain ⟨rfl, rfl, hx⟩ := hrel
      go_wp2_with fail
      go_ret2
      exact ⟨fun _ => ⟨rfl, X1.out.trans hx⟩, fun b hb => by cases hb⟩
  · have X1 := Lib.hid x1
    have hcap := hr.capLe
    have hlc := hr.le
    unfold maxLen at hcap
    have HR := Lib.hid hr
    generalize hll : L.length = len at *
    have HL := Lib.hid hll
    have WW : Hid (Ext w1 w1) := Lib.hid (Ext.refl _)
    clear O hr hll x1 RR
    go_wp2_with fail
    go_loopw [7, 8] (fun b i wr => ∃ q : Nat, q ≤ len ∧ i = .int .i64 q ∧ b = .int .i64 (bI (bst L m q)) ∧ Ext w1 wr) (fun _ i _ => len - (intOf i).toNat)
    case atStart => exact ⟨0, Nat.zero_le _, rfl, rfl, WW.out⟩
    case round =>
      obtain ⟨q, hq, rfl, rfl, hx⟩ := hrel
      by_cases hlt : q < len
      · obtain ⟨c1, c2⟩ := HR.out.get hx q (by rw [HL.out]; exact hlt)
        have i1 : (q : Int) < (len : Int) := by omega
        have B0 : Hid (bst L m (q + 1) = match bst L m q with | none => if (m : Int) ≤ (nth L q).2 then some q else none | some b => if (m : Int) ≤ (nth L q).2 ∧ (nth L q).2 < (nth L b).2 then some q else some b) := rfl
        by_cases h2 : (m : Int) ≤ (nth L q).2
        · have d2 : decide ((nth L q).2 ≥ (m : Int)) = true := by simpa using h2
          cases hb : bst L m q with
          | none =>
            have B : Hid (bst L m (q + 1) = some q) := by rw [B0.out, hb]; exact Lib.hid (if_pos h2)
            clear hb h2 B0
            generalize nth L q = xx at *
            unfold bI
            go_wp2
            go_quiet (fail)
            go_wp2
            go_roundw
            case rel => exact ⟨q + 1, by omega, by go_num, by rw [B.out], hx.drewN _⟩
            case measure => simp [intOf]; omega
          | some b =>
            have hbk := bst_lt L m q b hb
            obtain ⟨e1, e2⟩ := HR.out.get hx b (by rw [HL.out]; omega)
            by_cases h3 : (nth L q).2 < (nth L b).2
            · have B : Hid (bst L m (q + 1) = some q) := by rw [B0.out, hb]; exact Lib.hid (if_pos ⟨h2, h3⟩)
              have d3 : decide ((nth L q).2 < (nth L b).2) = true := by simpa using h3
              clear hb h2 h3 B0 e1
              generalize nth L q = xx at *
              generalize nth L b = yy at *
              have b1 : (b : Int) < (len : Int) := by omega
              unfold bI
              go_wp2
              go_quiet (fail)
              go_wp2
              go_roundw
              case rel => exact ⟨q + 1, by omega, by go_num, by rw [B.out], hx.drewN _⟩
              case measure => simp [intOf]; omega
            · have B : Hid (bst L m (q + 1) = some b) := by rw [B0.out, hb]; exact Lib.hid (if_neg (fun hh => h3 hh.2))
              have d3 : decide ((nth L q).2 < (nth L b).2) = false := by simpa using h3
              clear hb h2 h3 B0 e1
              generalize nth L q = xx at *
              generalize nth L b = yy at *
              have b1 : (b : Int) < (len : Int) := by omega
              unfold bI
              go_wp2
              go_quiet (fail)
              go_wp2
              go_roundw
              case rel => exact ⟨q + 1, by omega, by go_num, by rw [B.out], hx.drewN _⟩
              case measure => simp [intOf]; omega
        · have d2 : decide ((nth L q).2 ≥ (m : Int)) = false := by simpa using h2
          have B : Hid (bst L m (q + 1) = bst L m q) := by
            rw [B0.out]
            cases bst L m q with
            | none => exact Lib.hid (if_neg h2)
            | some b => exact Lib.hid (if_neg (fun hh => h2 hh.1))
          clear h2 B0
          generalize bst L m q = ob at *
          generalize nth L q = xx at *
          go_wp2
          go_quiet (fail)
          go_wp2
          go_roundw
          case rel => exact ⟨q + 1, by omega, by go_num, by rw [B.out], hx.drewN _⟩
          case measure => simp [intOf]; omega
      · obtain rfl : q = len := by omega
        have i1 : (q : Int) ≤ (q : Int) := Int.le_refl _
        cases hb : bst L m q with
        | none =>
          have HN : Hid (bst L m L.length = none) := by rw [HL.out]; exact hb
          clear hb
          unfold bI
          go_wp2_with fail
          go_ret2
          exact ⟨fun _ => ⟨rfl, X1.out.trans hx⟩, fun b hb => by rw [HN.out] at hb; cases hb⟩
        | some b =>
          have hb2 : bst L m L.length = some b := by rw [HL.out]; exact hb
          have HN := Lib.hid hb2
          obtain ⟨k1, k2, k3, k4⟩ := best_run KH.out hb2
          obtain ⟨c1, c2⟩ := HR.out.get hx b k1
          obtain ⟨kk, hkk⟩ := Int.eq_ofNat_of_zero_le k3
          have HK := Lib.hid hkk
          have hfit : kk + m ≤ n := by have := LH.out; omega
          have b1 : (b : Int) < (q : Int) := by have := HL.out; omega
          have b2 : (0 : Int) ≤ (b : Int) := by omega
          have m1 : (1 : Int) ≤ (m : Int) := by omega
          rw [hkk] at c1
          have FW := Lib.hid (FH.out.ext (X1.out.trans hx))
          have XW := Lib.hid (X1.out.trans hx)
          have W2 : Hid (Ext wr wr) := Lib.hid (Ext.refl _)
          clear hb hb2 k1 k2 k3 k4 hkk hx
          unfold bI
          go_wp2_with fail
          rename World => wo
          go_loopw [10] (fun iv wx => ∃ j : Nat, j ≤ m ∧ iv = .int .i64 j ∧ FS wx g ib n (clr is kk false j) ∧ Keep (· = ib) w wx) (fun iv _ => m - (intOf iv).toNat)
          case atStart => exact ⟨0, Nat.zero_le _, rfl, FW.out, Keep.of_ext XW.out _⟩
          case round =>
            obtain ⟨j, hj, rfl, F, KP⟩ := hrel
            obtain ⟨r1, r2, r3⟩ := F.blk.rules
            by_cases hlt : j < m
            · have c3 := F.at_ (kk + j) (by omega)
              have f3 := F.bs.frozen (kk + j)
              have l3 := F.bs.lt
              have i3 : (j : Int) < (m : Int) := by omega
              have i4 : (kk : Int) + (j : Int) < (n : Int) := by omega
              have FN := Lib.hid (F.set (kk + j) false)
              have KN := Lib.hid (KP.setCell (p := ⟨ib, kk + j, none⟩) rfl (.bool false))
              generalize (clr is kk false j).getD (kk + j) false = bv at *
              clear F KP
              go_wp2_with fail
              exact ⟨⟨j + 1, by omega, by go_num, FN.out, KN.out⟩, by simp [intOf]; omega⟩
            · obtain rfl : j = m := by omega
              have i3 : (j : Int) ≤ (j : Int) := Int.le_refl _
              have FN := Lib.hid F
              have KN := Lib.hid KP
              clear F KP
              go_wp2_with fail
              go_ret2
              refine ⟨fun hb => (by rw [HN.out] at hb; cases hb), fun b' hb' => ?_⟩
              obtain rfl : b = b' := by rw [HN.out] at hb'; injection hb'
              exact ⟨kk, HK.out, rfl, FN.out, KN.out⟩
set_option maxRecDepth 100000 in
set_option maxHeartbeats 4000000 in
theorem rgive {w : World} {g ib n : Nat} {is : List Bool} (F : FS w g ib n is) (k m : Nat) (hm : 1 ≤ m) (hfit : k + m ≤ n) (hf : ∀ x, k ≤ x → x < k + m → is.getD x false = false) :
    Calls Try.prog 51 #[.pointer (some ⟨g, 0, none⟩), .int .i64 k, .int .i64 m] w fun e w' => e = .returned (.bool true) ∧ FS w' g ib n (clr is k true m) ∧ Keep (· = ib) w w' := by
  have FH := Lib.hid F
  have hle := F.le
  obtain ⟨r1, r2, r3⟩ := F.blk.rules
  have hm0 : (1 : Int) ≤ (m : Int) := by omega
  have hk0 : (0 : Int) ≤ (k : Int) := by omega
  have hk1 : (k : Int) ≤ (n : Int) := by omega
  have hk2 : (m : Int) ≤ (n : Int) - (k : Int) := by omega
  clear F
  go_enter Try.func51, Try.ntmps51
  go_wp2_with fail
  have WW : Hid (Ext w w) := Lib.hid (Ext.refl _)
  clear r1 r2 r3
  go_loopw [7] (fun iv wx => ∃ j : Nat, j ≤ m ∧ iv = .int .i64 j ∧ Ext w wx) (fun iv _ => m - (intOf iv).toNat)
  case atStart => exact ⟨0, Nat.zero_le _, rfl, WW.out⟩
  case round =>
    obtain ⟨j, hj, rfl, hx⟩ := hrel
    have F := FH.out.ext hx
    obtain ⟨r1, r2, r3⟩ := F.blk.rules
    by_cases hlt : j < m
    · have c3 := F.at_ (k + j) (by omega)
      rw [hf (k + j) (by omega) (by omega)] at c3
      have f3 := F.bs.frozen (k + j)
      have l3 := F.bs.lt
      have i3 : (j : Int) < (m : Int) := by omega
      have i4 : (k : Int) + (j : Int) < (n : Int) := by omega
      have XH := Lib.hid hx
      clear F hx hf
      go_wp2_with fail
      exact ⟨⟨j + 1, by omega, by go_num, XH.out⟩, by simp [intOf]; omega⟩
    · obtain rfl : j = m := by omega
      have i3 : (j : Int) ≤ (j : Int) := Int.le_refl _
      have FW := Lib.hid F
      have KW := Lib.hid (Keep.of_ext hx (· = ib))
      clear F hf hx
      go_wp2_with fail
      clear r1 r2 r3
      rename World => wo
      go_loopw [8] (fun iv wx => ∃ t : Nat, t ≤ j ∧ iv = .int .i64 t ∧ FS wx g ib n (clr is k true t) ∧ Keep (· = ib) w wx) (fun iv _ => j - (intOf iv).toNat)
      case atStart => exact ⟨0, Nat.zero_le _, rfl, FW.out, KW.out⟩
      case round =>
        obtain ⟨t, ht, rfl, F, KP⟩ := hrel
        obtain ⟨r1, r2, r3⟩ := F.blk.rules
        by_cases hlt : t < j
        · have c3 := F.at_ (k + t) (by omega)
          have f3 := F.bs.frozen (k + t)
          have l3 := F.bs.lt
          have i5 : (t : Int) < (j : Int) := by omega
          have i4 : (k : Int) + (t : Int) < (n : Int) := by omega
          have FN := Lib.hid (F.set (k + t) true)
          have KN := Lib.hid (KP.setCell (p := ⟨ib, k + t, none⟩) rfl (.bool true))
          generalize (clr is k true t).getD (k + t) false = bv at *
          clear F KP
          go_wp2_with fail
          exact ⟨⟨t + 1, by omega, by go_num, FN.out, KN.out⟩, by simp [intOf]; omega⟩
        · obtain rfl : t = j := by omega
          have i5 : (t : Int) ≤ (t : Int) := Int.le_refl _
          have FN := Lib.hid F
          have KN := Lib.hid KP
          clear F KP
          go_wp2_with fail
          go_ret
          exact ⟨rfl, FN.out, KN.out⟩
end Go.Proofs.Ytjpalcejmloocaa.RefFree
