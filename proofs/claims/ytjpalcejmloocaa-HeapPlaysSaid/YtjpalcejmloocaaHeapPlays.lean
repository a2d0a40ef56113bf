/-
  HeapPlays: the walk.
-/
import Derived.Test.YtjpalcejmloocaaPlaysMake
import Derived.Test.YtjpalcejmloocaaHqAwake
import Derived.BigGuardPart
import Derived.Deep.DeepCutAuto
namespace Go.Proofs.Ytjpalcejmloocaa.RefHeap
open Go.RowKit Go.Proofs.Ytjpalcejmloocaa.Plain Go.Proofs.Ytjpalcejmloocaa.Free Go.Proofs.Ytjpalcejmloocaa.Heap Go.Proofs.Ytjpalcejmloocaa.RefFree
set_option linter.unusedVariables false
/-- a call -/
structure OpV where
  kind : Int
  a : Int
  b : Int
  c : Int
  d : Int
  w : Int
structure OpV.Ok (v : OpV) : Prop where
  k1 : -9223372036854775808 ≤ v.kind ∧ v.kind ≤ 9223372036854775807
  a1 : v.a ≤ 9223372036854775807
  c1 : -9223372036854775808 ≤ v.c ∧ v.c ≤ 9223372036854775807
  w1 : 0 ≤ v.w ∧ v.w < 4294967296
/-- the script, where it came in -/
structure Script (w : World) (A : Option Addr) (n : Nat) (V : Nat → OpV) : Prop where
  at_ : ∀ i, i < n → ∃ g k, A = some ⟨g, k, none⟩ ∧ g < w.heap.size ∧ w.cell? ⟨g, k + i * 6, none⟩ = some (.int .i64 (V i).kind) ∧ w.cell? ⟨g, k + i * 6 + 1, none⟩ = some (.int .i64 (V i).a) ∧ w.cell? ⟨g, k + i * 6 + 2, none⟩ = some (.int .i64 (V i).b) ∧ w.cell? ⟨g, k + i * 6 + 3, none⟩ = some (.int .i64 (V i).c) ∧ w.cell? ⟨g, k + i * 6 + 4, none⟩ = some (.int .i64 (V i).d) ∧ w.cell? ⟨g, k + i * 6 + 5, none⟩ = some (.int .u32 (V i).w)
  ok : ∀ i, i < n → (V i).Ok
theorem PK.ext0 {w w' w0 : World} (x : Ext w0 w) (k : PK w0.heap.size w w') : Ext w0 w' :=
  Ext.of_below (Keep.below x.below k x.below.size (fun i hi hj => by have := hj.1; omega))
theorem HR.start (N : Nat) : HR [] (List.replicate N 0) (allL N) (List.replicate (N + 1) false) (clr (List.replicate N false) 0 true N) := by
  refine ⟨by simp, by rw [clr_len]; simp, rep_frees N, fun o ho => (by cases ho), fun x hx => ?_, List.Pairwise.nil, fun j hj => ?_⟩
  · rw [List.length_replicate] at hx
    rw [all_has]
    exact ⟨fun _ o ho => (by cases ho), fun _ => by omega⟩
  · rw [List.getD_eq_getElem?_getD, List.getElem?_replicate] at hj
    split at hj <;> simp at hj
/-- both heaps in the round -/
def InL (w wr : World) (h q f ib base N i : Nat) (o : O3) : Prop := ∃ vL Q S L Bg is, Both wr h q f ib w.heap.size base o vL Q S L Bg is ∧ Q.length ≤ i ∧ S.length = N ∧ Ext w wr
theorem InL.ext {w wr w2 : World} {h q f ib base N i : Nat} {o : O3} (h0 : InL w wr h q f ib base N i o) (x : Ext wr w2) : InL w w2 h q f ib base N i o := by
  obtain ⟨vL, Q, S, L, Bg, is, b, h1, h2, h3⟩ := h0
  exact ⟨vL, Q, S, L, Bg, is, b.ext x, h1, h2, h3.trans x⟩
theorem InL.after {w wr w2 : World} {h q f ib base N i n m : Nat} {o : O3} (x : Ext w wr) (hn : n = N) (hm : m ≤ i) (ha : After wr h q f ib w.heap.size base n m o w2) : InL w w2 h q f ib base N (i + 1) o := by
  obtain ⟨vL, Q, S, L, Bg, is, b, h1, h2, h3⟩ := ha
  exact ⟨vL, Q, S, L, Bg, is, b, by omega, by omega, PK.ext0 x h3⟩
theorem clamp (words : Int) (hg : words ≤ 1000 ∨ 65536 ≤ words) : ∃ (M X : Int) (N : Nat), (if 65536 < words then 65536 else words) = M ∧ (if 0 < M then M else 0) = (N : Int) ∧ (if words < 0 then 0 else words) = X ∧ (if 65536 < X then 65536 else X) = (N : Int) ∧ N ≤ 65536 := by
  by_cases h1 : words < 0
  · exact ⟨words, 0, 0, if_neg (by omega), if_neg (by omega), if_pos h1, if_neg (by omega), by omega⟩
  · by_cases h2 : 65536 < words
    · exact ⟨65536, words, 65536, if_pos h2, if_pos (by omega), if_neg h1, if_pos h2, by omega⟩
    · refine ⟨words, words, words.toNat, if_neg h2, ?_, if_neg h1, ?_, by omega⟩
      · split <;> omega
      · rw [if_neg h2]; omega
theorem cellsOp {w : World} {bx : Nat} {vk va vb vc vd vw : Int} (B : Blk w bx 30 #[.int .i64 vk, .int .i64 va, .int .i64 vb, .int .i64 vc, .int .i64 vd, .int .u32 vw]) : w.cell? ⟨bx, 1, none⟩ = some (.int .i64 va) ∧ w.cell? ⟨bx, 2, none⟩ = some (.int .i64 vb) ∧ w.cell? ⟨bx, 3, none⟩ = some (.int .i64 vc) ∧ w.cell? ⟨bx, 5, none⟩ = some (.int .u32 vw) := ⟨B.cell 1, B.cell 2, B.cell 3, B.cell 5⟩
set_option maxRecDepth 100000 in
set_option maxHeartbeats 8000000 in
theorem heapPlays (words : Int) (A : Option Addr) (n cap : Nat) (V : Nat → OpV) (w : World) (hw : -9223372036854775808 ≤ words ∧ words ≤ 9223372036854775807) (hs : Script w A n V) : Calls Try.prog 3 #[.int .i64 words, .slice A n cap] w fun e w' => e = .returned (.bool true) ∧ Ext w w' := by
  have SC := Lib.hid hs
  clear hs
  by_cases hbad : 1000 < words ∧ words < 65536
  · obtain ⟨h1, h2⟩ := hbad
    go_enter Try.func3, Try.ntmps3
    go_big_wp2_with fail
    refine (Heap.awake _).mono ?_
    rintro e w1 ⟨rfl, x1⟩
    go_big_wp2_with fail
    go_ret
    exact ⟨rfl, x1⟩
  · obtain ⟨M, X, N, e1, e2, e3, e4, hN⟩ := clamp words (by omega)
    have dw : decide (1000 < words) = false ∨ (decide (1000 < words) = true ∧ decide (words < 65536) = false) := by
      by_cases h1 : 1000 < words
      · exact .inr ⟨decide_eq_true h1, decide_eq_false (by omega)⟩
      · exact .inl (decide_eq_false h1)
    have NW := Lib.hid (fun W => Heap.new words M N W e1 e2 hN)
    have NR := Lib.hid (fun W => rnew5 words X N W e3 e4 hN)
    clear e1 e2 e3 e4 hbad hw
    rcases dw with h1 | ⟨h1, h2⟩
    all_goals (
      go_enter Try.func3, Try.ntmps3
      go_big_wp2_with fail
      refine (NW.out _).mono ?_
      rintro e w1 ⟨⟨h, o, rfl, H1⟩, x1⟩
      go_big_wp2_with fail
      refine (NR.out _).mono ?_
      rintro e w2 ⟨⟨q, f, ib, rfl, R⟩, x2⟩
      have LO : o.sb < w1.heap.size ∧ o.f < w1.heap.size ∧ o.bb < w1.heap.size := by
        obtain ⟨s, sb, f', bb, v, rfl, H⟩ := H1
        exact ⟨H.sto.row.lt, H.fre.blk.lt, H.bg.lt⟩
      have I0 : Hid (InL w w2 h q f ib w1.heap.size N 0 o) := Lib.hid ⟨_, [], _, _, _, _, ⟨H1.ext x2, by rw [List.length_replicate]; exact R, HR.start N, LO⟩, Nat.le_refl _, List.length_replicate, x1.trans x2⟩
      have HBB := Lib.hid x1.below.size
      clear H1 R LO NW NR x1 x2 h1
      try clear h2
      generalize w1.heap.size = base at *
      go_big_wp2_with fail
      rename World => wo
      go_loopw [7] (fun iv wr => ∃ i : Nat, i ≤ n ∧ i ≤ 30 ∧ iv = .int .i64 i ∧ InL w wr h q f ib base N i o) (fun iv _ => 30 - (intOf iv).toNat)
      case atStart => exact ⟨0, by omega, by omega, rfl, I0.out⟩
      case round =>
        obtain ⟨i, hi, hi30, rfl, I⟩ := hrel
        by_cases hc : i < n ∧ i < 30
        · obtain ⟨hc1, hc2⟩ := hc
          obtain ⟨vL, Q, S, L, Bg, is, b, hQ, hSN, xw⟩ := I
          obtain ⟨g, k, eA, hg, c0, c1, c2, c3, c4, c5⟩ := SC.out.at_ i hc1
          obtain ⟨k1, a1, cc1, w1⟩ := SC.out.ok i hc1
          subst eA
          have c0 := (xw.below.cell (p := ⟨g, k + i * 6, none⟩) hg).trans c0
          have c1 := (xw.below.cell (p := ⟨g, k + i * 6 + 1, none⟩) hg).trans c1
          have c2 := (xw.below.cell (p := ⟨g, k + i * 6 + 2, none⟩) hg).trans c2
          have c3 := (xw.below.cell (p := ⟨g, k + i * 6 + 3, none⟩) hg).trans c3
          have c4 := (xw.below.cell (p := ⟨g, k + i * 6 + 4, none⟩) hg).trans c4
          have c5 := (xw.below.cell (p := ⟨g, k + i * 6 + 5, none⟩) hg).trans c5
          have i1 : (i : Int) < (n : Int) := by omega
          have i2 : (i : Int) < 30 := by omega
          generalize V i = v at *
          obtain ⟨vk, va, vb, vc, vd, vw⟩ := v
          simp only at c0 c1 c2 c3 c4 c5 k1 a1 cc1 w1
          have BH := Lib.hid b
          have XW := Lib.hid xw
          clear b xw hg
          go_upto_region 12 with (fail)
          refine wp_name (fun w4 hW => ?_)
          have BX := Lib.hid (Blk.new' hW)
          have X4 := Lib.hid ((Ext.refl wr).alloc' hW)
          have SZ := Lib.hid (show w.heap.size ≤ wr.heap.size from XW.out.below.size)
          clear hW c0 c1 c2 c3 c4 c5
          generalize wr.heap.size = bx at *
          obtain ⟨r1, r2, r3⟩ := BX.out.rules
          go_big_wp2_with fail
          refine (Word.place vk 10 _ (by omega) (by omega) k1.1 k1.2).mono ?_
          rintro e w5 ⟨rfl, rfl⟩
          have kk0 : 0 ≤ vk % 10 := by omega
          have kk9 : vk % 10 ≤ 9 := by omega
          generalize vk % 10 = kk at *
          have B4 := Lib.hid (BH.out.ext X4.out)
          by_cases q0 : kk < 3
          · as_aux_lemma =>
            obtain ⟨a, okk, hA, PR⟩ := do_make B4.out HBB.out (by omega) va vb vc vd
            have PH := Lib.hid PR
            clear PR
            go_big_wp2_with fail
            refine (PH.out _ (Ext.refl _)).mono ?_
            rintro e w6 ⟨rfl, P6, K5⟩
            have B6 := Lib.hid (P6.blk BX.out (.inr (by decide)))
            have KH := Lib.hid K5
            clear P6 K5 r1 r2 r3 PH
            obtain ⟨r1, r2, r3⟩ := B6.out.rules
            go_big_wp2_with fail
            refine (KH.out _ (Ext.refl _)).mono ?_
            rintro e w7 ⟨rfl, vL', Q', S', L', Bg', is', b', hl', hS', k'⟩
            have B7 := Lib.hid (k'.blk BX.out (.inr (by decide)))
            have N7 := Lib.hid (And.intro hl' hS')
            have X7 := Lib.hid (PK.ext0 (XW.out.trans X4.out) k')
            have BB := Lib.hid b'
            clear KH b' hl' hS' k' r1 r2 r3
            obtain ⟨r1, r2, r3⟩ := B7.out.rules
            have o1 : (okk == okk) = true := by cases okk <;> rfl
            go_big_wp2_with fail
            refine (both_same BB.out a 0 (by omega)).mono ?_
            rintro e w8 ⟨rfl, x8⟩
            have B8 := Lib.hid (B7.out.ext x8)
            have BB8 := Lib.hid (BB.out.ext x8)
            have X8 := Lib.hid (X7.out.trans x8)
            clear x8 B7 BB X7 r1 r2 r3
            obtain ⟨r1, r2, r3⟩ := B8.out.rules
            go_big_wp2_with fail
            refine (both_same BB8.out va vb a1).mono ?_
            rintro e w9 ⟨rfl, x9⟩
            have I8 : Hid (InL w w9 h q f ib base N (i + 1) o) := Lib.hid ⟨_, _, _, _, _, _, BB8.out.ext x9, by have := N7.out.1; omega, by have := N7.out.2; omega, X8.out.trans x9⟩
            clear x9 BB8 B8 X8
            go_big_wp2_with fail
            exact ⟨⟨i + 1, by omega, by omega, by go_num, I8.out⟩, by simp [intOf]; omega⟩
          · by_cases q1 : kk = 3
            · as_aux_lemma =>
              subst q1
              obtain ⟨r, PR⟩ := do_drop B4.out HBB.out va
              have PH := Lib.hid PR
              have cs1 := cellsOp (BX.out.ext (Ext.refl _).drew)
              clear PR r1 r2 r3
              go_big_wp2_with fail
              go_region_held3 (fun w' => w'.cell? ⟨bx, 1, none⟩ = some (.int .i64 va) ∧ w'.cell? ⟨bx, 2, none⟩ = some (.int .i64 vb) ∧ w'.cell? ⟨bx, 3, none⟩ = some (.int .i64 vc) ∧ w'.cell? ⟨bx, 5, none⟩ = some (.int .u32 vw)) (first | exact cs3 | exact cs2 | exact cs1)
                (first
                  | (go_at_call 12; refine (K5 _ (Ext.refl _)).mono ?_; rintro e w7 ⟨rfl, vL', Q', S', L', Bg', is', b', hl', hS', k'⟩; have cs3 := cellsOp (k'.blk BX.out (.inr (by decide))))
                  | (go_at_call 11; refine (PH.out _ (Ext.refl _).drew).mono ?_; rintro e w6 ⟨rfl, P6, K5⟩; have cs2 := cellsOp (P6.blk (BX.out.ext (Ext.refl _).drew) (.inr (by decide)))))
              have B7 := Lib.hid (k'.blk BX.out (.inr (by decide)))
              have N7 := Lib.hid (And.intro hl' hS')
              have X7 := Lib.hid (PK.ext0 (XW.out.trans X4.out) k')
              have BB := Lib.hid b'
              clear cs1 cs2 cs3 K5 P6 b' hl' hS' k' PH
              obtain ⟨r1, r2, r3⟩ := B7.out.rules
              go_big_wp2_with fail
              refine (both_same BB.out va vb a1).mono ?_
              rintro e w8 ⟨rfl, x8⟩
              have I8 : Hid (InL w w8 h q f ib base N (i + 1) o) := Lib.hid ⟨_, _, _, _, _, _, BB.out.ext x8, by have := N7.out.1; omega, by have := N7.out.2; omega, X7.out.trans x8⟩
              clear x8 BB B7 X7
              go_big_wp2_with fail
              exact ⟨⟨i + 1, by omega, by omega, by go_num, I8.out⟩, by simp [intOf]; omega⟩
            · have q3 : (kk == 3) = false := beq_eq_false_iff_ne.2 q1
              by_cases q2 : kk < 6
              · as_aux_lemma =>
                obtain ⟨r, PR⟩ := do_setfield B4.out HBB.out va vb vw w1
                have PH := Lib.hid PR
                have cs1 := cellsOp (BX.out.ext (Ext.refl _).drew)
                clear PR r1 r2 r3
                go_big_wp2_with fail
                go_region_held3 (fun w' => w'.cell? ⟨bx, 1, none⟩ = some (.int .i64 va) ∧ w'.cell? ⟨bx, 2, none⟩ = some (.int .i64 vb) ∧ w'.cell? ⟨bx, 3, none⟩ = some (.int .i64 vc) ∧ w'.cell? ⟨bx, 5, none⟩ = some (.int .u32 vw)) (first | exact cs3 | exact cs2 | exact cs1)
                  (first
                    | (go_at_call 14; refine (K5 _ (Ext.refl _)).mono ?_; rintro e w7 ⟨rfl, vL', Q', S', L', Bg', is', b', hl', hS', k'⟩; have cs3 := cellsOp (k'.blk BX.out (.inr (by decide))))
                    | (go_at_call 13; refine (PH.out _ (Ext.refl _).drew).mono ?_; rintro e w6 ⟨rfl, P6, K5⟩; have cs2 := cellsOp (P6.blk (BX.out.ext (Ext.refl _).drew) (.inr (by decide)))))
                have B7 := Lib.hid (k'.blk BX.out (.inr (by decide)))
                have N7 := Lib.hid (And.intro hl' hS')
                have X7 := Lib.hid (PK.ext0 (XW.out.trans X4.out) k')
                have BB := Lib.hid b'
                clear cs1 cs2 cs3 K5 P6 b' hl' hS' k' PH
                obtain ⟨r1, r2, r3⟩ := B7.out.rules
                go_big_wp2_with fail
                refine (both_same BB.out va vb a1).mono ?_
                rintro e w8 ⟨rfl, x8⟩
                have I8 : Hid (InL w w8 h q f ib base N (i + 1) o) := Lib.hid ⟨_, _, _, _, _, _, BB.out.ext x8, by have := N7.out.1; omega, by have := N7.out.2; omega, X7.out.trans x8⟩
                clear x8 BB B7 X7
                go_big_wp2_with fail
                exact ⟨⟨i + 1, by omega, by omega, by go_num, I8.out⟩, by simp [intOf]; omega⟩
              · by_cases q4 : kk < 8
                · as_aux_lemma =>
                  obtain ⟨r, PR⟩ := do_setbyte B4.out HBB.out va vb vc cc1.1 cc1.2
                  have PH := Lib.hid PR
                  have cs1 := cellsOp (BX.out.ext (Ext.refl _).drew)
                  clear PR r1 r2 r3
                  go_big_wp2_with fail
                  go_region_held3 (fun w' => w'.cell? ⟨bx, 1, none⟩ = some (.int .i64 va) ∧ w'.cell? ⟨bx, 2, none⟩ = some (.int .i64 vb) ∧ w'.cell? ⟨bx, 3, none⟩ = some (.int .i64 vc) ∧ w'.cell? ⟨bx, 5, none⟩ = some (.int .u32 vw)) (first | exact cs3 | exact cs2 | exact cs1)
                    (first
                      | (go_at_call 16; refine (K5 _ (Ext.refl _)).mono ?_; rintro e w7 ⟨rfl, vL', Q', S', L', Bg', is', b', hl', hS', k'⟩; have cs3 := cellsOp (k'.blk BX.out (.inr (by decide))))
                      | (go_at_call 15; refine (PH.out _ (Ext.refl _).drew).mono ?_; rintro e w6 ⟨rfl, P6, K5⟩; have cs2 := cellsOp (P6.blk (BX.out.ext (Ext.refl _).drew) (.inr (by decide)))))
                  have B7 := Lib.hid (k'.blk BX.out (.inr (by decide)))
                  have N7 := Lib.hid (And.intro hl' hS')
                  have X7 := Lib.hid (PK.ext0 (XW.out.trans X4.out) k')
                  have BB := Lib.hid b'
                  clear cs1 cs2 cs3 K5 P6 b' hl' hS' k' PH
                  obtain ⟨r1, r2, r3⟩ := B7.out.rules
                  go_big_wp2_with fail
                  refine (both_same BB.out va vb a1).mono ?_
                  rintro e w8 ⟨rfl, x8⟩
                  have I8 : Hid (InL w w8 h q f ib base N (i + 1) o) := Lib.hid ⟨_, _, _, _, _, _, BB.out.ext x8, by have := N7.out.1; omega, by have := N7.out.2; omega, X7.out.trans x8⟩
                  clear x8 BB B7 X7
                  go_big_wp2_with fail
                  exact ⟨⟨i + 1, by omega, by omega, by go_num, I8.out⟩, by simp [intOf]; omega⟩
                · by_cases q5 : kk = 8
                  · as_aux_lemma =>
                    subst q5
                    obtain ⟨r, PR⟩ := do_setclass B4.out HBB.out va vb
                    have PH := Lib.hid PR
                    have cs1 := cellsOp (BX.out.ext (Ext.refl _).drew)
                    clear PR r1 r2 r3
                    go_big_wp2_with fail
                    go_region_held3 (fun w' => w'.cell? ⟨bx, 1, none⟩ = some (.int .i64 va) ∧ w'.cell? ⟨bx, 2, none⟩ = some (.int .i64 vb) ∧ w'.cell? ⟨bx, 3, none⟩ = some (.int .i64 vc) ∧ w'.cell? ⟨bx, 5, none⟩ = some (.int .u32 vw)) (first | exact cs3 | exact cs2 | exact cs1)
                      (first
                        | (go_at_call 18; refine (K5 _ (Ext.refl _)).mono ?_; rintro e w7 ⟨rfl, vL', Q', S', L', Bg', is', b', hl', hS', k'⟩; have cs3 := cellsOp (k'.blk BX.out (.inr (by decide))))
                        | (go_at_call 17; refine (PH.out _ (Ext.refl _).drew).mono ?_; rintro e w6 ⟨rfl, P6, K5⟩; have cs2 := cellsOp (P6.blk (BX.out.ext (Ext.refl _).drew) (.inr (by decide)))))
                    have B7 := Lib.hid (k'.blk BX.out (.inr (by decide)))
                    have N7 := Lib.hid (And.intro hl' hS')
                    have X7 := Lib.hid (PK.ext0 (XW.out.trans X4.out) k')
                    have BB := Lib.hid b'
                    clear cs1 cs2 cs3 K5 P6 b' hl' hS' k' PH
                    obtain ⟨r1, r2, r3⟩ := B7.out.rules
                    go_big_wp2_with fail
                    refine (both_same BB.out va vb a1).mono ?_
                    rintro e w8 ⟨rfl, x8⟩
                    have I8 : Hid (InL w w8 h q f ib base N (i + 1) o) := Lib.hid ⟨_, _, _, _, _, _, BB.out.ext x8, by have := N7.out.1; omega, by have := N7.out.2; omega, X7.out.trans x8⟩
                    clear x8 BB B7 X7
                    go_big_wp2_with fail
                    exact ⟨⟨i + 1, by omega, by omega, by go_num, I8.out⟩, by simp [intOf]; omega⟩
                  · as_aux_lemma =>
                    have q6 : (kk == 8) = false := beq_eq_false_iff_ne.2 q5
                    obtain ⟨r, PR⟩ := do_setmark B4.out HBB.out va vb (Int.tmod vc 2 == 0)
                    have PH := Lib.hid PR
                    have cs1 := cellsOp (BX.out.ext (Ext.refl _).drew)
                    clear PR r1 r2 r3
                    go_big_wp2_with fail
                    go_region_held3 (fun w' => w'.cell? ⟨bx, 1, none⟩ = some (.int .i64 va) ∧ w'.cell? ⟨bx, 2, none⟩ = some (.int .i64 vb) ∧ w'.cell? ⟨bx, 3, none⟩ = some (.int .i64 vc) ∧ w'.cell? ⟨bx, 5, none⟩ = some (.int .u32 vw)) (first | exact cs3 | exact cs2 | exact cs1)
                      (first
                        | (go_at_call 20; refine (K5 _ (Ext.refl _)).mono ?_; rintro e w7 ⟨rfl, vL', Q', S', L', Bg', is', b', hl', hS', k'⟩; have cs3 := cellsOp (k'.blk BX.out (.inr (by decide))))
                        | (go_at_call 19; refine (PH.out _ (Ext.refl _).drew).mono ?_; rintro e w6 ⟨rfl, P6, K5⟩; have cs2 := cellsOp (P6.blk (BX.out.ext (Ext.refl _).drew) (.inr (by decide)))))
                    have B7 := Lib.hid (k'.blk BX.out (.inr (by decide)))
                    have N7 := Lib.hid (And.intro hl' hS')
                    have X7 := Lib.hid (PK.ext0 (XW.out.trans X4.out) k')
                    have BB := Lib.hid b'
                    clear cs1 cs2 cs3 K5 P6 b' hl' hS' k' PH
                    obtain ⟨r1, r2, r3⟩ := B7.out.rules
                    go_big_wp2_with fail
                    refine (both_same BB.out va vb a1).mono ?_
                    rintro e w8 ⟨rfl, x8⟩
                    have I8 : Hid (InL w w8 h q f ib base N (i + 1) o) := Lib.hid ⟨_, _, _, _, _, _, BB.out.ext x8, by have := N7.out.1; omega, by have := N7.out.2; omega, X7.out.trans x8⟩
                    clear x8 BB B7 X7
                    go_big_wp2_with fail
                    exact ⟨⟨i + 1, by omega, by omega, by go_num, I8.out⟩, by simp [intOf]; omega⟩
        · have hx : n ≤ i ∨ (i < n ∧ 30 ≤ i) := by omega
          clear hc
          obtain ⟨vL, Q, S, L, Bg, is, b, hQ, hSN, xw⟩ := I
          obtain ⟨A0, c0, e0, hc1, hc2⟩ := own_form b.R.row
          have BH := Lib.hid b
          have XW := Lib.hid xw
          have AL := Lib.hid b.R.at_
          have HBK := Lib.hid b.R.blk
          have KB : Hid (∀ t, t < Q.length → kAt Q t ≤ 70000) := Lib.hid (fun t ht => by
            rw [kAt_get Q t ht]
            obtain ⟨ok, pa⟩ := b.P.obj _ (mem_objs (List.getElem_mem ht))
            have h1 := pa.fit
            have h2 := b.us
            omega)
          have hfew : Q.length ≤ 30 := by omega
          clear b xw hQ
          subst e0
          generalize kAt Q = K at *
          generalize hlq : Q.length = lq at *
          clear hlq hc1 hc2
          rcases hx with i1 | ⟨i1, i2⟩
          case' inl => have j1 : (n : Int) ≤ (i : Int) := by omega
          case' inr =>
            have j1 : (i : Int) < (n : Int) := by omega
            have j2 : (30 : Int) ≤ (i : Int) := by omega
          all_goals (as_aux_lemma =>
            go_big_wp2_with fail
            rename World => wz
            have WZ : Hid (Ext wz wz) := Lib.hid (Ext.refl _)
            go_loopw [15] (fun iv wx => ∃ t : Nat, t ≤ lq ∧ iv = .int .i64 t ∧ Ext wz wx) (fun iv _ => lq - (intOf iv).toNat)
            case atStart => exact ⟨0, Nat.zero_le _, rfl, WZ.out⟩
            case round =>
              obtain ⟨t, ht, rfl, x⟩ := hrel
              obtain ⟨r1, r2, r3⟩ := (HBK.out.ext x).rules
              by_cases hlt : t < lq
              · obtain ⟨g, cap2, hv, hg, hcc⟩ := AL.out t hlt
                injection hv with hv _ _
                subst hv
                have c2 := (x.below.cell (p := ⟨g, t * 9, none⟩) hg).trans hcc
                have m1 : (t : Int) < (lq : Int) := by omega
                have SM := Lib.hid (both_same (BH.out.ext x) (K t) 0 (by have := KB.out t hlt; omega))
                have XR := Lib.hid x
                clear x hcc
                generalize K t = kk at *
                go_big_wp2_with fail
                refine SM.out.mono ?_
                rintro e w8 ⟨rfl, x8⟩
                have X8 := Lib.hid (XR.out.trans x8)
                clear x8 XR SM
                go_big_wp2_with fail
                exact ⟨⟨t + 1, by omega, by go_num, X8.out⟩, by simp [intOf]; omega⟩
              · obtain rfl : t = lq := by omega
                have m1 : (t : Int) ≤ (t : Int) := Int.le_refl _
                have XR := Lib.hid (XW.out.trans x)
                clear x
                go_big_wp2_with fail
                refine (Heap.awake _).mono ?_
                rintro e w8 ⟨rfl, x8⟩
                have X8 := Lib.hid (XR.out.trans x8)
                clear x8
                go_big_wp2_with fail
                go_ret
                exact ⟨rfl, X8.out⟩))
end Go.Proofs.Ytjpalcejmloocaa.RefHeap
