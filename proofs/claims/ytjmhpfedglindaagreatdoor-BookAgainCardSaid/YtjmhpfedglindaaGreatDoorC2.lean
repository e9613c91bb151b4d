/- C2: WriteSheets. -/
import Derived.Test.YtjmhpfedglindaaGreatDoorC1
import Derived.Test.YtjmhpfedglindaaGreatDoorA4
import Derived.Deep.RegionLaw
import Derived.Deep.RegionLawGrows
import Derived.RangeFuncBox
import Derived.Maps.AppendAt
set_option linter.unusedVariables false
set_option linter.unusedSimpArgs false
namespace Go.Proofs.YtjmhpfedglindaaGreatDoor
open Go.RowKit

theorem infoStr : (Tryz.prog.info? 9).map (fun i => (i.zero, i.size, i.bytes)) = some (some (.string ⟨#[]⟩), 1, 16) := by kernel_rfl
theorem errOf_ok {α : Type} {most : Nat} {ok : α → Bool} {num : α → Int} {l : List α} (h : errOf most ok num l = 0) : l.length ≤ most ∧ ∀ x ∈ l, ok x = true := by
  unfold errOf at h
  split at h
  · omega
  · rename_i h1
    split at h
    · rename_i h2
      exact ⟨by omega, by simpa [List.all_eq_true] using h2⟩
    · omega

theorem three_cells {w : World} {b : Nat} {x y z : Value} {e : TypeId} (h : w.heap[b]? = some (.cells #[x, y, z] e (0, 0))) : ∀ a : Addr, some (⟨b, 0, none⟩ : Addr) = some a → ∀ j u, [x, y, z][j]? = some u → w.cell? (a.add j) = some u := by
  rintro a ha j u hj
  injection ha with ha
  subst ha
  have hc := cell_of_block h j
  match j, hj with
  | 0, hj => simp at hj; subst hj; simpa [Addr.add] using hc
  | 1, hj => simp at hj; subst hj; simpa [Addr.add] using hc
  | 2, hj => simp at hj; subst hj; simpa [Addr.add] using hc

set_option maxRecDepth 100000 in
set_option maxHeartbeats 4000000 in
theorem writeSheets_any (N : Nat) (xs : List Sheet) (a : Option Addr) (cap : Nat) (w : World) (hN : N ≤ w.heap.size) (hr : RowsR sheetR 2 N w a xs) (hl : xs.length ≤ 9223372036854775807) (hE : Env N w) :
    Calls Tryz.prog 19 #[.slice a xs.length cap] w fun e w' => e = .returned (.tuple #[str (if sheetsErr xs = 0 then sheetsL xs else []), .int .i64 (sheetsErr xs)]) ∧ Below w.heap.size w w' := by
  have he := sheetError_any N xs a cap w hN hr hl
  have He := Lib.hid he; clear he
  by_cases hz : sheetsErr xs = 0
  · obtain ⟨hlen, hok⟩ := errOf_ok hz
    have Hz := Lib.hid hz
    rw [hz] at He ⊢
    rw [if_pos rfl]
    clear hz
    obtain ⟨i0, hi, hz0, hz1, hz2⟩ := info_parts infoStr
    go_enter Tryz.func19, Tryz.ntmps19
    go_wp2_with (go_at_call 53; refine He.out.mono ?_; rintro e w1 ⟨rfl, hb1⟩; refine Hid.out ?_)
    have hpen : IsPen w1.heap.size w1.heap.size [] (w1.alloc (.cells #[.pointer none, .slice none 0 0] 96)) := Lib.fresh_isBuilder 96 5 w1
    have hbp : Below w.heap.size w (w1.alloc (.cells #[.pointer none, .slice none 0 0] 96)) := hb1.alloc hb1.size _
    refine Lib.hid ?_
    go_wp2_with fail
    go_loopw [19] (fun i wr => ∃ k : Nat, k ≤ xs.length ∧ i = .int .i64 k ∧ IsPen w1.heap.size w1.heap.size (sheetsL (xs.take k)) wr ∧ Below w1.heap.size (w1.alloc (.cells #[.pointer none, .slice none 0 0] 96)) wr ∧ (k = 0 → wr = w1.alloc (.cells #[.pointer none, .slice none 0 0] 96))) (fun i _ => xs.length - (intOf i).toNat)
    case atStart => exact ⟨0, Nat.zero_le _, rfl, hpen, Below.refl _ _, fun _ => rfl⟩
    case round =>
      obtain ⟨k, hk, rfl, hI, hbr, hfirst⟩ := hrel
      have hbw : Below w.heap.size w wr := hbp.trans (hbr.mono hb1.size)
      have hwr := hbr.size
      by_cases hlt : k < xs.length
      · obtain ⟨sb, soff, c0, c1, rfl, hsN, hR, hd0, hd1⟩ := rows2 hr k hlt
        have hc0 := (hbw.cell (p := ⟨sb, soff + k * 2, none⟩) (Nat.lt_of_lt_of_le hsN hN)).trans hd0
        have hc1 := (hbw.cell (p := ⟨sb, soff + k * 2 + 1, none⟩) (Nat.lt_of_lt_of_le hsN hN)).trans hd1
        clear hd0 hd1
        obtain ⟨ta, tcap, hcs, htl, htc, htr⟩ := hR
        simp only [List.cons.injEq, and_true] at hcs
        obtain ⟨rfl, rfl⟩ := hcs
        have hxok := hok xs[k] (List.getElem_mem hlt)
        obtain ⟨m0, m1, hn6, htok⟩ := Sheet.bounds hxok
        have h54 := fun W (hW : Below w.heap.size w W) => wide_any xs[k].meter 6 48 N W (by omega) (by omega) (by omega) (hE.later (hW.mono hN))
        have H54 := Lib.hid h54; clear h54
        have hts := take_flatten_succ sheetL xs k hlt
        have hpl := sheetsL_length (xs.take k) (fun x hx => hok x (List.mem_of_mem_take hx))
        have hpk : (xs.take k).length = k := by simp; omega
        rw [hpk] at hpl
        have Hts := Lib.hid hts; clear hts
        have Hfirst := Lib.hid hfirst; clear hfirst hpk hpen
        have Hok := Lib.hid hok; clear hok hxok
        have Htok := Lib.hid htok; clear htok
        have hI0 := hI.later (W := wr.alloc (.cells #[.int .i64 xs[k].meter, .slice ta xs[k].tries.length tcap] 46)) ((Below.refl _ _).alloc (Nat.le_refl _) _)
        have hb0 : Below w1.heap.size (w1.alloc (.cells #[.pointer none, .slice none 0 0] 96)) (wr.alloc (.cells #[.int .i64 xs[k].meter, .slice ta xs[k].tries.length tcap] 46)) := hbr.alloc (by simp at hwr; omega) _
        have hbw0 := hbw.alloc hbw.size (.cells #[.int .i64 xs[k].meter, .slice ta xs[k].tries.length tcap] 46)
        have HI0 := Lib.hid hI0; clear hI0 hI
        have hbox := block_new wr (.cells #[.int .i64 xs[k].meter, .slice ta xs[k].tries.length tcap] 46)
        go_wp2_with (go_at_call 54; refine (H54.out _ hbw0).mono ?_; rintro e w2 ⟨rfl, hb2⟩; refine Hid.out ?_)
        have e35 : (⟨#[35]⟩ : ByteArray) ++ ⟨(wideL xs[k].meter 6 48).toArray⟩ = ⟨(headL xs[k].meter).toArray⟩ := str_append [35] _
        have hwl := wideL_length xs[k].meter 6 48 m0 (by omega)
        have h56 := fun W => check_any ⟨(headL xs[k].meter).toArray⟩ (by have := headL_length xs[k].meter m0 (by omega); simp [ByteArray.size]; omega) W
        have H56 := Lib.hid h56; clear h56
        refine Lib.hid ?_
        go_wp2_with (go_at_call 56; refine (H56.out _).mono ?_; rintro e w3 ⟨rfl, hb3⟩; refine Hid.out ?_)
        have hb23 : Below wr.heap.size wr w3 := (((Below.refl _ _).alloc (Nat.le_refl _) _).trans (hb2.mono (by simp))).trans (hb3.mono (by have := hb2.size; simp at this; omega))
        have hI3 := HI0.out.later (hb2.trans (hb3.mono hb2.size))
        have hbox3 := block_below (block_below hbox hb2 (block_lt hbox)) hb3 (block_lt (block_below hbox hb2 (block_lt hbox)))
        have hs3 := hb23.size
        have hk3 := kept_of (e := 5) (b := some w1.heap.size) ((Below.refl w3.heap.size w3).alloc (Nat.le_refl _) (.cells #[str (headL xs[k].meter), .string ⟨#[checkD (headL xs[k].meter)]⟩] 9))
        have h55 := line_any w1.heap.size w1.heap.size w3.heap.size 0 2 N (sheetsL (xs.take k)) [headL xs[k].meter, [checkD (headL xs[k].meter)]] (w3.alloc (.cells #[str (headL xs[k].meter), .string ⟨#[checkD (headL xs[k].meter)]⟩] 9))
          (hI3.later ((Below.refl _ _).alloc (Nat.le_refl _) _)) (by simp at hwr ⊢; omega) (by simp) (by
            intro j hj
            match j, hj with
            | 0, _ => simp [cell_of_block (block_new w3 _)]
            | 1, _ => simp [cell_of_block (block_new w3 _)]) (by simp) (by simp) (by
            have := headL_length xs[k].meter m0 (by omega)
            simp [joinL2]; omega)
        have H55 := Lib.hid h55; clear h55
        refine Lib.hid ?_
        go_wp2_with (go_at_call 55; refine H55.out.mono ?_; rintro e w4 ⟨rfl, hI4, hb4, hk4⟩; refine Hid.out ?_)
        have hbox4 := hk4 wr.heap.size _ (block_old hbox3 _) (by simp at hwr ⊢; omega) (by rintro c fz ⟨⟩)
        have x0 := cell_of_block hbox4 0
        have x1 := cell_of_block hbox4 1
        have hbr4 : Below w1.heap.size (w1.alloc (.cells #[.pointer none, .slice none 0 0] 96)) w4 :=
          ((hbr.trans (hb23.mono (by simp at hwr; omega))).alloc (by simp at hwr; omega) _).trans hb4
        have Hbox4 := Lib.hid hbox4; clear hbox4 hbox hbox3 H55 H56 H54 HI0 hI3 hk4 hk3 hb4 hb23 hb0 hb2 hb3 hbw0 hs3 hc0 hc1
        obtain ⟨wo, rfl⟩ : ∃ wo : World, wo = wr := ⟨_, rfl⟩
        refine Lib.hid ?_
        go_wp2_with fail
        go_loopw [35] (fun j wr => ∃ q : Nat, q ≤ xs[k].tries.length ∧ j = .int .i64 q ∧ IsPen w1.heap.size w1.heap.size (sheetsL (xs.take k) ++ headLineL xs[k].meter ++ triesL (xs[k].tries.take q)) wr ∧ Below w1.heap.size (w1.alloc (.cells #[.pointer none, .slice none 0 0] 96)) wr) (fun j _ => xs[k].tries.length - (intOf j).toNat)
        case atStart => exact ⟨0, Nat.zero_le _, rfl, by simpa [triesL, headLineL] using hI4, hbr4⟩
        case round =>
          obtain ⟨q, hq, rfl, hIq, hbq⟩ := hrel
          have hbwr' : Below w.heap.size w wr := hbp.trans (hbq.mono hb1.size)
          have hwr' := hbq.size
          by_cases hqlt : q < xs[k].tries.length
          · obtain ⟨tb, toff, d0, d1, d2, rfl, htN, hR, hd0, hd1, hd2⟩ := rows3 htr q hqlt
            have hc0 := (hbwr'.cell (p := ⟨tb, toff + q * 3, none⟩) (Nat.lt_of_lt_of_le htN hN)).trans hd0
            have hc1 := (hbwr'.cell (p := ⟨tb, toff + q * 3 + 1, none⟩) (Nat.lt_of_lt_of_le htN hN)).trans hd1
            have hc2 := (hbwr'.cell (p := ⟨tb, toff + q * 3 + 2, none⟩) (Nat.lt_of_lt_of_le htN hN)).trans hd2
            clear hd0 hd1 hd2
            simp only [tryR, List.cons.injEq, and_true] at hR
            obtain ⟨rfl, rfl, rfl⟩ := hR
            have htok := Htok.out xs[k].tries[q] (List.getElem_mem hqlt)
            have hjr := joinRow_length _ htok
            have hjr4 := joinRow4_length _ htok
            have htl' := triesL_length (xs[k].tries.take q) (fun t ht => Htok.out t (List.mem_of_mem_take ht))
            have htsq := take_flatten_succ tryL xs[k].tries q hqlt
            have Htsq := Lib.hid htsq; clear htsq
            have hhl := headLineL_length xs[k].meter m0 (by omega)
            have hql : (xs[k].tries.take q).length ≤ 6 := by simp; omega
            have h57 : ∀ W, Below w.heap.size w W → Calls Tryz.prog 57 #[.agg #[.int .i64 xs[k].tries[q].flow, .int .i64 xs[k].tries[q].poured, .int .i64 xs[k].tries[q].shown]] W fun e w' => e = .returned (.agg #[str (wideL xs[k].tries[q].flow 6 32), str (wideL xs[k].tries[q].poured 7 32), str (wideL xs[k].tries[q].shown 7 32)]) ∧ Below W.heap.size W w' :=
              fun W hW => rowOf_any xs[k].tries[q] _ _ _ N W rfl htok (hE.later (hW.mono hN)) (by have := hW.size; omega)
            have H57 := Lib.hid h57; clear h57
            have HIq := Lib.hid hIq; clear hIq
            generalize htr0 : xs[k].tries[q] = t at *
            have hbw0 : Below w.heap.size w (wr.alloc (.cells #[.int .i64 t.flow, .int .i64 t.poured, .int .i64 t.shown] 101)) := hbwr'.alloc hbwr'.size _
            go_wp2_with (go_at_call 57; refine (H57.out _ hbw0).mono ?_; rintro e w5 ⟨rfl, hb5⟩; refine Hid.out ?_)
            have hb05 : Below wr.heap.size wr w5 := ((Below.refl _ _).alloc (Nat.le_refl _) _).trans (hb5.mono (by simp))
            refine Lib.hid ?_
            go_wp2_with fail
            have h58 : ∀ W, W.heap[w5.heap.size]? = some (.cells #[str (wideL t.flow 6 32), str (wideL t.poured 7 32), str (wideL t.shown 7 32)] 103 (0, 0)) →
                Calls Tryz.prog 58 #[.slice (some ⟨w5.heap.size, 0, none⟩) 3 3, .string ⟨#[32]⟩] W fun e w' => e = .returned (str (joinL (rowL t))) ∧ Below W.heap.size W w' := by
              intro W hW
              have h := Tryz.strings_Join w5.heap.size 0 3 [⟨(wideL t.flow 6 32).toArray⟩, ⟨(wideL t.poured 7 32).toArray⟩, ⟨(wideL t.shown 7 32).toArray⟩] ⟨#[32]⟩ W (by
                intro j x hx
                have hc := cell_of_block hW j
                match j, hx with
                | 0, hx => simp at hx; subst hx; simpa using hc
                | 1, hx => simp at hx; subst hx; simpa using hc
                | 2, hx => simp at hx; subst hx; simpa using hc) (block_lt hW) (by simp) (by simp) (by
                  unfold joinL rowL at hjr; simp only [List.map_cons, List.map_nil]; omega)
              exact h
            have H58 := Lib.hid h58; clear h58
            have h56' := fun W => check_any ⟨(joinL (rowL t)).toArray⟩ (by simp [ByteArray.size]; omega) W
            have H56' := Lib.hid h56'; clear h56'
            have Hhjr := Lib.hid hjr; clear hjr
            have h55 : ∀ W g c B', Below wr.heap.size wr W → W.ownsRow B' 9 1 (.slice (some ⟨g, 0, none⟩) 4 c) 4 [str (wideL t.flow 6 32), str (wideL t.poured 7 32), str (wideL t.shown 7 32), .string ⟨#[checkD (joinL (rowL t))]⟩] →
                Calls Tryz.prog 55 #[.pointer (some ⟨w1.heap.size, 0, none⟩), .slice (some ⟨g, 0, none⟩) 4 c] W fun e w' => e = .returned (.tuple #[]) ∧ IsPen w1.heap.size w1.heap.size (sheetsL (xs.take k) ++ headLineL xs[k].meter ++ triesL (xs[k].tries.take q) ++ tryL t) w' ∧ Below w1.heap.size W w' := by
              intro W g c B' hW hown
              have hlt := (hown.lt g rfl).2
              have hcc : 4 ≤ c := by
                rcases hown.2 with ⟨h, _⟩ | ⟨g', cap', cur, h, _, _, h4, _⟩
                · cases h
                · injection h with _ _ h3; subst h3; exact h4
              have hsz := hW.size
              refine (line_any w1.heap.size w1.heap.size g 0 c N _ (rowL t ++ [[checkD (joinL (rowL t))]]) W (HIq.out.later hW) (by simp at hwr' ⊢; omega) hlt (by
                intro j hj
                have hc := fun u hu => hown.cells (g := g) rfl j u hu
                match j, hj with
                | 0, _ => simpa [rowL, Addr.add] using hc _ rfl
                | 1, _ => simpa [rowL, Addr.add] using hc _ rfl
                | 2, _ => simpa [rowL, Addr.add] using hc _ rfl
                | 3, _ => simpa [rowL, Addr.add] using hc _ rfl) (by simpa [rowL] using hcc) (by simp [rowL]) (by simp only [List.length_append]; omega)).mono ?_
              rintro e w' ⟨rfl, h1, h2, h3⟩
              exact ⟨rfl, h1, h2⟩
            have H55 := Lib.hid h55; clear h55
            go_region_law (first
              | (go_simp; go_at_call 58; refine (H58.out _ (by exact block_new w5 _)).mono ?_; rintro e w7 ⟨rfl, hb7⟩)
              | (go_simp; go_at_call 56; refine (H56'.out _).mono ?_; rintro e w8 ⟨rfl, hb8⟩)
              | (go_simp; go_at_call 55
                 have e1 := (hb05.alloc hb05.size (.cells #[str (wideL t.flow 6 32), str (wideL t.poured 7 32), str (wideL t.shown 7 32)] 103)).drew
                 have e2 := e1.trans (hb7.mono e1.size)
                 have e3 := e2.trans (hb8.mono e2.size)
                 have e4 := (e3.alloc e3.size (.cells #[.string ⟨#[checkD (joinL (rowL t))]⟩] 9))
                 have e5 := e4.grown hgrow e4.size (by simp)
                 refine (H55.out w9 g' cap' _ e5 (by exact hown)).mono ?_
                 rintro e w10 ⟨rfl, hI10, hb10⟩
                 have hbq10 := (hbq.trans (e5.mono (by simp at hwr'; omega))).trans hb10
                 clear e1 e2 e3 e4 e5)
              | (have hq7 : w7.heap[w5.heap.size]? = some (.cells #[str (wideL t.flow 6 32), str (wideL t.poured 7 32), str (wideL t.shown 7 32)] 103 (0, 0)) := (hb7.block w5.heap.size (by simp)).trans (block_new w5 _)
                 have hq8 := block_below hq7 hb8 (block_lt hq7)
                 have hq9 := block_old hq8 (.cells #[.string ⟨#[checkD (joinL (rowL t))]⟩] 9)
                 have hq : ∀ b : Addr, some (⟨w5.heap.size, 0, none⟩ : Addr) = some b → ∀ j u, [str (wideL t.flow 6 32), str (wideL t.poured 7 32), str (wideL t.shown 7 32)][j]? = some u → (w8.alloc (.cells #[.string ⟨#[checkD (joinL (rowL t))]⟩] 9)).cell? (b.add j) = some u := three_cells hq9
                 refine step_append_grows rfl (.tmp 41) (.tmp 45) 105 rfl 9 i0 (.string ⟨#[]⟩) 1 16 Tryz.underlying105 hi hz0 hz1 hz2 rfl (by decide) (some ⟨w5.heap.size, 0, none⟩) 3 3 [str (wideL t.flow 6 32), str (wideL t.poured 7 32), str (wideL t.shown 7 32)] (by simp [Act.eval, Act.put]) (by simp) rfl hq ⟨w8.heap.size, 0, none⟩ 1 1 [.string ⟨#[checkD (joinL (rowL t))]⟩] (by simp [Act.eval, Act.put]) rfl (cell_one_new _ _ _) (by simp [Value.oneCell']) (by omega) (by unfold maxLen; omega) (by omega) ?_
                 intro v' w9 hown hgrow
                 obtain ⟨g', cap', rfl⟩ := ownsRow_succ hown
                 clear hq hq9 hq8 hq7))
            go_wp2
            go_roundw
            case rel =>
              refine ⟨q + 1, by omega, by go_num, ?_, hbq10⟩
              have h := Htsq.out
              unfold triesL at *
              rw [h]
              simpa using hI10
            case measure => simp [intOf]; omega
          · go_wp2_with fail
            go_roundw
            case rel =>
              obtain rfl : q = xs[k].tries.length := by omega
              refine ⟨k + 1, by omega, by go_num, ?_, hbq, fun h => by omega⟩
              unfold sheetsL at *
              rw [Hts.out]
              rw [List.take_length] at hIq
              simpa [sheetL] using hIq
            case measure => simp [intOf]; omega
      · obtain rfl : k = xs.length := by omega
        rw [List.take_length] at hI
        by_cases hnil : xs = []
        · subst hnil
          have hw0 := hfirst rfl
          clear hfirst
          subst hw0
          have h59 := penText_nil w1.heap.size w1.heap.size (.pointer none) (w1.alloc (.cells #[.pointer none, .slice none 0 0] 96)) (block_new w1 _)
          have H59 := Lib.hid h59; clear h59
          go_wp2_with (go_at_call 59; refine H59.out.mono ?_; rintro e w2 ⟨rfl, hb2⟩)
          go_ret2
          exact ⟨rfl, hbw.trans (hb2.mono hb1.size)⟩
        · have hne : sheetsL xs ≠ [] := by
            intro h
            obtain ⟨x, l, rfl⟩ := List.exists_cons_of_ne_nil hnil
            simp [sheetsL, sheetL, headLineL, lineL] at h
          have h59 := penText_some w1.heap.size w1.heap.size (sheetsL xs) wr hI hne
          have H59 := Lib.hid h59; clear h59 hne hfirst
          go_wp2_with (go_at_call 59; refine H59.out.mono ?_; rintro e w2 ⟨rfl, hb2⟩)
          go_ret2
          exact ⟨rfl, hbw.trans (hb2.mono hb1.size)⟩
  · have hz' : (sheetsErr xs != 0) = true := by simpa using hz
    rw [if_neg hz]
    generalize sheetsErr xs = q at *
    go_enter Tryz.func19, Tryz.ntmps19
    go_wp2_with (go_at_call 53; refine He.out.mono ?_; rintro e w1 ⟨rfl, hb1⟩)
    go_ret2
    exact ⟨rfl, hb1⟩
end Go.Proofs.YtjmhpfedglindaaGreatDoor
