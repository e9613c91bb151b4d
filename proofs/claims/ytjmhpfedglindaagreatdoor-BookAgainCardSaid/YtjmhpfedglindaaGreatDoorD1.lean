/- D1: WritePages. -/
import Derived.Test.YtjmhpfedglindaaGreatDoorC2
import Derived.Test.YtjmhpfedglindaaGreatDoorD0
import Derived.Test.YtjmhpfedglindaaGreatDoorA5
import Derived.Deep.DeepCutAuto
set_option linter.unusedVariables false
set_option linter.unusedSimpArgs false
namespace Go.Proofs.YtjmhpfedglindaaGreatDoor
open Go.RowKit

theorem own_apart {w : World} {B1 B2 : Nat} {e1 e2 : TypeId} {s1 s2 : Nat} {v1 v2 : Value} {n1 n2 : Nat} {xs1 xs2 : List Value} (h1 : w.ownsRow B1 e1 s1 v1 n1 xs1) (h2 : w.ownsRow B2 e2 s2 v2 n2 xs2) (hne : e1 ≠ e2) :
    v1.ownBlock = none ∨ v1.ownBlock ≠ v2.ownBlock := by
  rcases h1.2 with ⟨rfl, _⟩ | ⟨g, cap, cur, rfl, hb, hg, _⟩
  · exact .inl rfl
  · refine .inr ?_
    rcases h2.2 with ⟨rfl, _⟩ | ⟨g', cap', cur', rfl, hb', hg', _⟩
    · simp [Value.ownBlock]
    · intro h
      have h : some g = some g' := h
      injection h with h
      subst h
      rw [hg] at hg'
      injection hg' with hg'
      injection hg' with _ h _
      exact hne h

theorem own_slice {w : World} {B : Nat} {e : TypeId} {s : Nat} {v : Value} {n : Nat} {xs : List Value} (h : w.ownsRow B e s v n xs) : ∃ a c, v = .slice a n c ∧ n ≤ c ∧ c ≤ 9223372036854775807 := by
  rcases h.2 with ⟨rfl, rfl⟩ | ⟨g, cap, cur, rfl, hb, hg, h1, h2, _⟩
  · exact ⟨_, _, rfl, Nat.le_refl _, by omega⟩
  · exact ⟨_, _, rfl, h1, h2⟩

theorem own_form {w : World} {B : Nat} {e : TypeId} {s : Nat} {v : Value} {n : Nat} {xs : List Value} (h : w.ownsRow B e s v n xs) (h0 : 0 < n) : ∃ g c, v = .slice (some ⟨g, 0, none⟩) n c := by
  rcases h.2 with ⟨rfl, rfl⟩ | ⟨g, cap, cur, rfl, _⟩
  · omega
  · exact ⟨_, _, rfl⟩
theorem firstL_one (l : List Int) (h : 0 < l.length) : firstL l = [Lib.itoa l[0]] := by
  cases l with
  | nil => cases h
  | cons a l => rfl
theorem firstL_le (l : List Int) : (firstL l).length ≤ 1 := by cases l <;> simp [firstL]
theorem underlying105 : Tryz.prog.underlying 105 = some (.slice 9) := by kernel_rfl
theorem encGs_get (gs : List Growth) (q : Nat) (h : q < gs.length) : (encGs gs)[q * 2]? = some (.int .i64 gs[q].many) ∧ (encGs gs)[q * 2 + 1]? = some (.int .i64 gs[q].by_) := by
  have e : gs = gs.take q ++ gs[q] :: gs.drop (q + 1) := by simp
  have h2 := encGs_at (gs.take q) (gs.drop (q + 1)) gs[q]
  rw [← e, List.length_take, Nat.min_eq_left (by omega)] at h2
  exact h2
theorem pagesL_snoc (xs : List Page) (k : Nat) (h : k < xs.length) : pagesL (xs.take (k + 1)) = pagesL (xs.take k) ++ pageL xs[k] := take_flatten_succ pageL xs k h

set_option maxRecDepth 100000 in
set_option maxHeartbeats 4000000 in
theorem writePages_any (N : Nat) (xs : List Page) (a : Option Addr) (cap : Nat) (w : World) (hN : N ≤ w.heap.size) (hr : RowsR pageR 2 N w a xs) (hl : xs.length ≤ 9223372036854775807) (hE : Env N w) :
    Calls Tryz.prog 20 #[.slice a xs.length cap] w fun e w' => e = .returned (.tuple #[str (if pagesErr xs = 0 then pagesL xs else []), .int .i64 (pagesErr xs)]) ∧ Below w.heap.size w w' := by
  have he := pageError_any N xs a cap w hN hr hl
  have He := Lib.hid he; clear he
  by_cases hz : pagesErr xs = 0
  · obtain ⟨hlen, hok⟩ := errOf_ok hz
    have Hz := Lib.hid hz
    rw [hz] at He ⊢
    rw [if_pos rfl]
    clear hz
    obtain ⟨i0, hi, hz0, hz1, hz2⟩ := info_parts infoStr
    go_enter Tryz.func20, Tryz.ntmps20
    go_wp2_with (go_at_call 60; refine He.out.mono ?_; rintro e w1 ⟨rfl, hb1⟩; refine Hid.out ?_)
    have hpen : IsPen w1.heap.size w1.heap.size [] (w1.alloc (.cells #[.pointer none, .slice none 0 0] 96)) := Lib.fresh_isBuilder 96 5 w1
    have hbp : Below w.heap.size w (w1.alloc (.cells #[.pointer none, .slice none 0 0] 96)) := hb1.alloc hb1.size _
    refine Lib.hid ?_
    go_wp2_with fail
    go_loopw [18] (fun i wr => ∃ k : Nat, k ≤ xs.length ∧ i = .int .i64 k ∧ IsPen w1.heap.size w1.heap.size (pagesL (xs.take k)) wr ∧ Below w1.heap.size (w1.alloc (.cells #[.pointer none, .slice none 0 0] 96)) wr ∧ (k = 0 → wr = w1.alloc (.cells #[.pointer none, .slice none 0 0] 96))) (fun i _ => xs.length - (intOf i).toNat)
    case atStart => exact ⟨0, Nat.zero_le _, rfl, hpen, Below.refl _ _, fun _ => rfl⟩
    case round =>
      obtain ⟨k, hk, rfl, hI, hbr, hfirst⟩ := hrel
      have hbw : Below w.heap.size w wr := hbp.trans (hbr.mono hb1.size)
      have hwr := hbr.size
      by_cases hlt : k < xs.length
      · obtain ⟨sb, soff, c0, c1, rfl, hsN, hR, hd0, hd1⟩ := rows2 hr k hlt
        have hc0 := (hbw.cell (p := ⟨sb, soff + k * 2, none⟩) (Nat.lt_of_lt_of_le hsN hN)).trans hd0
        have hc1 := (hbw.cell (p := ⟨sb, soff + k * 2 + 1, none⟩) (Nat.lt_of_lt_of_le hsN hN)).trans hd1
        clear hd0 hd1
        obtain ⟨ta, tcap, hcs, htl, htc, htr⟩ := hR
        simp only [List.cons.injEq, and_true] at hcs
        obtain ⟨rfl, rfl⟩ := hcs
        have hxok := hok xs[k] (List.getElem_mem hlt)
        obtain ⟨m0, m1, hn16, hrok⟩ := Page.bounds hxok
        have hpb := pageWords_bd xs[k] hxok
        have h61 := fun W n (h0 : -1073741824 ≤ n ∧ n ≤ 1073741824) (hW : Below w.heap.size w W) => itoa_any n N W (by omega) (by omega) (hE.later (hW.mono hN))
        have H61 := Lib.hid h61; clear h61
        have hts := pagesL_snoc xs k hlt
        have hpl := pagesL_length (xs.take k) (fun x hx => hok x (List.mem_of_mem_take hx))
        have hxl := pageL_length xs[k] hxok
        have hpk : (xs.take k).length = k := by simp; omega
        rw [hpk] at hpl
        have Hts := Lib.hid hts; clear hts
        have Hfirst := Lib.hid hfirst; clear hfirst hpk hpen
        have Hok := Lib.hid hok; clear hok hxok
        have Hrok := Lib.hid hrok; clear hrok
        have Hpb := Lib.hid hpb; clear hpb
        generalize xs[k] = x at *
        have hbw0 := hbw.alloc hbw.size (.cells #[.int .i64 x.house, .slice ta x.readings.length tcap] 49)
        have HI := Lib.hid hI; clear hI
        have hbox := block_new wr (.cells #[.int .i64 x.house, .slice ta x.readings.length tcap] 49)
        go_upto_if 29 with (go_at_call 61; refine (H61.out _ _ (by omega) hbw0).mono ?_; rintro e w2 ⟨rfl, hb2⟩; refine Hid.out ?_)
        have hbox2 := block_below hbox hb2 (block_lt hbox)
        have hb02 : Below wr.heap.size wr w2 := ((Below.refl _ _).alloc (Nat.le_refl _) _).trans (hb2.mono (by simp))
        have hs2 : wr.heap.size < w2.heap.size := block_lt hbox2
        have x0 := cell_of_block hbox2 0
        have x1 := cell_of_block hbox2 1
        simp at x0 x1
        have own1 : (w2.alloc (.cells #[str (Lib.itoa x.house)] 9)).ownsRow (wr.heap.size + 1) 9 1 (.slice (some ⟨w2.heap.size, 0, none⟩) 1 1) 1 [str (Lib.itoa x.house)] := World.ownsRow_lit w2 _ 1 (by omega) (by unfold maxLen; omega) rfl
        have Hbox2 := Lib.hid hbox2
        clear hbox2 hbox hc0 hc1 hbw0 hb2
        refine Lib.hid ?_
        go_upto_if 29 with fail
        go_cut [8] (fun s8 wx => Below wr.heap.size wr wx ∧ wx.heap[wr.heap.size]? = some (.cells #[.int .i64 x.house, .slice ta x.readings.length tcap] 49 (0, 0)) ∧ wx.ownsRow (wr.heap.size + 1) 9 1 s8 (1 + (firstL x.readings).length) ((Lib.itoa x.house :: firstL x.readings).map str))
        case first =>
          by_cases hrl : x.readings.length = 0
          · have hf : firstL x.readings = [] := by rw [List.length_eq_zero_iff.1 hrl]; rfl
            go_wp2_with fail
            go_meet
            exact ⟨hb02.alloc (by omega) _, block_old Hbox2.out _, by rw [hf]; exact own1⟩
          · have hpos : 0 < x.readings.length := by omega
            obtain ⟨rb, roff, c0, rfl, hrN, hR, hd0⟩ := rows1 htr 0 hpos
            simp only [intR, List.cons.injEq, and_true] at hR
            subst hR
            have hf := firstL_one x.readings hpos
            have hr0 := Hrok.out x.readings[0] (List.getElem_mem _)
            generalize x.readings[0] = r0 at *
            have hbw2 : Below w.heap.size w w2 := hbw.trans (hb02.mono hbw.size)
            have hc0 := (hbw2.cell (p := ⟨rb, roff + 0, none⟩) (Nat.lt_of_lt_of_le hrN hN)).trans hd0
            have h61 := H61.out (w2.alloc (.cells #[str (Lib.itoa x.house)] 9)) r0 (by omega) (hbw2.alloc hbw2.size _)
            have H61' := Lib.hid h61; clear h61
            have hrw : rb < w2.heap.size := Nat.lt_of_lt_of_le hrN (Nat.le_trans hN hbw2.size)
            have hdt : decide ((0 : Int) < (x.readings.length : Int)) = true := decide_eq_true (by omega)
            clear hd0
            simp only [Nat.add_zero] at hc0
            have Own1 := Lib.hid own1; clear own1
            go_wp2_with (first
              | (go_at_call 61; refine H61'.out.mono ?_; rintro e w3 ⟨rfl, hb3⟩)
              | (at_builtin; refine wpList_append_own _ rfl _ _ 105 rfl (wr.heap.size + 1) 9 i0 (.string ⟨#[]⟩) 1 16 underlying105 hi hz0 hz1 hz2 rfl (by decide) _ _ _ rfl ((own_later Own1.out hb3).alloc _) ⟨w3.heap.size, 0, none⟩ 1 1 [str (Lib.itoa r0)] rfl rfl (cell_one_new _ _ _) (fun x hx => by simp at hx; subst hx; rfl) (by unfold maxLen; omega) (by omega) (by have := hb3.size; simp at *; omega) ?_; intro v' w4 hown4 hgrow4 hnil4))
            go_meet
            have hs3 := hb3.size
            simp at hs3
            have e3 : Below wr.heap.size wr w3 := (hb02.alloc (by omega) _).trans (hb3.mono (by simp; omega))
            refine ⟨Below.grown (e3.alloc e3.size _) hgrow4 (by simp; omega) (fun j hj => ?_), ?_, ?_⟩
            · have hj' : some w2.heap.size = some j := hj
              injection hj' with hj'; omega
            · rw [hgrow4.block wr.heap.size (by simp; omega) (by intro h; have h' : some wr.heap.size = some w2.heap.size := h; injection h' with h'; omega)]
              exact block_old (block_below (block_old Hbox2.out _) hb3 (by simp; omega)) _
            · rw [hf]; exact hown4
        case rest =>
          obtain ⟨hbx, hboxx, howx⟩ := hcut
          have hsx := hbx.size
          have x0 := cell_of_block hboxx 0
          have x1 := cell_of_block hboxx 1
          simp at x0 x1
          have hbwx : Below w.heap.size w wc := hbw.trans (hbx.mono hbw.size)
          have h62 := growths_any N x.readings ta tcap wc (Nat.le_trans hN hbwx.size) (htr.later (hbwx.mono hN)) (by omega) Hrok.out
          have H62 := Lib.hid h62; clear h62
          have HIc := Lib.hid (HI.out.later hbx)
          have Howx := Lib.hid howx; clear howx
          clear Hbox2 hb02 hs2 own1
          go_wp2_with (go_at_call 62; refine H62.out.mono ?_; rintro e w3 ⟨vg, rfl, hog, hb3⟩; refine Hid.out ?_)
          have hgk := gok_growths x.readings Hrok.out x.readings.length (Nat.le_refl _)
          rw [List.take_length] at hgk
          obtain ⟨ga, gcap, rfl, hgc, hgm⟩ := own_slice hog
          obtain ⟨hgl, hgs⟩ := hgk
          have Hgs := Lib.hid hgs; clear hgs
          have How3 := Lib.hid (own_later Howx.out hb3)
          have hI3 := HIc.out.later hb3
          have hb3' := hbx.trans (hb3.mono hsx)
          have Hog := Lib.hid hog; clear hog
          generalize hgg : growthsL x.readings = gs at *
          obtain ⟨wo, rfl⟩ : ∃ wo : World, wo = wr := ⟨_, rfl⟩
          have Hboxx := Lib.hid hboxx; clear hboxx x0 x1
          refine Lib.hid ?_
          go_wp2_with fail
          go_loopw [8, 42] (fun v j wr => ∃ q : Nat, q ≤ gs.length ∧ j = .int .i64 q ∧ wr.ownsRow (wo.heap.size + 1) 9 1 v (1 + (firstL x.readings).length + q) ((Lib.itoa x.house :: (firstL x.readings ++ (gs.take q).map wordL)).map str) ∧ wr.ownsRow wc.heap.size 111 2 (.slice ga gs.length gcap) gs.length (encGs gs) ∧ Below wo.heap.size wo wr) (fun _ j _ => gs.length - (intOf j).toNat)
          case atStart => exact ⟨0, Nat.zero_le _, rfl, by simpa using How3.out, Hog.out, hb3'⟩
          case round =>
            obtain ⟨q, hq, rfl, hoq, hgq, hbq⟩ := hrel
            have hwr' := hbq.size
            by_cases hqlt : q < gs.length
            · obtain ⟨gb, c', eg⟩ := own_form hgq (by omega)
              obtain rfl : ga = some ⟨gb, 0, none⟩ := by injection eg
              obtain ⟨ea, eb⟩ := encGs_get gs q hqlt
              have cA := (hgq.cellAt (q * 2) (by omega)).trans ea
              have cB := (hgq.cellAt (q * 2 + 1) (by omega)).trans eb
              have hgB := hgq.lt gb rfl
              have hgo := Hgs.out gs[q] (List.getElem_mem _)
              have htk : gs.take (q + 1) = gs.take q ++ [gs[q]] := List.take_succ_eq_append_getElem hqlt
              have Htk := Lib.hid htk; clear htk
              have hbwr' : Below w.heap.size w wr := hbw.trans (hbq.mono hbw.size)
              have hbwa := hbwr'.alloc hbwr'.size (.cells #[.int .i64 gs[q].many, .int .i64 gs[q].by_] 111)
              have h63 := word_any gs[q] N (wr.alloc (.cells #[.int .i64 gs[q].many, .int .i64 gs[q].by_] 111)) (by omega) (by omega) (by have := hbwa.size; omega) (hE.later (hbwa.mono hN))
              have H63 := Lib.hid h63; clear h63
              have hap := own_apart hgq hoq (by decide)
              have Hgq := Lib.hid hgq; clear hgq
              have Hoq := Lib.hid hoq; clear hoq
              clear eg ea eb Howx
              have hfl := firstL_le x.readings
              generalize gs[q] = g at *
              go_wp2_with (go_at_call 63; refine H63.out.mono ?_; rintro e w5 ⟨rfl, hb5⟩; refine Hid.out ?_)
              have hb05 : Below wr.heap.size wr w5 := ((Below.refl _ _).alloc (Nat.le_refl _) _).trans (hb5.mono (by simp))
              have How5 := Lib.hid (own_later Hoq.out hb05)
              have Hog5 := Lib.hid (own_later Hgq.out hb05)
              have hs5 := hb05.size
              refine Lib.hid ?_
              go_wp2_with (at_builtin; refine wpList_append_own _ rfl _ _ 105 rfl (wo.heap.size + 1) 9 i0 (.string ⟨#[]⟩) 1 16 underlying105 hi hz0 hz1 hz2 rfl (by decide) _ _ _ rfl (How5.out.alloc _) ⟨w5.heap.size, 0, none⟩ 1 1 [str (wordL g)] rfl rfl (cell_one_new _ _ _) (fun x hx => by simp at hx; subst hx; rfl) (by unfold maxLen; omega) (by omega) (by simp; omega) ?_; intro v' w6 hown6 hgrow6 hnil6)
              go_roundw
              case rel =>
                refine ⟨q + 1, by omega, by go_num, ?_, ?_, ?_⟩
                · rw [Htk.out]; simpa [Nat.add_assoc] using hown6
                · exact (Hog5.out.alloc _).kept hgrow6 hap
                · exact Below.grown ((hbq.trans (hb05.mono hwr')).alloc (by omega) _) hgrow6 (by simp; omega) (fun j hj => by have := (How5.out.lt j hj).1; omega)
              case measure => simp [intOf]; omega
            · obtain rfl : q = gs.length := by omega
              rw [List.take_length] at hoq
              have hpw : Lib.itoa x.house :: (firstL x.readings ++ gs.map wordL) = pageWords x := by unfold pageWords; rw [hgg]
              rw [hpw] at hoq
              have hlw : (pageWords x).length = 1 + (firstL x.readings).length + gs.length := by rw [← hpw]; simp; omega
              rw [← hlw] at hoq
              obtain ⟨hp1, hp2⟩ := Hpb.out
              obtain ⟨wb, wcap, rfl⟩ := own_form hoq (by omega)
              have hwB := hoq.lt wb rfl
              have hwc : (pageWords x).length ≤ wcap := by
                obtain ⟨_, _, h1, h2, _⟩ := own_slice hoq
                injection h1 with _ _ h3; subst h3; exact h2
              have h55 := line_any w1.heap.size w1.heap.size wb 0 wcap N (pagesL (xs.take k)) (pageWords x) wr (HI.out.later hbq) (by simp at hwr; omega) hwB.2 (by
                intro j hj
                have := hoq.cellAt j (by omega)
                rw [Nat.zero_add, this]; simp [hj]) hwc (by omega) (by unfold pageL lineL at hxl; simp at hxl; omega)
              have H55 := Lib.hid h55; clear h55
              clear hoq hgq hlw hpw
              go_wp2_with (go_at_call 55; refine H55.out.mono ?_; rintro e w4 ⟨rfl, hI4, hb4, hk4⟩)
              go_roundw
              case rel => exact ⟨k + 1, by omega, by go_num, by rw [Hts.out]; exact hI4, (hbr.trans (hbq.mono (by simp at hwr; omega))).trans hb4, fun h => by omega⟩
              case measure => simp [intOf]; omega
      · obtain rfl : k = xs.length := by omega
        rw [List.take_length] at hI
        by_cases hnil : xs = []
        · subst hnil
          have hw0 := hfirst rfl
          clear hfirst
          subst hw0
          have h59 := penText_nil w1.heap.size w1.heap.size (.pointer none) (w1.alloc (.cells #[.pointer none, .slice none 0 0] 96)) (block_new w1 _)
          have H59 := Lib.hid h59; clear h59
          go_wp2_with (go_at_call 59; refine H59.out.mono ?_; rintro e w2 ⟨rfl, hb2⟩)
          go_ret2
          exact ⟨rfl, hbw.trans (hb2.mono hb1.size)⟩
        · have hne : pagesL xs ≠ [] := by
            intro h
            obtain ⟨x, l, rfl⟩ := List.exists_cons_of_ne_nil hnil
            simp [pagesL, pageL, lineL] at h
          have h59 := penText_some w1.heap.size w1.heap.size (pagesL xs) wr hI hne
          have H59 := Lib.hid h59; clear h59 hne hfirst
          go_wp2_with (go_at_call 59; refine H59.out.mono ?_; rintro e w2 ⟨rfl, hb2⟩)
          go_ret2
          exact ⟨rfl, hbw.trans (hb2.mono hb1.size)⟩
  · have hz' : (pagesErr xs != 0) = true := by simpa using hz
    rw [if_neg hz]
    generalize pagesErr xs = q at *
    go_enter Tryz.func20, Tryz.ntmps20
    go_wp2_with (go_at_call 60; refine He.out.mono ?_; rintro e w1 ⟨rfl, hb1⟩)
    go_ret2
    exact ⟨rfl, hb1⟩
end Go.Proofs.YtjmhpfedglindaaGreatDoor
