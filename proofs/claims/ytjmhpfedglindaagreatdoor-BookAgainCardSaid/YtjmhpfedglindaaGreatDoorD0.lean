/- D0: growths and their words. -/
import Derived.Test.YtjmhpfedglindaaGreatDoorC1
import Derived.Test.YtjmhpfedglindaaGreatDoorT2
import Derived.RangeFuncBox
import Derived.BigQuiet
set_option linter.unusedVariables false
set_option linter.unusedSimpArgs false
namespace Go.Proofs.YtjmhpfedglindaaGreatDoor
open Go.RowKit

def Growth.enc (g : Growth) : List Value := [.int .i64 g.many, .int .i64 g.by_]
def encGs (gs : List Growth) : List Value := gs.flatMap Growth.enc
theorem encGs_length (gs : List Growth) : (encGs gs).length = gs.length * 2 := by
  induction gs with
  | nil => rfl
  | cons g gs ih => rw [show encGs (g :: gs) = Growth.enc g ++ encGs gs from rfl, List.length_append, ih]; simp only [Growth.enc, List.length_cons, List.length_nil]; omega
theorem encGs_snoc (gs : List Growth) (g : Growth) : encGs (gs ++ [g]) = encGs gs ++ [.int .i64 g.many, .int .i64 g.by_] := by simp [encGs, Growth.enc]
theorem encGs_at (gs gs' : List Growth) (g : Growth) : (encGs (gs ++ g :: gs'))[gs.length * 2]? = some (.int .i64 g.many) ∧ (encGs (gs ++ g :: gs'))[gs.length * 2 + 1]? = some (.int .i64 g.by_) := by
  have hl := encGs_length gs
  have e : encGs (gs ++ g :: gs') = encGs gs ++ ([.int .i64 g.many, .int .i64 g.by_] ++ encGs gs') := by simp [encGs, Growth.enc, List.flatMap_append]
  rw [e]
  refine ⟨?_, ?_⟩
  · rw [List.getElem?_append_right (by omega), hl]; simp
  · rw [List.getElem?_append_right (by omega), hl]; simp
theorem growths_take' (l : List Int) (k j : Nat) (hkj : k = j + 1) (h : k < l.length) : growthsL (l.take (k + 1)) = gstep (growthsL (l.take k)) (l[k] - l[j]'(by omega)) := by
  subst hkj; exact growths_take l j h
theorem infoGrowth : (Tryz.prog.info? 111).map (fun i => (i.zero, i.size, i.bytes)) = some (some (.agg #[.int .i64 0, .int .i64 0]), 2, 16) := by kernel_rfl

theorem encGs_set (gs : List Growth) (g : Growth) (n : Int) : (encGs (gs ++ [g])).set (gs.length * 2) (.int .i64 n) = encGs (gs ++ [⟨n, g.by_⟩]) := by
  rw [encGs_snoc, encGs_snoc, ← encGs_length gs]
  simp
theorem below_drewN {B : Nat} {a w : World} (h : Below B a w) (q : Nat) : Below B a (w.drewN q) := ⟨h.os, h.tape, h.output, h.size, h.block⟩
theorem underlying108 : Tryz.prog.underlying 108 = some (.slice 111) := by kernel_rfl
set_option maxRecDepth 100000 in
set_option maxHeartbeats 4000000 in
theorem growths_any (N : Nat) (xs : List Int) (a : Option Addr) (cap : Nat) (w : World) (hN : N ≤ w.heap.size) (hr : RowsR intR 1 N w a xs) (hl : xs.length ≤ 100) (hb : ∀ n ∈ xs, 0 ≤ n ∧ n ≤ 1073741824) :
    Calls Tryz.prog 62 #[.slice a xs.length cap] w fun e w' => ∃ v, e = .returned v ∧ w'.ownsRow w.heap.size 111 2 v (growthsL xs).length (encGs (growthsL xs)) ∧ Below w.heap.size w w' := by
  obtain ⟨i0, hi, hz0, hz1, hz2⟩ := info_parts infoGrowth
  have Hb := Lib.hid hb; clear hb
  go_enter Tryz.func62, Tryz.ntmps62
  go_wp2
  go_loopw [2, 8] (fun v i wr => ∃ k : Nat, k ≤ xs.length ∧ i = .int .i64 k ∧ ((growthsL (xs.take k)).length = 0 → v = .slice none 0 0) ∧ wr.ownsRow w.heap.size 111 2 v (growthsL (xs.take k)).length (encGs (growthsL (xs.take k))) ∧ Below w.heap.size w wr) (fun _ i _ => xs.length - (intOf i).toNat)
  case atStart => exact ⟨0, Nat.zero_le _, rfl, fun _ => rfl, by simpa [growths_small, encGs] using World.ownsRow_nil w w.heap.size 111 2, Below.refl _ _⟩
  case round =>
    obtain ⟨k, hk, rfl, hnil, hown, hbr⟩ := hrel
    have hwr := hbr.size
    by_cases hlt : k < xs.length
    · by_cases hk0 : k = 0
      · subst hk0
        go_wp2
        go_roundw
        case rel => exact ⟨0 + 1, by omega, by go_num, fun _ => hnil (by simp [growths_small]), by simpa [growths_small (xs.take 1) (by simp; omega), growths_small [] (by simp), encGs] using hown, hbr⟩
        case measure => simp [intOf]; omega
      · obtain ⟨j, hkj⟩ : ∃ j, k = j + 1 := ⟨k - 1, by omega⟩
        obtain ⟨b, off, c0, rfl, hbN, hR, hd0⟩ := rows1 hr k hlt
        obtain ⟨b', off', e0, hab, hbN', hR', he0⟩ := rows1 hr j (by omega)
        obtain ⟨rfl, rfl⟩ : b = b' ∧ off = off' := by simpa using hab
        simp only [intR, List.cons.injEq, and_true] at hR hR'
        subst hR hR'
        have gc0 : wr.cell? ⟨b, off + k, none⟩ = some (.int .i64 xs[k]) := (hbr.cell (p := ⟨b, off + k, none⟩) (by show b < _; omega)).trans hd0
        have gd0 : wr.cell? ⟨b, off + j, none⟩ = some (.int .i64 xs[j]) := (hbr.cell (p := ⟨b, off + j, none⟩) (by show b < _; omega)).trans he0
        have hgt := growths_take' xs k j hkj hlt
        have hgok := gok_growths xs Hb.out k hk
        have b1 := Hb.out xs[k] (List.getElem_mem _)
        have b2 := Hb.out xs[j] (List.getElem_mem _)
        have hz : (k : Int) ≠ 0 := by omega
        have hzb : ((k : Int) == 0) = false := by simpa using hz
        have hkt : ((k : Int) - 1).toNat = j := by omega
        have Hgok := Lib.hid hgok
        clear hgok hd0 he0 hab
        have Hgt := Lib.hid hgt
        clear hgt
        generalize xs[k] = n1 at *
        generalize xs[j] = n2 at *
        generalize growthsL (xs.take k) = gs at *
        go_wp2_with fail
        have hk1 : (0 : Int) ≤ (k : Int) - 1 := by omega
        have hk2 : (k : Int) - 1 < (xs.length : Int) := by omega
        have w2 : IntKind.i64.wrap (n1 - n2) = n1 - n2 := IntWalk.i64_in _ (by omega)
        have w1 : IntKind.i64.wrap ((k : Int) - 1) = (k : Int) - 1 := IntWalk.i64_in _ (by omega)
        clear hkj hzb hz
        go_quiet (fail)
        clear w1 w2
        have Hg := Hgok.out
        rcases List.eq_nil_or_concat gs with rfl | ⟨gs', g, rfl⟩
        · obtain rfl := hnil rfl
          have ho1 : (wr.drewN nq).ownsRow w.heap.size 111 2 (.slice none 0 0) 0 [] := hown
          go_wp2_with (at_builtin; refine wpList_append_own _ rfl _ _ 108 rfl w.heap.size 111 i0 (.agg #[.int .i64 0, .int .i64 0]) 2 16 underlying108 hi hz0 hz1 hz2 rfl (by decide) _ _ _ rfl (ho1.alloc _) ⟨wr.heap.size, 0, none⟩ 1 1 [.int .i64 1, .int .i64 (n1 - n2)] rfl rfl (cell_two_new _ _ _ _) (fun x hx => by simp at hx; rcases hx with rfl | rfl <;> rfl) (by unfold maxLen; omega) (by omega) (by simp; omega) ?_; intro v' w3 hown' hgrow3 hnil3)
          go_roundw
          case rel =>
            refine ⟨k + 1, by omega, by go_num, ?_, ?_, ?_⟩
            · rw [Hgt.out]; intro h; simp [gstep_nil] at h
            · rw [Hgt.out]; simpa [gstep_nil, encGs, Growth.enc] using hown'
            · exact Below.grown ((below_drewN hbr nq).alloc hwr _) hgrow3 (by simp; omega) (fun j hj => nomatch (hj : none = some j))
          case measure => simp [intOf]; omega
        · simp only [List.length_append, List.length_cons, List.length_nil, Nat.zero_add, List.concat_eq_append] at hown Hgt
          obtain ⟨gb, gc, rfl⟩ := ownsRow_succ hown
          obtain ⟨ea, eb⟩ := encGs_at gs' [] g
          have cA := (hown.cellAt (gs'.length * 2) (by omega)).trans ea
          have cB := (hown.cellAt (gs'.length * 2 + 1) (by omega)).trans eb
          have fA := hown.frozenAt (gs'.length * 2)
          have hgB := hown.lt gb rfl
          have ho1 : (wr.drewN nq).ownsRow w.heap.size 111 2 (.slice (some ⟨gb, 0, none⟩) (gs'.length + 1) gc) (gs'.length + 1) (encGs (gs' ++ [g])) := hown
          have hg1 := Hg.1
          have hg2 := Hg.2 g (by simp)
          simp only [List.length_append, List.length_cons, List.length_nil, Nat.zero_add, List.concat_eq_append] at hg1
          by_cases hby : g.by_ = n1 - n2
          · have Ho := Lib.hid ho1
            clear ho1 hown hnil
            go_wp2
            go_roundw
            case rel =>
              refine ⟨k + 1, by omega, by go_num, ?_, ?_, ?_⟩
              · rw [Hgt.out, gstep_snoc, if_pos hby]; intro h; simp at h
              · rw [Hgt.out, gstep_snoc, if_pos hby]
                have := (Ho.out.stored (gs'.length * 2) (.int .i64 (g.many + 1))).1
                rw [encGs_set, hby] at this
                simpa using this
              · exact (below_drewN hbr nq).setCell (p := ⟨gb, gs'.length * 2, none⟩) hgB.1 _
            case measure => simp [intOf]; omega
          · have hbb : (g.by_ == n1 - n2) = false := by simpa using hby
            have Ho := Lib.hid ho1
            clear ho1 hown hnil
            go_wp2_with (at_builtin; refine wpList_append_own _ rfl _ _ 108 rfl w.heap.size 111 i0 (.agg #[.int .i64 0, .int .i64 0]) 2 16 underlying108 hi hz0 hz1 hz2 rfl (by decide) _ _ _ rfl (Ho.out.alloc _) ⟨wr.heap.size, 0, none⟩ 1 1 [.int .i64 1, .int .i64 (n1 - n2)] rfl rfl (cell_two_new _ _ _ _) (fun x hx => by simp at hx; rcases hx with rfl | rfl <;> rfl) (by unfold maxLen; omega) (by omega) (by simp; omega) ?_; intro v' w3 hown' hgrow3 hnil3)
            go_roundw
            case rel =>
              refine ⟨k + 1, by omega, by go_num, ?_, ?_, ?_⟩
              · rw [Hgt.out, gstep_snoc, if_neg hby]; intro h; simp at h
              · rw [Hgt.out, gstep_snoc, if_neg hby, encGs_snoc (gs' ++ [g])]
                simpa using hown'
              · exact Below.grown ((below_drewN hbr nq).alloc hwr _) hgrow3 (by simp; omega) (fun j hj => by have hj' : some gb = some j := hj; injection hj' with hj'; omega)
            case measure => simp [intOf]; omega
    · go_wp2
      go_ret
      obtain rfl : k = xs.length := by omega
      rw [List.take_length] at hown
      exact ⟨_, rfl, hown, hbr⟩

set_option maxRecDepth 100000 in
set_option maxHeartbeats 4000000 in
theorem word_any (g : Growth) (N : Nat) (w : World) (h1 : 1 ≤ g.many ∧ g.many ≤ 1000) (h2 : -1073741824 ≤ g.by_ ∧ g.by_ ≤ 1073741824) (hN : N ≤ w.heap.size) (hE : Env N w) :
    Calls Tryz.prog 63 #[.agg #[.int .i64 g.many, .int .i64 g.by_]] w fun e w' => e = .returned (str (wordL g)) ∧ Below w.heap.size w w' := by
  obtain ⟨m, d⟩ := g
  simp only at h1 h2
  have h61 := fun W (hW : Below w.heap.size w W) => itoa_any d N W (by omega) (by omega) (hE.later (hW.mono hN))
  have H61 := Lib.hid h61; clear h61
  have hbw : Below w.heap.size w (w.alloc (.cells #[.int .i64 m, .int .i64 d] 111)) := (Below.refl _ _).alloc (Nat.le_refl _) _
  have hblk := block_new w (.cells #[.int .i64 m, .int .i64 d] 111)
  have e1 : (⟨(Lib.itoa m).toArray⟩ : ByteArray) ++ ⟨#[120]⟩ = ⟨(Lib.itoa m ++ [120]).toArray⟩ := str_append _ [120]
  have e2 : (⟨(Lib.itoa m ++ [120]).toArray⟩ : ByteArray) ++ ⟨(Lib.itoa d).toArray⟩ = ⟨(Lib.itoa m ++ [120] ++ Lib.itoa d).toArray⟩ := str_append _ _
  have l1 := Lib.itoa_length_le m (by omega) (by omega)
  have l2 := Lib.itoa_length_le d (by omega) (by omega)
  go_enter Tryz.func63, Tryz.ntmps63
  by_cases hm : m = 1
  · subst hm
    go_wp2_with (go_at_call 61; refine (H61.out _ hbw).mono ?_; rintro e w1 ⟨rfl, hb1⟩)
    go_ret
    exact ⟨by simp [wordL], hbw.trans (hb1.mono (by simp))⟩
  · have hmb : (m == 1) = false := by simpa using hm
    go_wp2_with fail
    generalize w.alloc (.cells #[.int .i64 m, .int .i64 d] 111) = w1 at *
    have hs1 := hbw.size
    have hlt := block_lt hblk
    have hi := fun (n : Int) (x : Later (w.heap.size + 1) w1) (h0 : -1073741824 ≤ n ∧ n ≤ 1073741824) => Calls.later_of (x := x) hlt (itoa_any n N x.val (by omega) (by omega) (hE.later ((hbw.mono hN).trans (x.below.mono (by omega)))))
    have Hi := Lib.hid hi; clear hi
    have gc0 : ∀ x : Later (w.heap.size + 1) w1, x.val.cell? ⟨w.heap.size, 0, none⟩ = some (.int .i64 m) := fun x => (x.below.cell (p := ⟨w.heap.size, 0, none⟩) (by show w.heap.size < _; omega)).trans (by simpa using cell_of_block hblk 0)
    have gc1 : ∀ x : Later (w.heap.size + 1) w1, x.val.cell? ⟨w.heap.size, 1, none⟩ = some (.int .i64 d) := fun x => (x.below.cell (p := ⟨w.heap.size, 1, none⟩) (by show w.heap.size < _; omega)).trans (by simpa using cell_of_block hblk 1)
    clear H61
    have Hblk := Lib.hid hblk; clear hblk
    refine wp_region_later (w.heap.size + 1) w1 (Below.refl _ _) (by kernel_rfl) (by kernel_rfl) ?_
    repeat (go_big_quiet_step (first | exact Hi.out m _ (by omega) | exact Hi.out d _ (by omega)))
    refine wpQuiet_nil ?_
    rintro _ ⟨x, rfl⟩
    go_wp2
    go_ret
    exact ⟨by simp [wordL, hm], hbw.trans (x.below.mono (by omega))⟩
end Go.Proofs.YtjmhpfedglindaaGreatDoor
