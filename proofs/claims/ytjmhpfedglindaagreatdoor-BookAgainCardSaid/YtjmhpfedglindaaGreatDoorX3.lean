/- X3: ReadPages's inner function. -/
import Derived.Test.YtjmhpfedglindaaGreatDoorX2
set_option linter.unusedVariables false
set_option linter.unusedSimpArgs false
namespace Go.Proofs.YtjmhpfedglindaaGreatDoor
open Go.RowKit

/-- What a call owns: a row of elements of two cells, a number and a slice of an own row each. -/
def Nest {α : Type} (e ie isz : Nat) (hd : α → Int) (il : α → Nat) (iv : α → List Value) (B : Nat) (w : World) (v : Value) (xs : List α) : Prop :=
  ∃ cs, w.ownsRow B e 2 v xs.length cs ∧ ∀ j (hj : j < xs.length), ∃ va, cs[j * 2]? = some (.int .i64 (hd xs[j])) ∧ cs[j * 2 + 1]? = some va ∧ w.ownsRow B ie isz va (il xs[j]) (iv xs[j])
section
variable {α : Type} {e ie isz : Nat} {hd : α → Int} {il : α → Nat} {iv : α → List Value} {B : Nat} {w : World} {v : Value} {xs : List α}
theorem Nest.nil : Nest e ie isz hd il iv B w (.slice none 0 0) ([] : List α) := ⟨[], World.ownsRow_nil _ _ _ _, fun j hj => by cases hj⟩
theorem Nest.le {B' : Nat} (h : Nest e ie isz hd il iv B w v xs) (hb : B' ≤ B) : Nest e ie isz hd il iv B' w v xs := by
  obtain ⟨cs, h1, h2⟩ := h
  refine ⟨cs, own_le h1 hb, fun j hj => ?_⟩
  obtain ⟨va, a, b, c⟩ := h2 j hj
  exact ⟨va, a, b, own_le c hb⟩
theorem Nest.slice (h : Nest e ie isz hd il iv B w v xs) : ∃ a n c, v = .slice a n c := by
  obtain ⟨cs, h1, _⟩ := h
  obtain ⟨a, c, rfl, _⟩ := own_slice h1
  exact ⟨a, _, c, rfl⟩
theorem Nest.set (h : Nest e ie isz hd il iv B w v xs) {a : Addr} (ha : a.block < B) (u : Value) : Nest e ie isz hd il iv B (w.setCell a u) v xs := by
  obtain ⟨cs, h1, h2⟩ := h
  refine ⟨cs, ownsRow_setCell_below h1 ha u, fun j hj => ?_⟩
  obtain ⟨va, a1, b1, c1⟩ := h2 j hj
  exact ⟨va, a1, b1, ownsRow_setCell_below c1 ha u⟩
theorem Nest.later {W : World} (h : Nest e ie isz hd il iv B w v xs) (hb : Below w.heap.size w W) : Nest e ie isz hd il iv B W v xs := by
  obtain ⟨cs, h1, h2⟩ := h
  refine ⟨cs, own_later h1 hb, fun j hj => ?_⟩
  obtain ⟨va, a, b, c⟩ := h2 j hj
  exact ⟨va, a, b, own_later c hb⟩
theorem Nest.snoc {w' : World} {cs : List Value} {v' va : Value} {x : α} (hne : ie ≠ e) (h1 : w.ownsRow B e 2 v xs.length cs) (h2 : ∀ j (hj : j < xs.length), ∃ va, cs[j * 2]? = some (.int .i64 (hd xs[j])) ∧ cs[j * 2 + 1]? = some va ∧ w.ownsRow B ie isz va (il xs[j]) (iv xs[j]))
    (hx : w.ownsRow B ie isz va (il x) (iv x)) (hg : w.grownBy w' v.ownBlock) (h' : w'.ownsRow B e 2 v' (xs.length + 1) (cs ++ [.int .i64 (hd x), va])) : Nest e ie isz hd il iv B w' v' (xs ++ [x]) := by
  refine ⟨cs ++ [.int .i64 (hd x), va], by rw [List.length_append]; exact h', fun j hj => ?_⟩
  rw [List.length_append, List.length_singleton] at hj
  have hl := h1.1
  by_cases hlt : j < xs.length
  · obtain ⟨u, a, b, c⟩ := h2 j hlt
    refine ⟨u, ?_, ?_, ?_⟩
    · rw [List.getElem?_append_left (by omega), a, List.getElem_append_left hlt]
    · rw [List.getElem?_append_left (by omega), b]
    · rw [List.getElem_append_left hlt]
      exact c.kept hg (own_apart c h1 hne)
  · obtain rfl : j = xs.length := by omega
    refine ⟨va, ?_, ?_, ?_⟩
    · rw [List.getElem?_append_right (by omega), hl]; simp
    · rw [List.getElem?_append_right (by omega), hl]; simp
    · simp only [List.getElem_append_right (Nat.le_refl _), Nat.sub_self, List.getElem_cons_zero]
      exact hx.kept hg (own_apart hx h1 hne)
end
abbrev NestP := Nest (α := Page) 49 3 1 Page.house (fun x => x.readings.length) (fun x => intsV x.readings)
theorem ints_rows {w : World} {B : Nat} {a : Option Addr} {n cap : Nat} {l : List Int} (h : w.ownsRow B 3 1 (.slice a n cap) l.length (intsV l)) (N : Nat) (hN : w.heap.size ≤ N) : n = l.length ∧ RowsR intR 1 N w a l := by
  rcases h.2 with ⟨h1, h2⟩ | ⟨g, cap', cur, h1, hb, hg, _⟩
  · injection h1 with h3 h4 h5
    exact ⟨by omega, fun j hj => by omega⟩
  · injection h1 with h3 h4 h5
    subst h3 h4 h5
    refine ⟨rfl, fun j hj => ⟨g, 0, [.int .i64 l[j]], rfl, by have := block_lt hg; omega, rfl, rfl, fun i hi => ?_⟩⟩
    obtain rfl : i = 0 := by omega
    have := h.cellAt j (by omega)
    rw [Nat.zero_add, Nat.mul_one, Nat.add_zero, this]
    simp [intsV, hj]
theorem nest_rows {w : World} {B : Nat} {a : Option Addr} {n cap : Nat} {xs : List Page} (h : NestP B w (.slice a n cap) xs) (N : Nat) (hN : w.heap.size ≤ N) : n = xs.length ∧ RowsR pageR 2 N w a xs := by
  obtain ⟨cs, h1, h2⟩ := h
  have h1' := h1
  rcases h1'.2 with ⟨e1, e2⟩ | ⟨g, cap', cur, e1, hb, hg, _⟩
  · injection e1 with h3 h4 h5
    exact ⟨by omega, fun j hj => by omega⟩
  · injection e1 with h3 h4 h5
    subst h3 h4 h5
    refine ⟨rfl, fun j hj => ?_⟩
    obtain ⟨va, a1, a2, a3⟩ := h2 j hj
    obtain ⟨ia, ic, rfl, hc1, hc2⟩ := own_slice a3
    obtain ⟨_, hr⟩ := ints_rows a3 N hN
    have hj2 : (j + 1) * 2 ≤ xs.length * 2 := Nat.mul_le_mul_right 2 hj
    refine ⟨g, 0, [.int .i64 xs[j].house, .slice ia xs[j].readings.length ic], rfl, by have := block_lt hg; omega, ⟨ia, ic, rfl, hc1, hc2, hr⟩, rfl, fun i hi => ?_⟩
    match i, hi with
    | 0, _ => rw [Nat.zero_add, Nat.add_zero, h1.cellAt (j * 2) (by omega), a1]; rfl
    | 1, _ => rw [Nat.zero_add, h1.cellAt (j * 2 + 1) (by omega), a2]; rfl
theorem infoPage : (Tryz.prog.info? 49).map (fun i => (i.zero, i.size, i.bytes)) = some (some (.agg #[.int .i64 0, .slice none 0 0]), 2, 32) := by kernel_rfl

theorem page_good {l : List UInt8} {x : Page} (h : pageP l = some x) (hl : l.length ≤ 100000) (N : Nat) (w : World) (hE : Env N w) (hN : N ≤ w.heap.size) :
    Calls Tryz.prog 68 #[str l] w fun e w' => ∃ va, e = .returned (.agg #[.int .i64 x.house, va]) ∧ w'.ownsRow w.heap.size 3 1 va x.readings.length (intsV x.readings) ∧ Below w.heap.size w w' :=
  (page_walk l hl N w hE hN).mono fun _ _ ⟨h1, _, h3⟩ => by obtain ⟨va, a, b⟩ := h1 x h; exact ⟨va, a, b, h3⟩
theorem page_bad {l : List UInt8} (h : pageP l = none) (hl : l.length ≤ 100000) (N : Nat) (w : World) (hE : Env N w) (hN : N ≤ w.heap.size) :
    Calls Tryz.prog 68 #[str l] w fun e w' => e = .panicked misfit ∧ Below w.heap.size w w' :=
  (page_walk l hl N w hE hN).mono fun _ _ ⟨_, h2, h3⟩ => ⟨h2 h, h3⟩

set_option maxRecDepth 100000 in
set_option maxHeartbeats 4000000 in
theorem readPg1_any (N : Nat) (t : List UInt8) (bx : Nat) (w : World) (ht : t.length ≤ 99999) (hN : N ≤ w.heap.size) (hE : Env N w) (hbx : w.cell? ⟨bx, 0, none⟩ = some (str t)) :
    Calls Tryz.prog 66 #[.pointer (some ⟨bx, 0, none⟩)] w fun e W' => (∀ xs, readPg t = some xs → ∃ v, e = .returned v ∧ NestP w.heap.size W' v xs) ∧ (readPg t = none → e = .panicked misfit) ∧ Below w.heap.size w W' := by
  obtain ⟨i0, ihi, ihz0, ihz1, ihz2⟩ := info_parts infoPage
  have h67 := lines_walk t (by omega) N w hE
  have H67 := Lib.hid h67; clear h67
  have hrd : readPg t = match linesP t with
    | none => none
    | some ls => match pagesA [] ls with | none => none | some xs => if pagesErr xs = 0 then some xs else none := rfl
  cases hls : linesP t with
  | none =>
    rw [hls] at hrd
    dsimp only at hrd
    have Hrd := Lib.hid hrd; clear hrd
    have Hls := Lib.hid hls; clear hls
    go_enter Tryz.func66, Tryz.ntmps66
    go_wp2_with (go_at_call 67; refine H67.out.mono ?_; rintro e w1 ⟨_, hp, hb1⟩; obtain rfl := hp Hls.out)
    exact ⟨rfl, ⟨fun xs hx => (by rw [Hrd.out] at hx; cases hx), fun _ => rfl, hb1⟩⟩
  | some ls =>
    rw [hls] at hrd
    dsimp only at hrd
    have Hrd := Lib.hid hrd; clear hrd
    have hll : ls.length ≤ 100000 ∧ ∀ p ∈ ls, p.length ≤ 100000 := by
      unfold linesP at hls
      split at hls
      · injection hls with hls; subst hls; exact ⟨by simp, by simp⟩
      · split at hls
        · injection hls with hls
          subst hls
          have h1 := countB_bd 10 t.dropLast
          have h2 := parts_len 10 t.dropLast
          rw [List.length_dropLast] at h1 h2
          exact ⟨by omega, fun p hp => by have := h2 p hp; omega⟩
        · cases hls
    have hln := hll.1
    have Hlp := Lib.hid hll.2; clear hll
    have Hls := Lib.hid hls; clear hls
    go_enter Tryz.func66, Tryz.ntmps66
    go_wp2_with (go_at_call 67; refine H67.out.mono ?_; rintro e w1 ⟨hg, _, hb1⟩; obtain ⟨la, lc, rfl, hr1, _⟩ := hg ls Hls.out; refine Hid.out ?_)
    have hs1 := hb1.size
    have hE1 := hE.later (hb1.mono hN)
    refine Lib.hid ?_
    go_wp2_with fail
    go_loopw [1, 7] (fun v i wr => ∃ (acc : List Page), acc.length ≤ ls.length ∧ i = .int .i64 acc.length ∧ pagesA [] ls = pagesA acc (ls.drop acc.length) ∧ NestP w1.heap.size wr v acc ∧ Below w1.heap.size w1 wr) (fun _ i _ => ls.length - (intOf i).toNat)
    case atStart => exact ⟨[], Nat.zero_le _, rfl, rfl, Nest.nil, Below.refl _ _⟩
    case round =>
      obtain ⟨acc, hk, rfl, hP, hnest, hbr⟩ := hrel
      obtain ⟨v, rfl⟩ : ∃ v : Value, v = u1 := ⟨_, rfl⟩
      have hwr := hbr.size
      have hbw : Below w.heap.size w wr := hb1.trans (hbr.mono hs1)
      by_cases hlt : acc.length < ls.length
      · have hdk : ls.drop acc.length = ls[acc.length] :: ls.drop (acc.length + 1) := List.drop_eq_getElem_cons hlt
        rw [hdk, pagesA] at hP
        obtain ⟨b1, o1, c0, rfl, hbN, hR, hc⟩ := rows1 hr1 acc.length hlt
        simp only [strR, List.cons.injEq, and_true] at hR
        subst hR
        have hcw := (hbr.cell (p := ⟨b1, o1 + acc.length, none⟩) hbN).trans hc
        have hlk := Hlp.out ls[acc.length] (List.getElem_mem _)
        have hE2 := hE1.later (hbr.mono (by omega))
        cases hp : pageP ls[acc.length] with
        | none =>
          rw [hp] at hP
          dsimp only at hP
          have h68 := page_bad hp hlk N wr hE2 (by omega)
          have H68 := Lib.hid h68; clear h68 hp
          have hfin := Hrd.out
          rw [hP] at hfin
          have Hfin := Lib.hid hfin; clear hfin hP hdk
          have Hnest := Lib.hid hnest; clear hnest
          generalize ls[acc.length] = u at *
          go_wp2_with (go_at_call 68; refine H68.out.mono ?_; rintro e w4 ⟨rfl, hb4⟩)
          exact ⟨rfl, ⟨fun xs hx => (by rw [Hfin.out] at hx; cases hx), fun _ => rfl, hbw.trans (hb4.mono (by omega))⟩⟩
        | some x =>
          rw [hp] at hP
          dsimp only at hP
          have h68 := page_good hp hlk N wr hE2 (by omega)
          have H68 := Lib.hid h68; clear h68 hp
          have HP := Lib.hid hP; clear hP hdk
          have Hnest := Lib.hid hnest; clear hnest
          generalize ls[acc.length] = u at *
          go_wp2_with (go_at_call 68; refine H68.out.mono ?_; rintro e w4 ⟨va, rfl, hva, hb4⟩; refine Hid.out ?_)
          have hn4 := Hnest.out.later hb4
          obtain ⟨cs, hc1, hc2⟩ := hn4
          have hs4 := hb4.size
          obtain ⟨va1, vc1, rfl, _, _⟩ := own_slice hva
          have Hva := Lib.hid hva; clear hva
          have Hc1 := Lib.hid hc1; clear hc1
          have Hc2 := Lib.hid hc2; clear hc2
          refine Lib.hid ?_
          go_wp2_with (at_builtin; refine wpList_append_own _ rfl _ _ 34 rfl w1.heap.size 49 i0 (.agg #[.int .i64 0, .slice none 0 0]) 2 32 Tryz.underlying34 ihi ihz0 ihz1 ihz2 rfl (by decide) _ _ _ rfl (Hc1.out.alloc _) ⟨w4.heap.size, 0, none⟩ 1 1 [.int .i64 x.house, .slice va1 x.readings.length vc1] rfl rfl (cell_two_new _ _ _ _) (fun x hx => by simp at hx; rcases hx with rfl | rfl <;> rfl) (by unfold maxLen; omega) (by omega) (by simp; omega) ?_; intro v' w9 hown' hgrow hnil)
          go_roundw
          case rel =>
            refine ⟨acc ++ [x], by simp; omega, by rw [List.length_append]; go_num, by rw [List.length_append]; exact HP.out, ?_, ?_⟩
            · exact Nest.snoc (w := w4.alloc (.cells #[.int .i64 x.house, .slice va1 x.readings.length vc1] 49)) (by decide) (Hc1.out.alloc _) (fun j hj => by obtain ⟨u, a, b, c⟩ := Hc2.out j hj; exact ⟨u, a, b, c.alloc _⟩) ((own_le Hva.out hwr).alloc _) hgrow hown'
            · exact Below.grown (w := w4.alloc (.cells #[.int .i64 x.house, .slice va1 x.readings.length vc1] 49)) ((hbr.trans (hb4.mono hwr)).alloc (by omega) _) hgrow (by simp; omega) (fun j hj => (Hc1.out.lt j hj).1)
          case measure => simp [intOf]; omega
      · have he : acc.length = ls.length := by omega
        rw [he, List.drop_length, pagesA] at hP
        have he2 := he
        clear he
        have hfin := Hrd.out
        rw [hP] at hfin
        dsimp only at hfin
        obtain ⟨cs, hc1, hc2⟩ := hnest
        obtain ⟨va, vcap, rfl, _, _⟩ := own_slice hc1
        have hnest : NestP w1.heap.size wr (.slice va acc.length vcap) acc := ⟨cs, hc1, hc2⟩
        obtain ⟨_, hR⟩ := nest_rows hnest wr.heap.size (Nat.le_refl _)
        have h60 := pageError_any wr.heap.size acc va vcap wr (Nat.le_refl _) hR (by omega)
        have H60 := Lib.hid h60; clear h60
        have Hnest := Lib.hid hnest; clear hnest hc1 hc2 hR hP he2
        by_cases hz : pagesErr acc = 0
        · rw [hz] at H60
          rw [if_pos hz] at hfin
          have Hfin := Lib.hid hfin; clear hfin hz
          go_wp2_with (first
            | (go_at_call 60; refine H60.out.mono ?_; rintro e w5 ⟨rfl, hb5⟩)
            | (go_at_call 48; refine (need_is rfl _).mono ?_; rintro e w6 ⟨rfl, rfl⟩))
          go_ret
          refine ⟨fun xs hx => ?_, fun hx => (by rw [Hfin.out] at hx; cases hx), hbw.trans (hb5.mono (by omega))⟩
          rw [Hfin.out] at hx
          injection hx with hx
          subst hx
          exact ⟨_, rfl, (Hnest.out.le hs1).later hb5⟩
        · have hne : (pagesErr acc == 0) = false := by simpa using hz
          rw [if_neg hz] at hfin
          have Hfin := Lib.hid hfin; clear hfin hz
          generalize pagesErr acc = q at *
          go_wp2_with (first
            | (go_at_call 60; refine H60.out.mono ?_; rintro e w5 ⟨rfl, hb5⟩)
            | (go_at_call 48; refine (need_not rfl _).mono ?_; rintro e w6 ⟨rfl, rfl⟩))
          exact ⟨rfl, ⟨fun xs hx => (by rw [Hfin.out] at hx; cases hx), fun _ => rfl, hbw.trans (hb5.mono (by omega))⟩⟩
end Go.Proofs.YtjmhpfedglindaaGreatDoor
