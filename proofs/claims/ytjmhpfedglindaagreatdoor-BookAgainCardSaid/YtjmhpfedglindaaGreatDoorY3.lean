/- Y3: ReadSheets's inner function (printed by gen_sheets.py). -/
import Derived.Test.YtjmhpfedglindaaGreatDoorY2
set_option linter.unusedVariables false
set_option linter.unusedSimpArgs false
namespace Go.Proofs.YtjmhpfedglindaaGreatDoor
open Go.RowKit

def triesV (l : List Try) : List Value := l.flatMap fun t => [.int .i64 t.flow, .int .i64 t.poured, .int .i64 t.shown]
theorem triesV_at : ∀ (l : List Try) (j : Nat) (hj : j < l.length), (triesV l)[j * 3]? = some (.int .i64 l[j].flow) ∧ (triesV l)[j * 3 + 1]? = some (.int .i64 l[j].poured) ∧ (triesV l)[j * 3 + 2]? = some (.int .i64 l[j].shown)
  | t :: l, 0, _ => ⟨rfl, rfl, rfl⟩
  | t :: l, j + 1, hj => by
    have h := triesV_at l j (by simpa using hj)
    have e : triesV (t :: l) = [.int .i64 t.flow, .int .i64 t.poured, .int .i64 t.shown] ++ triesV l := rfl
    rw [e]
    refine ⟨?_, ?_, ?_⟩ <;> (rw [List.getElem?_append_right (by simp; omega)])
    · have : (j + 1) * 3 - [Value.int .i64 t.flow, .int .i64 t.poured, .int .i64 t.shown].length = j * 3 := by simp; omega
      rw [this]; exact h.1
    · have : (j + 1) * 3 + 1 - [Value.int .i64 t.flow, .int .i64 t.poured, .int .i64 t.shown].length = j * 3 + 1 := by simp; omega
      rw [this]; exact h.2.1
    · have : (j + 1) * 3 + 2 - [Value.int .i64 t.flow, .int .i64 t.poured, .int .i64 t.shown].length = j * 3 + 2 := by simp; omega
      rw [this]; exact h.2.2
theorem triesV_snoc (l : List Try) (t : Try) : triesV (l ++ [t]) = triesV l ++ [.int .i64 t.flow, .int .i64 t.poured, .int .i64 t.shown] := by simp [triesV]
abbrev NestS := Nest (α := Sheet) 46 101 3 Sheet.meter (fun x => x.tries.length) (fun x => triesV x.tries)
abbrev NestSA := NestA (α := Sheet) 46 101 3 Sheet.meter (fun x => x.tries.length) (fun x => triesV x.tries)
theorem tries_rows {w : World} {B : Nat} {a : Option Addr} {n cap : Nat} {l : List Try} (h : w.ownsRow B 101 3 (.slice a n cap) l.length (triesV l)) (N : Nat) (hN : w.heap.size ≤ N) : n = l.length ∧ RowsR tryR 3 N w a l := by
  rcases h.2 with ⟨h1, h2⟩ | ⟨g, cap', cur, h1, hb, hg, _⟩
  · injection h1 with h3 h4 h5
    exact ⟨by omega, fun j hj => by omega⟩
  · injection h1 with h3 h4 h5
    subst h3 h4 h5
    refine ⟨rfl, fun j hj => ⟨g, 0, [.int .i64 l[j].flow, .int .i64 l[j].poured, .int .i64 l[j].shown], rfl, by have := block_lt hg; omega, rfl, rfl, fun i hi => ?_⟩⟩
    obtain ⟨t0, t1, t2⟩ := triesV_at l j hj
    have hj3 : (j + 1) * 3 ≤ l.length * 3 := Nat.mul_le_mul_right 3 hj
    match i, hi with
    | 0, _ => rw [Nat.zero_add, Nat.add_zero, h.cellAt (j * 3) (by omega), t0]; rfl
    | 1, _ => rw [Nat.zero_add, h.cellAt (j * 3 + 1) (by omega), t1]; rfl
    | 2, _ => rw [Nat.zero_add, h.cellAt (j * 3 + 2) (by omega), t2]; rfl

theorem nestS_rows {w : World} {B : Nat} {a : Option Addr} {n cap : Nat} {xs : List Sheet} (h : NestS B w (.slice a n cap) xs) (N : Nat) (hN : w.heap.size ≤ N) : n = xs.length ∧ RowsR sheetR 2 N w a xs := by
  obtain ⟨cs, h1, h2⟩ := h
  have h1' := h1
  rcases h1'.2 with ⟨e1, e2⟩ | ⟨g, cap', cur, e1, hb, hg, _⟩
  · injection e1 with h3 h4 h5
    exact ⟨by omega, fun j hj => by omega⟩
  · injection e1 with h3 h4 h5
    subst h3 h4 h5
    refine ⟨rfl, fun j hj => ?_⟩
    obtain ⟨va, a1, a2, a3⟩ := h2 j hj
    obtain ⟨ia, ic, rfl, hc1, hc2⟩ := own_slice a3
    obtain ⟨_, hr⟩ := tries_rows a3 N hN
    have hj2 : (j + 1) * 2 ≤ xs.length * 2 := Nat.mul_le_mul_right 2 hj
    refine ⟨g, 0, [.int .i64 xs[j].meter, .slice ia xs[j].tries.length ic], rfl, by have := block_lt hg; omega, ⟨ia, ic, rfl, hc1, hc2, hr⟩, rfl, fun i hi => ?_⟩
    match i, hi with
    | 0, _ => rw [Nat.zero_add, Nat.add_zero, h1.cellAt (j * 2) (by omega), a1]; rfl
    | 1, _ => rw [Nat.zero_add, h1.cellAt (j * 2 + 1) (by omega), a2]; rfl

theorem infoSheet : (Tryz.prog.info? 46).map (fun i => (i.zero, i.size, i.bytes)) = some (some (.agg #[.int .i64 0, .slice none 0 0]), 2, 32) := by kernel_rfl
theorem infoTry : (Tryz.prog.info? 101).map (fun i => (i.zero, i.size, i.bytes)) = some (some (.agg #[.int .i64 0, .int .i64 0, .int .i64 0]), 3, 24) := by kernel_rfl
theorem meter_good {l : List UInt8} {x : Int} (h : meterP l = some x) (hl : l.length ≤ 100000) (N : Nat) (w : World) (hE : Env N w) (hN : N ≤ w.heap.size) :
    Calls Tryz.prog 75 #[str l] w fun e w' => e = .returned (.int .i64 x) ∧ Below w.heap.size w w' := (meter_walk l hl N w hE hN).mono fun _ _ ⟨h1, _, h3⟩ => ⟨h1 x h, h3⟩
theorem meter_bad {l : List UInt8} (h : meterP l = none) (hl : l.length ≤ 100000) (N : Nat) (w : World) (hE : Env N w) (hN : N ≤ w.heap.size) :
    Calls Tryz.prog 75 #[str l] w fun e w' => e = .panicked misfit ∧ Below w.heap.size w w' := (meter_walk l hl N w hE hN).mono fun _ _ ⟨_, h2, h3⟩ => ⟨h2 h, h3⟩
theorem try_good {l : List UInt8} {t : Try} (h : tryP l = some t) (hl : l.length ≤ 100000) (N : Nat) (w : World) (hE : Env N w) (hN : N ≤ w.heap.size) :
    Calls Tryz.prog 76 #[str l] w fun e w' => e = .returned (.agg #[.int .i64 t.flow, .int .i64 t.poured, .int .i64 t.shown]) ∧ Below w.heap.size w w' := (try_walk l hl N w hE hN).mono fun _ _ ⟨h1, _, h3⟩ => ⟨h1 t h, h3⟩
theorem try_bad {l : List UInt8} (h : tryP l = none) (hl : l.length ≤ 100000) (N : Nat) (w : World) (hE : Env N w) (hN : N ≤ w.heap.size) :
    Calls Tryz.prog 76 #[str l] w fun e w' => e = .panicked misfit ∧ Below w.heap.size w w' := (try_walk l hl N w hE hN).mono fun _ _ ⟨_, h2, h3⟩ => ⟨h2 h, h3⟩
theorem wpAnyX_norm {P : Program} {md : Region.Mode} {ops : Array Oper} {Q : Exit → Act → World → Prop} {S : World → Prop} {X : Nat → Bool} {fuel : Nat} {listed : Array Bool} {a a' : Act} {w : World} (h : a = a') (k : wpAnyX P md ops Q S X fuel listed a' w) :
    wpAnyX P md ops Q S X fuel listed a w := by rw [h]; exact k
theorem nil_or_snoc {α : Type} (l : List α) : l = [] ∨ ∃ ys x, l = ys ++ [x] := by
  rcases List.eq_nil_or_concat l with h | ⟨ys, x, h⟩
  · exact .inl h
  · exact .inr ⟨ys, x, by rw [h, List.concat_eq_append]⟩
theorem cell_three_new (w : World) (x y z : Value) (t : TypeId) : ∀ j u, [x, y, z][j]? = some u → (w.alloc (.cells #[x, y, z] t)).cell? ((⟨w.heap.size, 0, none⟩ : Addr).add j) = some u := by
  intro j u hj
  match j, hj with
  | 0, hj => simp at hj; subst hj; simp [Addr.add]
  | 1, hj => simp at hj; subst hj; simp [Addr.add]
  | 2, hj => simp at hj; subst hj; simp [Addr.add]
theorem sheetStep_no {acc : List Sheet} {u : List UInt8} (h : ¬ (2 < u.length ∧ u[u.length - 2]? = some 32 ∧ [checkD (u.take (u.length - 2))] = u.drop (u.length - 1))) : sheetStep acc u = none := by
  unfold sheetStep
  rw [if_neg h]
theorem sheetStep_yes {acc : List Sheet} {u : List UInt8} {m : Nat} (hm : u.length = m + 2) (h0 : 0 < m) (h1 : u[m]? = some 32) (h2 : [checkD (u.take m)] = u.drop (m + 1)) :
    sheetStep acc u = if u.head? = some 35 then match meterP (u.take m) with | none => none | some m => some (acc ++ [⟨m, []⟩])
    else match acc.getLast? with
      | none => none
      | some x => match tryP (u.take m) with | none => none | some t => some (acc.dropLast ++ [⟨x.meter, x.tries ++ [t]⟩]) := by
  unfold sheetStep
  have e1 : u.length - 2 = m := by omega
  have e2 : u.length - 1 = m + 1 := by omega
  rw [e1, e2, if_pos ⟨by omega, h1, h2⟩]
  rfl
theorem slice_to (l : List UInt8) (b : Nat) (hb : b ≤ l.length) (w : World) : (Instr.slice 9 (str l) none (some (.int .i64 (b : Int))) none).run Tryz.prog w = .ok (str (l.take b)) w := by
  have h2 : (b : Int) ≤ (l.length : Int) := by omega
  simp [go_sem, h2]
  rw [extract_str]
  simp
theorem slice_from (l : List UInt8) (a : Nat) (ha : a + 1 ≤ l.length) (w : World) : (Instr.slice 9 (str l) (some (.int .i64 ((a : Int) + 1))) none none).run Tryz.prog w = .ok (str (l.drop (a + 1))) w := by
  have h2 : (a : Int) + 1 ≤ (l.length : Int) := by omega
  have h3 : (0 : Int) ≤ (a : Int) + 1 := by omega
  simp [go_sem, h2, h3]
  rw [extract_str, List.take_of_length_le (by simp)]

set_option maxRecDepth 100000 in
set_option maxHeartbeats 4000000 in
theorem readSh1_any (N : Nat) (t : List UInt8) (bx : Nat) (w : World) (ht : t.length ≤ 99999) (hN : N ≤ w.heap.size) (hE : Env N w) (hbx : w.cell? ⟨bx, 0, none⟩ = some (str t)) :
    Calls Tryz.prog 74 #[.pointer (some ⟨bx, 0, none⟩)] w fun e W' => (∀ xs, readSh t = some xs → ∃ v, e = .returned v ∧ NestS w.heap.size W' v xs) ∧ (readSh t = none → e = .panicked misfit) ∧ Below w.heap.size w W' := by
  obtain ⟨i0, ihi, ihz0, ihz1, ihz2⟩ := info_parts infoSheet
  obtain ⟨j0, jhi, jhz0, jhz1, jhz2⟩ := info_parts infoTry
  have h67 := lines_walk t (by omega) N w hE
  have H67 := Lib.hid h67; clear h67
  have hrd : readSh t = match linesP t with
    | none => none
    | some ls => match sheetsA [] ls with | none => none | some xs => if sheetsErr xs = 0 then some xs else none := rfl
  cases hls : linesP t with
  | none =>
    rw [hls] at hrd
    dsimp only at hrd
    have Hrd := Lib.hid hrd; clear hrd
    have Hls := Lib.hid hls; clear hls
    go_enter Tryz.func74, Tryz.ntmps74
    go_wp2_with (go_at_call 67; refine H67.out.mono ?_; rintro e w1 ⟨_, hp, hb1⟩; obtain rfl := hp Hls.out)
    exact ⟨rfl, ⟨fun xs hx => (by rw [Hrd.out] at hx; cases hx), fun _ => rfl, hb1⟩⟩
  | some ls =>
    rw [hls] at hrd
    dsimp only at hrd
    have Hrd := Lib.hid hrd; clear hrd
    have hll : ls.length ≤ 100000 ∧ ∀ p ∈ ls, p.length ≤ 100000 := by
      unfold linesP at hls
      split at hls
      · injection hls with hls; subst hls; exact ⟨by simp, by simp⟩
      · split at hls
        · injection hls with hls
          subst hls
          have h1 := countB_bd 10 t.dropLast
          have h2 := parts_len 10 t.dropLast
          rw [List.length_dropLast] at h1 h2
          exact ⟨by omega, fun p hp => by have := h2 p hp; omega⟩
        · cases hls
    have hln := hll.1
    have Hlp := Lib.hid hll.2; clear hll
    have Hls := Lib.hid hls; clear hls
    go_enter Tryz.func74, Tryz.ntmps74
    go_wp2_with (go_at_call 67; refine H67.out.mono ?_; rintro e w1 ⟨hg, _, hb1⟩; obtain ⟨la, lc, rfl, hr1, _⟩ := hg ls Hls.out; refine Hid.out ?_)
    have hs1 := hb1.size
    have hE1 := hE.later (hb1.mono hN)
    refine Lib.hid ?_
    go_wp2_with fail
    go_loopw [1, 9] (fun v i wr => ∃ (k : Nat) (acc : List Sheet), k ≤ ls.length ∧ acc.length ≤ k ∧ (∀ x ∈ acc, x.tries.length ≤ k) ∧ i = .int .i64 k ∧ sheetsA [] ls = sheetsA acc (ls.drop k) ∧ NestSA w1.heap.size wr v acc ∧ Below w1.heap.size w1 wr) (fun _ i _ => ls.length - (intOf i).toNat)
    case atStart => exact ⟨0, [], Nat.zero_le _, Nat.le_refl _, fun x hx => (by cases hx), rfl, rfl, NestA.nil, Below.refl _ _⟩
    case round =>
      obtain ⟨k, acc, hk, hak, htk, rfl, hP, hnest, hbr⟩ := hrel
      obtain ⟨v, rfl⟩ : ∃ v : Value, v = u1 := ⟨_, rfl⟩
      have hwr := hbr.size
      have hbw : Below w.heap.size w wr := hb1.trans (hbr.mono hs1)
      have Htk := Lib.hid htk; clear htk
      by_cases hlt : k < ls.length
      · have hdk : ls.drop k = ls[k] :: ls.drop (k + 1) := List.drop_eq_getElem_cons hlt
        rw [hdk, sheetsA] at hP
        obtain ⟨b1, o1, c0, rfl, hbN, hR, hc⟩ := rows1 hr1 k hlt
        simp only [strR, List.cons.injEq, and_true] at hR
        subst hR
        have hcw := (hbr.cell (p := ⟨b1, o1 + k, none⟩) hbN).trans hc
        have hlk := Hlp.out ls[k] (List.getElem_mem _)
        have hE2 := hE1.later (hbr.mono (by omega))
        have Hnest := Lib.hid hnest; clear hnest
        have HP := Lib.hid hP; clear hP hdk
        generalize ls[k] = u at *

        by_cases h2 : 2 < u.length
        · obtain ⟨m, hm⟩ : ∃ m, u.length = m + 2 := ⟨u.length - 2, by omega⟩
          have hm0 : 0 < m := by omega
          have hml : m < u.length := by omega
          have hn : (u.length : Int) - 2 = m := by omega
          have hgt : (m : Int) > 0 := by omega
          have gm : u[m]? = some (u[m]'hml) := List.getElem?_eq_getElem hml
          obtain ⟨c, hc⟩ : ∃ c, c = u[m]'hml := ⟨_, rfl⟩
          have am : ∀ p, (⟨u.toArray⟩ : ByteArray)[m]'p = c := fun _ => hc.symm
          rw [← hc] at gm
          clear hc
          by_cases hc32 : c = 32
          · subst hc32
            have sA := fun W => slice_to u m (by omega) W
            have sB := fun W => slice_from u m (by omega) W
            have hw1 : IntKind.i64.wrap ((m : Int) + 1) = (m : Int) + 1 := IntWalk.i64_in _ (by omega)
            have h01 : (0 : Int) ≤ (m : Int) + 1 := by omega
            have h1u : (m : Int) + 1 ≤ (u.length : Int) := by omega
            have ht1 : ((m : Int) + 1).toNat = m + 1 := by omega
            have hx1 : (⟨u.toArray⟩ : ByteArray).extract (m + 1) u.length = ⟨(u.drop (m + 1)).toArray⟩ := by rw [extract_str, List.take_of_length_le (by simp)]
            have h56 := fun W => check_any ⟨(u.take m).toArray⟩ (by show (u.take m).length ≤ _; rw [List.length_take]; omega) W
            have H56 := Lib.hid h56; clear h56
            by_cases hck : [checkD (u.take m)] = u.drop (m + 1)
            · have hst := sheetStep_yes (acc := acc) hm hm0 gm hck
              have Hst := Lib.hid hst; clear hst
              have Hck := Lib.hid hck; clear hck
              have Hm := Lib.hid hm; clear hm gm
              go_wp2_with fail
              refine wp_region_X (fun _ => True) (fun _ => false) (by kernel_rfl) ?_
              refine wpAnyX_take (i := 0) (v := ?_) rfl (by kernel_rfl) (by kernel_rfl) (by kernel_rfl) (by kernel_rfl) (fun _ _ _ h => h) (Or.inl ⟨by rfl, ?_⟩) trivial ?_
              rotate_left 1
              · rintro w' _; go_simp
                all_goals with_reducible rfl
              refine wpAnyX_norm (a' := ?_) ?_ ?_
              rotate_left 1
              · go_simp
                all_goals with_reducible rfl
              refine wpAnyX_take (i := 1) (v := ?_) rfl (by kernel_rfl) (by kernel_rfl) (by kernel_rfl) (by kernel_rfl) (fun _ _ _ h => h) (Or.inl ⟨by rfl, ?_⟩) trivial ?_
              rotate_left 1
              · rintro w' _; go_simp
                all_goals with_reducible rfl
              refine wpAnyX_norm (a' := ?_) ?_ ?_
              rotate_left 1
              · go_simp
                all_goals with_reducible rfl
              refine wpAnyX_take (i := 2) (v := ?_) rfl (by kernel_rfl) (by kernel_rfl) (by kernel_rfl) (by kernel_rfl) (fun _ _ _ h => h) (Or.inl ⟨by rfl, ?_⟩) trivial ?_
              rotate_left 1
              · rintro w' _; go_simp
                all_goals with_reducible rfl
              refine wpAnyX_norm (a' := ?_) ?_ ?_
              rotate_left 1
              · go_simp
                all_goals with_reducible rfl
              refine wpAnyX_take (i := 3) (v := ?_) rfl (by kernel_rfl) (by kernel_rfl) (by kernel_rfl) (by kernel_rfl) (fun _ _ _ h => h) (Or.inl ⟨by rfl, ?_⟩) trivial ?_
              rotate_left 1
              · rintro w' _; go_simp
                all_goals with_reducible rfl
              refine wpAnyX_norm (a' := ?_) ?_ ?_
              rotate_left 1
              · go_simp
                all_goals with_reducible rfl
              refine wpAnyX_take (i := 4) (v := ?_) rfl (by kernel_rfl) (by kernel_rfl) (by kernel_rfl) (by kernel_rfl) (fun _ _ _ h => h) (Or.inl ⟨by rfl, ?_⟩) trivial ?_
              rotate_left 1
              · rintro w' _; go_simp
                all_goals with_reducible rfl
              refine wpAnyX_norm (a' := ?_) ?_ ?_
              rotate_left 1
              · go_simp
                all_goals with_reducible rfl
              refine wpAnyX_take (i := 5) (v := ?_) rfl (by kernel_rfl) (by kernel_rfl) (by kernel_rfl) (by kernel_rfl) (fun _ _ _ h => h) (Or.inl ⟨by rfl, ?_⟩) trivial ?_
              rotate_left 1
              · rintro w' _; go_simp
                all_goals with_reducible rfl
              refine wpAnyX_norm (a' := ?_) ?_ ?_
              rotate_left 1
              · go_simp
                all_goals with_reducible rfl
              refine wpAnyX_take (i := 6) (v := ?_) rfl (by kernel_rfl) (by kernel_rfl) (by kernel_rfl) (by kernel_rfl) (fun _ _ _ h => h) (Or.inl ⟨by rfl, ?_⟩) trivial ?_
              rotate_left 1
              · rintro w' _; go_simp
                all_goals with_reducible rfl
              refine wpAnyX_norm (a' := ?_) ?_ ?_
              rotate_left 1
              · go_simp
                all_goals with_reducible rfl
              refine wpAnyX_take (i := 7) (v := ?_) rfl (by kernel_rfl) (by kernel_rfl) (by kernel_rfl) (by kernel_rfl) (fun _ _ _ h => h) (Or.inl ⟨by rfl, ?_⟩) trivial ?_
              rotate_left 1
              · rintro w' _; go_simp
                all_goals with_reducible rfl
              refine wpAnyX_norm (a' := ?_) ?_ ?_
              rotate_left 1
              · go_simp
                all_goals with_reducible rfl
              refine wpAnyX_take (i := 8) (v := ?_) rfl (by kernel_rfl) (by kernel_rfl) (by kernel_rfl) (by kernel_rfl) (fun _ _ _ h => h) (Or.inl ⟨by rfl, ?_⟩) trivial ?_
              rotate_left 1
              · rintro w' _; go_simp
                all_goals with_reducible rfl
              refine wpAnyX_norm (a' := ?_) ?_ ?_
              rotate_left 1
              · go_simp
                all_goals with_reducible rfl
              refine wpAnyX_take (i := 9) (v := ?_) rfl (by kernel_rfl) (by kernel_rfl) (by kernel_rfl) (by kernel_rfl) (fun _ _ _ h => h) (Or.inl ⟨by rfl, ?_⟩) trivial ?_
              rotate_left 1
              · rintro w' _; go_simp
                all_goals with_reducible rfl
              refine wpAnyX_norm (a' := ?_) ?_ ?_
              rotate_left 1
              · go_simp
                all_goals with_reducible rfl
              refine wpAnyX_take (i := 10) (v := ?_) rfl (by kernel_rfl) (by kernel_rfl) (by kernel_rfl) (by kernel_rfl) (fun _ _ _ h => h) (Or.inl ⟨by rfl, ?_⟩) trivial ?_
              rotate_left 1
              · rintro w' _; go_simp
                all_goals with_reducible rfl
              refine wpAnyX_norm (a' := ?_) ?_ ?_
              rotate_left 1
              · go_simp
                all_goals with_reducible rfl
              refine wpAnyX_take (i := 11) (v := ?_) rfl (by kernel_rfl) (by kernel_rfl) (by kernel_rfl) (by kernel_rfl) (fun _ _ _ h => h) (Or.inl ⟨by rfl, ?_⟩) trivial ?_
              rotate_left 1
              · rintro w' _; go_simp
                all_goals with_reducible rfl
              refine wpAnyX_norm (a' := ?_) ?_ ?_
              rotate_left 1
              · go_simp
                all_goals with_reducible rfl
              refine wpAnyX_take (i := 13) (v := ?_) rfl (by kernel_rfl) (by kernel_rfl) (by kernel_rfl) (by kernel_rfl) (fun _ _ _ h => h) (Or.inl ⟨by rfl, ?_⟩) trivial ?_
              rotate_left 1
              · rintro w' _; go_simp
                all_goals with_reducible rfl
              refine wpAnyX_norm (a' := ?_) ?_ ?_
              rotate_left 1
              · go_simp
                all_goals with_reducible rfl
              refine wpAnyX_take (i := 14) (v := ?_) rfl (by kernel_rfl) (by kernel_rfl) (by kernel_rfl) (by kernel_rfl) (fun _ _ _ h => h) (Or.inl ⟨by rfl, ?_⟩) trivial ?_
              rotate_left 1
              · rintro w' _; go_simp
                all_goals with_reducible rfl
              refine wpAnyX_norm (a' := ?_) ?_ ?_
              rotate_left 1
              · go_simp
                all_goals with_reducible rfl
              refine wpAnyX_take (i := 15) (v := ?_) rfl (by kernel_rfl) (by kernel_rfl) (by kernel_rfl) (by kernel_rfl) (fun _ _ _ h => h) (Or.inl ⟨by rfl, ?_⟩) trivial ?_
              rotate_left 1
              · rintro w' _; go_simp
                all_goals with_reducible rfl
              refine wpAnyX_norm (a' := ?_) ?_ ?_
              rotate_left 1
              · go_simp
                all_goals with_reducible rfl
              refine wpAnyX_take (i := 16) (v := ?_) rfl (by kernel_rfl) (by kernel_rfl) (by kernel_rfl) (by kernel_rfl) (fun _ _ _ h => h) (Or.inl ⟨by rfl, ?_⟩) trivial ?_
              rotate_left 1
              · rintro w' _; go_simp
                all_goals with_reducible rfl
              refine wpAnyX_norm (a' := ?_) ?_ ?_
              rotate_left 1
              · go_simp
                all_goals with_reducible rfl
              refine wpAnyX_one (i := 12) (by kernel_rfl) rfl (fun K hK => ?_)
              go_simp
              refine (H56.out _).mono ?_
              rintro e w2 ⟨rfl, hb2⟩
              refine hK _ _ (fun _ => trivial) ?_
              clear hK K
              refine wpAnyX_take (i := 17) (v := ?_) rfl (by kernel_rfl) (by kernel_rfl) (by kernel_rfl) (by kernel_rfl) (fun _ _ _ h => h) (Or.inl ⟨by rfl, ?_⟩) trivial ?_
              rotate_left 1
              · rintro w' _; go_simp
                all_goals with_reducible rfl
              refine wpAnyX_norm (a' := ?_) ?_ ?_
              rotate_left 1
              · go_simp
                all_goals with_reducible rfl
              refine wpAnyX_take (i := 18) (v := ?_) rfl (by kernel_rfl) (by kernel_rfl) (by kernel_rfl) (by kernel_rfl) (fun _ _ _ h => h) (Or.inl ⟨by rfl, ?_⟩) trivial ?_
              rotate_left 1
              · rintro w' _; go_simp
                all_goals with_reducible rfl
              refine wpAnyX_norm (a' := ?_) ?_ ?_
              rotate_left 1
              · go_simp
                all_goals with_reducible rfl
              refine wpAnyX_one (i := 19) (by kernel_rfl) rfl (fun K hK => ?_)
              go_simp
              refine (need_is (by simp [Hck.out]) _).mono ?_
              rintro e w3 ⟨rfl, rfl⟩
              refine hK _ _ (fun _ => trivial) ?_
              clear hK K
              refine wpAnyX_done (by kernel_rfl) ?_
              have hu0 : 0 < u.length := by omega
              obtain ⟨c0, hc0⟩ : ∃ c, c = u[0]'hu0 := ⟨_, rfl⟩
              have a0 : ∀ p, (⟨u.toArray⟩ : ByteArray)[0]'p = c0 := fun _ => hc0.symm
              have hhd : u.head? = some c0 := by rw [List.head?_eq_getElem?, List.getElem?_eq_getElem hu0, hc0]
              clear hc0
              have Hhd := Lib.hid hhd; clear hhd
              have htl : (u.take m).length ≤ 100000 := by rw [List.length_take]; omega
              have hbr2 : Below wr.heap.size wr w2 := (Below.refl _ wr).drew.trans hb2
              have hsz2 := hbr2.size
              have hE3 : Env N w2 := hE2.later (hbr2.mono (by omega))
              have hn2 := Hnest.out.later hbr2
              have hb12 : Below w1.heap.size w1 w2 := hbr.trans (hbr2.mono hwr)
              have hbw2 : Below w.heap.size w w2 := hbw.trans (hbr2.mono (by omega))
              have hbb : ∀ (q : Int) w', (Instr.build 46 #[(0, .int .i64 q)]).run Tryz.prog w' = .ok (.agg #[.int .i64 q, .slice none 0 0]) w' := fun q w' => run_build w' 46 _ _ (by kernel_rfl)
              clear Hnest hb2 sB hw1 h01 h1u ht1 hx1 am hgt hn hE2 h2
              by_cases hc35 : c0 = 35
              · subst hc35
                have hst := Hst.out
                rw [Hhd.out, if_pos rfl] at hst
                cases hmp : meterP (u.take m) with
                | none =>
                  rw [hmp] at hst
                  dsimp only at hst
                  have hfin := Hrd.out
                  rw [HP.out, hst] at hfin
                  have Hfin := Lib.hid hfin; clear hfin hst
                  have h75 := meter_bad hmp htl N w2 hE3 (by omega)
                  have H75 := Lib.hid h75; clear h75 hmp
                  go_wp2_with fail
                  refine H75.out.mono ?_
                  rintro e w3 ⟨rfl, hb3⟩
                  exact ⟨rfl, ⟨fun xs hx => (by rw [Hfin.out] at hx; cases hx), fun _ => rfl, hbw2.trans (hb3.mono (by omega))⟩⟩
                | some x =>
                  rw [hmp] at hst
                  dsimp only at hst
                  have HS := Lib.hid hst; clear hst
                  have h75 := meter_good hmp htl N w2 hE3 (by omega)
                  have H75 := Lib.hid h75; clear h75 hmp
                  go_wp2_with fail
                  refine H75.out.mono ?_
                  rintro e w3 ⟨rfl, hb3⟩
                  have hsz3 := hb3.size
                  obtain ⟨cs, hc1, hc2, _⟩ := hn2.later hb3
                  have Hc1 := Lib.hid hc1; clear hc1
                  have Hc2 := Lib.hid hc2; clear hc2 hn2
                  go_wp2_with (at_builtin; refine wpList_append_own _ rfl _ _ 33 rfl w1.heap.size 46 i0 (.agg #[.int .i64 0, .slice none 0 0]) 2 32 Tryz.underlying33 ihi ihz0 ihz1 ihz2 rfl (by decide) _ _ _ rfl (Hc1.out.alloc _) ⟨w3.heap.size, 0, none⟩ 1 1 [.int .i64 x, .slice none 0 0] rfl rfl (cell_two_new _ _ _ _) (fun x hx => by simp at hx; rcases hx with rfl | rfl <;> rfl) (by unfold maxLen; omega) (by omega) (by simp; omega) ?_; intro v' w9 hown' hgrow hnil)
                  go_roundw
                  case rel =>
                    refine ⟨k + 1, acc ++ [⟨x, []⟩], by omega, by simp; omega, ?_, by go_num, by rw [HP.out, HS.out], ?_, ?_⟩
                    · intro y hy
                      rcases List.mem_append.1 hy with hy | hy
                      · have := Htk.out y hy; omega
                      · rw [List.mem_singleton] at hy; subst hy; exact Nat.zero_le _
                    · exact NestA.snoc (w := w3.alloc (.cells #[.int .i64 x, .slice none 0 0] 46)) (by decide) (Hc1.out.alloc _) (fun j hj => by obtain ⟨u, a, b, c⟩ := Hc2.out j hj; exact ⟨u, a, b, c.alloc _⟩) rfl rfl hgrow hown'
                    · exact Below.grown (w := w3.alloc (.cells #[.int .i64 x, .slice none 0 0] 46)) ((hb12.trans (hb3.mono (by omega))).alloc (by omega) _) hgrow (by simp; omega) (fun j hj => (Hc1.out.lt j hj).1)
                  case measure => simp [intOf]; omega
              · have hx0 : ((c0.toNat : Int) == 35) = false := by
                  simp
                  intro hh
                  exact hc35 (UInt8.toNat.inj (by have : (c0.toNat : Int) = 35 := hh; show c0.toNat = 35; omega))
                have hst := Hst.out
                rw [Hhd.out, if_neg (by simpa using hc35)] at hst
                clear hc35
                rcases nil_or_snoc acc with rfl | ⟨ys, x, rfl⟩
                · have hst : sheetStep [] u = none := hst
                  have hfin := Hrd.out
                  rw [HP.out, hst] at hfin
                  have Hfin := Lib.hid hfin; clear hfin hst
                  obtain ⟨cs, hc1, _, _⟩ := hn2
                  obtain ⟨va, vc, rfl, _, _⟩ := own_slice hc1
                  have hl0 : (([] : List Sheet).length : Int) = 0 := rfl
                  clear hc1
                  go_wp2_with fail
                  refine (need_not rfl _).mono ?_
                  rintro e w3 ⟨rfl, rfl⟩
                  exact ⟨rfl, ⟨fun xs hx => (by rw [Hfin.out] at hx; cases hx), fun _ => rfl, hbw2⟩⟩
                · have hst : sheetStep (ys ++ [x]) u = match tryP (u.take m) with | none => none | some t => some (ys ++ [⟨x.meter, x.tries ++ [t]⟩]) := by simpa using hst
                  have hn2' := hn2
                  obtain ⟨cs, hc1, hc2, _⟩ := hn2
                  have hyl : (ys ++ [x]).length = ys.length + 1 := by simp
                  have hc1' : w2.ownsRow w1.heap.size 46 2 v (ys.length + 1) cs := by rw [← hyl]; exact hc1
                  obtain ⟨gb, gc, rfl⟩ := own_form hc1' (by omega)
                  obtain ⟨va, -, v2, v3⟩ := hc2 ys.length (by omega)
                  simp only [List.getElem_append_right (Nat.le_refl _), Nat.sub_self, List.getElem_cons_zero] at v3
                  obtain ⟨ta, tc, rfl, -, -⟩ := own_slice v3
                  have hcl := hc1'.1
                  have hva : w2.cell? ⟨gb, ys.length * 2 + 1, none⟩ = some (.slice ta x.tries.length tc) := by rw [hc1'.cellAt (ys.length * 2 + 1) (by omega), v2]
                  have hyk : ys.length + 1 ≤ k := by omega
                  have hxk := Htk.out x (by simp)
                  have Hap := Lib.hid (own_apart hc1' v3 (by decide))
                  have Hrow := Lib.hid hc1'; have Hin := Lib.hid v3; have HN := Lib.hid hn2'; clear hc1' hc1 hc2 v3 v2 hn2' hcl hyl hak
                  have Hva := Lib.hid hva; clear hva
                  have hpos : (0 : Int) < (ys.length : Int) + 1 := by omega
                  cases htp : tryP (u.take m) with
                  | none =>
                    rw [htp] at hst
                    dsimp only at hst
                    have hfin := Hrd.out
                    rw [HP.out, hst] at hfin
                    have Hfin := Lib.hid hfin; clear hfin hst
                    have h76 := fun W (hW : Below w2.heap.size w2 W) => try_bad htp htl N W (hE3.later (hW.mono (by omega))) (by have := hW.size; omega)
                    have H76 := Lib.hid h76; clear h76 htp
                    go_wp2_with (go_at_call 48; refine (need_is rfl _).mono ?_; rintro e w3 ⟨rfl, rfl⟩)
                    refine wp_region_X (fun w' => w'.cell? ⟨gb, ys.length * 2 + 1, none⟩ = some (.slice ta x.tries.length tc)) (fun j => j == 13) (by kernel_rfl) ?_
                    refine wpAnyX_take (i := 0) (v := ?_) rfl (by kernel_rfl) (by kernel_rfl) (by kernel_rfl) (by kernel_rfl) (fun _ _ _ h => h) (Or.inl ⟨by rfl, ?_⟩) Hva.out ?_
                    rotate_left 1
                    · rintro w' s1; go_simp
                      all_goals with_reducible rfl
                    refine wpAnyX_norm (a' := ?_) ?_ ?_
                    rotate_left 1
                    · go_simp
                      all_goals with_reducible rfl
                    refine wpAnyX_take (i := 1) (v := ?_) rfl (by kernel_rfl) (by kernel_rfl) (by kernel_rfl) (by kernel_rfl) (fun _ _ _ h => h) (Or.inl ⟨by rfl, ?_⟩) Hva.out ?_
                    rotate_left 1
                    · rintro w' s1; go_simp
                      all_goals with_reducible rfl
                    refine wpAnyX_norm (a' := ?_) ?_ ?_
                    rotate_left 1
                    · go_simp
                      all_goals with_reducible rfl
                    refine wpAnyX_take (i := 2) (v := ?_) rfl (by kernel_rfl) (by kernel_rfl) (by kernel_rfl) (by kernel_rfl) (fun _ _ _ h => h) (Or.inl ⟨by rfl, ?_⟩) Hva.out ?_
                    rotate_left 1
                    · rintro w' s1; go_simp
                      all_goals with_reducible rfl
                    refine wpAnyX_norm (a' := ?_) ?_ ?_
                    rotate_left 1
                    · go_simp
                      all_goals with_reducible rfl
                    refine wpAnyX_take (i := 3) (v := ?_) rfl (by kernel_rfl) (by kernel_rfl) (by kernel_rfl) (by kernel_rfl) (fun _ _ _ h => h) (Or.inl ⟨by rfl, ?_⟩) Hva.out ?_
                    rotate_left 1
                    · rintro w' s1; go_simp
                      all_goals with_reducible rfl
                    refine wpAnyX_norm (a' := ?_) ?_ ?_
                    rotate_left 1
                    · go_simp
                      all_goals with_reducible rfl
                    refine wpAnyX_take (i := 4) (v := ?_) rfl (by kernel_rfl) (by kernel_rfl) (by kernel_rfl) (by kernel_rfl) (fun _ _ _ h => h) (Or.inl ⟨by rfl, ?_⟩) Hva.out ?_
                    rotate_left 1
                    · rintro w' s1; go_simp
                      all_goals with_reducible rfl
                    refine wpAnyX_norm (a' := ?_) ?_ ?_
                    rotate_left 1
                    · go_simp
                      all_goals with_reducible rfl
                    refine wpAnyX_take (i := 5) (v := ?_) rfl (by kernel_rfl) (by kernel_rfl) (by kernel_rfl) (by kernel_rfl) (fun _ _ _ h => h) (Or.inl ⟨by rfl, ?_⟩) Hva.out ?_
                    rotate_left 1
                    · rintro w' s1; go_simp
                      all_goals with_reducible rfl
                    refine wpAnyX_norm (a' := ?_) ?_ ?_
                    rotate_left 1
                    · go_simp
                      all_goals with_reducible rfl
                    refine wpAnyX_take (i := 6) (v := ?_) rfl (by kernel_rfl) (by kernel_rfl) (by kernel_rfl) (by kernel_rfl) (fun _ _ _ h => h) (Or.inl ⟨by rfl, ?_⟩) Hva.out ?_
                    rotate_left 1
                    · rintro w' s1; go_simp
                      all_goals with_reducible rfl
                    refine wpAnyX_norm (a' := ?_) ?_ ?_
                    rotate_left 1
                    · go_simp
                      all_goals with_reducible rfl
                    refine wpAnyX_take (i := 7) (v := ?_) rfl (by kernel_rfl) (by kernel_rfl) (by kernel_rfl) (by kernel_rfl) (fun _ _ _ h => h) (Or.inl ⟨by rfl, ?_⟩) Hva.out ?_
                    rotate_left 1
                    · rintro w' s1; go_simp
                      all_goals with_reducible rfl
                    refine wpAnyX_norm (a' := ?_) ?_ ?_
                    rotate_left 1
                    · go_simp
                      all_goals with_reducible rfl
                    refine wpAnyX_one (i := 8) (by kernel_rfl) rfl (fun K hK => ?_)
                    go_simp
                    refine (H76.out _ (Below.refl _ w2).drew).mono ?_
                    rintro e w4 ⟨rfl, hb4⟩
                    exact ⟨rfl, ⟨fun xs hx => (by rw [Hfin.out] at hx; cases hx), fun _ => rfl, hbw2.drew.trans (hb4.mono (by show w.heap.size ≤ w2.heap.size; omega))⟩⟩
                  | some tr =>
                    rw [htp] at hst
                    dsimp only at hst
                    have HS := Lib.hid hst; clear hst
                    have h76 := fun W (hW : Below w2.heap.size w2 W) => try_good htp htl N W (hE3.later (hW.mono (by omega))) (by have := hW.size; omega)
                    have H76 := Lib.hid h76; clear h76 htp
                    go_wp2_with (go_at_call 48; refine (need_is rfl _).mono ?_; rintro e w3 ⟨rfl, rfl⟩)
                    refine wp_region_X (fun w' => w'.cell? ⟨gb, ys.length * 2 + 1, none⟩ = some (.slice ta x.tries.length tc)) (fun j => j == 13) (by kernel_rfl) ?_
                    refine wpAnyX_take (i := 0) (v := ?_) rfl (by kernel_rfl) (by kernel_rfl) (by kernel_rfl) (by kernel_rfl) (fun _ _ _ h => h) (Or.inl ⟨by rfl, ?_⟩) Hva.out ?_
                    rotate_left 1
                    · rintro w' s1; go_simp
                      all_goals with_reducible rfl
                    refine wpAnyX_norm (a' := ?_) ?_ ?_
                    rotate_left 1
                    · go_simp
                      all_goals with_reducible rfl
                    refine wpAnyX_take (i := 1) (v := ?_) rfl (by kernel_rfl) (by kernel_rfl) (by kernel_rfl) (by kernel_rfl) (fun _ _ _ h => h) (Or.inl ⟨by rfl, ?_⟩) Hva.out ?_
                    rotate_left 1
                    · rintro w' s1; go_simp
                      all_goals with_reducible rfl
                    refine wpAnyX_norm (a' := ?_) ?_ ?_
                    rotate_left 1
                    · go_simp
                      all_goals with_reducible rfl
                    refine wpAnyX_take (i := 2) (v := ?_) rfl (by kernel_rfl) (by kernel_rfl) (by kernel_rfl) (by kernel_rfl) (fun _ _ _ h => h) (Or.inl ⟨by rfl, ?_⟩) Hva.out ?_
                    rotate_left 1
                    · rintro w' s1; go_simp
                      all_goals with_reducible rfl
                    refine wpAnyX_norm (a' := ?_) ?_ ?_
                    rotate_left 1
                    · go_simp
                      all_goals with_reducible rfl
                    refine wpAnyX_take (i := 3) (v := ?_) rfl (by kernel_rfl) (by kernel_rfl) (by kernel_rfl) (by kernel_rfl) (fun _ _ _ h => h) (Or.inl ⟨by rfl, ?_⟩) Hva.out ?_
                    rotate_left 1
                    · rintro w' s1; go_simp
                      all_goals with_reducible rfl
                    refine wpAnyX_norm (a' := ?_) ?_ ?_
                    rotate_left 1
                    · go_simp
                      all_goals with_reducible rfl
                    refine wpAnyX_take (i := 4) (v := ?_) rfl (by kernel_rfl) (by kernel_rfl) (by kernel_rfl) (by kernel_rfl) (fun _ _ _ h => h) (Or.inl ⟨by rfl, ?_⟩) Hva.out ?_
                    rotate_left 1
                    · rintro w' s1; go_simp
                      all_goals with_reducible rfl
                    refine wpAnyX_norm (a' := ?_) ?_ ?_
                    rotate_left 1
                    · go_simp
                      all_goals with_reducible rfl
                    refine wpAnyX_take (i := 5) (v := ?_) rfl (by kernel_rfl) (by kernel_rfl) (by kernel_rfl) (by kernel_rfl) (fun _ _ _ h => h) (Or.inl ⟨by rfl, ?_⟩) Hva.out ?_
                    rotate_left 1
                    · rintro w' s1; go_simp
                      all_goals with_reducible rfl
                    refine wpAnyX_norm (a' := ?_) ?_ ?_
                    rotate_left 1
                    · go_simp
                      all_goals with_reducible rfl
                    refine wpAnyX_take (i := 6) (v := ?_) rfl (by kernel_rfl) (by kernel_rfl) (by kernel_rfl) (by kernel_rfl) (fun _ _ _ h => h) (Or.inl ⟨by rfl, ?_⟩) Hva.out ?_
                    rotate_left 1
                    · rintro w' s1; go_simp
                      all_goals with_reducible rfl
                    refine wpAnyX_norm (a' := ?_) ?_ ?_
                    rotate_left 1
                    · go_simp
                      all_goals with_reducible rfl
                    refine wpAnyX_take (i := 7) (v := ?_) rfl (by kernel_rfl) (by kernel_rfl) (by kernel_rfl) (by kernel_rfl) (fun _ _ _ h => h) (Or.inl ⟨by rfl, ?_⟩) Hva.out ?_
                    rotate_left 1
                    · rintro w' s1; go_simp
                      all_goals with_reducible rfl
                    refine wpAnyX_norm (a' := ?_) ?_ ?_
                    rotate_left 1
                    · go_simp
                      all_goals with_reducible rfl
                    refine wpAnyX_one (i := 8) (by kernel_rfl) rfl (fun K hK => ?_)
                    go_simp
                    refine (H76.out _ (Below.refl _ w2).drew).mono ?_
                    rintro e w4 ⟨rfl, hb4⟩
                    have hbX : Below w2.heap.size w2 w4 := (Below.refl _ w2).drew.trans hb4
                    have hsz4 := hbX.size
                    have hrow4 := own_later Hrow.out hbX
                    have hin4 := own_later Hin.out hbX
                    have hgl4 := (hrow4.lt gb rfl).2
                    have hv4 : w4.cell? ⟨gb, ys.length * 2 + 1, none⟩ = some (.slice ta x.tries.length tc) := (hbX.cell (p := ⟨gb, ys.length * 2 + 1, none⟩) (Hrow.out.lt gb rfl).2).trans Hva.out
                    have hb14 : Below w1.heap.size w1 w4 := hb12.trans (hbX.mono (by omega))
                    have hN4 := HN.out.later hbX
                    have Hrow4 := Lib.hid hrow4; have Hin4 := Lib.hid hin4; have HN4 := Lib.hid hN4; have Hv4 := Lib.hid hv4; clear hrow4 hin4 hN4 hv4 Hrow Hin HN Hva
                    refine hK _ _ (fun _ => Hv4.out) ?_
                    clear hK K
                    refine wpAnyX_one (i := 9) (by kernel_rfl) rfl (fun K hK => ?_)
                    go_simp
                    have hv5 : (w4.alloc (.cells #[.int .i64 tr.flow, .int .i64 tr.poured, .int .i64 tr.shown] 101)).cell? ⟨gb, ys.length * 2 + 1, none⟩ = some (.slice ta x.tries.length tc) := (((Below.refl w4.heap.size w4).alloc (Nat.le_refl _) _).cell (p := ⟨gb, ys.length * 2 + 1, none⟩) hgl4).trans Hv4.out
                    have Hv5 := Lib.hid hv5; clear hv5
                    refine hK _ _ (fun _ => Hv5.out) ?_
                    clear hK K
                    refine wpAnyX_one (i := 10) (by kernel_rfl) rfl (fun K hK => ?_)
                    refine step_append_at _ (by rfl) _ _ 44 (by rfl) w1.heap.size 101 j0 (.agg #[.int .i64 0, .int .i64 0, .int .i64 0]) 3 24 Tryz.underlying44 jhi jhz0 jhz1 jhz2 rfl (by decide) (.slice ta x.tries.length tc) x.tries.length (triesV x.tries) (by rfl) (by exact Hin4.out.alloc _) ⟨w4.heap.size, 0, none⟩ 1 1 [.int .i64 tr.flow, .int .i64 tr.poured, .int .i64 tr.shown] (by rfl) (by rfl) (by exact cell_three_new _ _ _ _ _) (fun x hx => by simp at hx; rcases hx with rfl | rfl | rfl <;> rfl) (by unfold maxLen; omega) (by omega) (by simp; omega) ?_
                    intro v' w9 hown9 hgrow hloc
                    obtain ⟨g', cap', rfl⟩ := ownsRow_succ hown9
                    have hneg : some gb ≠ (Value.slice ta x.tries.length tc).ownBlock := Hap.out.elim (fun h => by cases h) (fun h => h)
                    have hrow9 := (Hrow4.out.alloc (.cells #[.int .i64 tr.flow, .int .i64 tr.poured, .int .i64 tr.shown] 101)).kept hgrow Hap.out
                    have f9 := hrow9.frozenAt (ys.length * 2 + 1)
                    have c9 : w9.cell? ⟨gb, ys.length * 2 + 1, none⟩ = some (.slice ta x.tries.length tc) := (World.cell?_of_block (a := ⟨gb, ys.length * 2 + 1, none⟩) (hgrow.block gb (by simp; omega) hneg)).trans Hv5.out
                    have Hrow9 := Lib.hid hrow9; have Hown9 := Lib.hid hown9; have Hgrow := Lib.hid hgrow; have Hloc := Lib.hid hloc; clear hrow9 hown9 hgrow hloc hneg
                    refine hK _ _ (fun _ => c9) ?_
                    clear hK K
                    refine wpAnyX_one (i := 11) (by kernel_rfl) rfl (fun K hK => ?_)
                    go_simp
                    refine hK _ _ (fun _ => c9) ?_
                    clear hK K
                    refine wpAnyX_one (i := 12) (by kernel_rfl) rfl (fun K hK => ?_)
                    go_simp
                    refine hK _ _ (fun _ => c9) ?_
                    clear hK K
                    refine wpAnyX_one (i := 13) (by kernel_rfl) rfl (fun K hK => ?_)
                    go_simp
                    refine hK _ _ (fun h => by cases h) ?_
                    clear hK K
                    refine wpAnyX_done (by kernel_rfl) ?_
                    go_wp2_with fail
                    go_roundw
                    case rel =>
                      refine ⟨k + 1, ys ++ [⟨x.meter, x.tries ++ [tr]⟩], by omega, by simp; omega, ?_, by go_num, by rw [HP.out, HS.out], ?_, ?_⟩
                      · intro y hy
                        rcases List.mem_append.1 hy with hy | hy
                        · have := Htk.out y (by simp [hy]); omega
                        · rw [List.mem_singleton] at hy; subst hy; simp; omega
                      · have hnew : w9.ownsRow w1.heap.size 101 3 (.slice (some ⟨g', 0, none⟩) (x.tries.length + 1) cap') (x.tries ++ [tr]).length (triesV (x.tries ++ [tr])) := by rw [List.length_append, List.length_singleton, triesV_snoc]; exact Hown9.out
                        exact NestA.grow (w := w4.alloc (.cells #[.int .i64 tr.flow, .int .i64 tr.poured, .int .i64 tr.shown] 101)) (w1 := w9) (va := .slice ta x.tries.length tc) (x' := ⟨x.meter, x.tries ++ [tr]⟩) (HN4.out.later ((Below.refl w4.heap.size w4).alloc (Nat.le_refl _) _)) (by decide) Hv5.out Hgrow.out hnew Hloc.out rfl
                      · exact (Below.grown (w := w4.alloc (.cells #[.int .i64 tr.flow, .int .i64 tr.poured, .int .i64 tr.shown] 101)) (hb14.alloc (by omega) _) Hgrow.out (by simp; omega) (fun j hj => (Hin4.out.lt j hj).1)).setCell (p := ⟨gb, ys.length * 2 + 1, none⟩) (Hrow4.out.lt gb rfl).1 _
                    case measure => simp [intOf]; omega
            · have hst : sheetStep acc u = none := sheetStep_no (fun hh => hck (by have := hh.2.2; rwa [show u.length - 2 = m by omega, show u.length - 1 = m + 1 by omega] at this))
              have hfin := Hrd.out
              rw [HP.out, hst] at hfin
              have Hfin := Lib.hid hfin; clear hfin hst
              have Hck := Lib.hid hck; clear hck
              have Hm := Lib.hid hm; clear hm gm
              go_wp2_with fail
              refine wp_region_X (fun _ => True) (fun _ => false) (by kernel_rfl) ?_
              refine wpAnyX_take (i := 0) (v := ?_) rfl (by kernel_rfl) (by kernel_rfl) (by kernel_rfl) (by kernel_rfl) (fun _ _ _ h => h) (Or.inl ⟨by rfl, ?_⟩) trivial ?_
              rotate_left 1
              · rintro w' _; go_simp
                all_goals with_reducible rfl
              refine wpAnyX_norm (a' := ?_) ?_ ?_
              rotate_left 1
              · go_simp
                all_goals with_reducible rfl
              refine wpAnyX_take (i := 1) (v := ?_) rfl (by kernel_rfl) (by kernel_rfl) (by kernel_rfl) (by kernel_rfl) (fun _ _ _ h => h) (Or.inl ⟨by rfl, ?_⟩) trivial ?_
              rotate_left 1
              · rintro w' _; go_simp
                all_goals with_reducible rfl
              refine wpAnyX_norm (a' := ?_) ?_ ?_
              rotate_left 1
              · go_simp
                all_goals with_reducible rfl
              refine wpAnyX_take (i := 2) (v := ?_) rfl (by kernel_rfl) (by kernel_rfl) (by kernel_rfl) (by kernel_rfl) (fun _ _ _ h => h) (Or.inl ⟨by rfl, ?_⟩) trivial ?_
              rotate_left 1
              · rintro w' _; go_simp
                all_goals with_reducible rfl
              refine wpAnyX_norm (a' := ?_) ?_ ?_
              rotate_left 1
              · go_simp
                all_goals with_reducible rfl
              refine wpAnyX_take (i := 3) (v := ?_) rfl (by kernel_rfl) (by kernel_rfl) (by kernel_rfl) (by kernel_rfl) (fun _ _ _ h => h) (Or.inl ⟨by rfl, ?_⟩) trivial ?_
              rotate_left 1
              · rintro w' _; go_simp
                all_goals with_reducible rfl
              refine wpAnyX_norm (a' := ?_) ?_ ?_
              rotate_left 1
              · go_simp
                all_goals with_reducible rfl
              refine wpAnyX_take (i := 4) (v := ?_) rfl (by kernel_rfl) (by kernel_rfl) (by kernel_rfl) (by kernel_rfl) (fun _ _ _ h => h) (Or.inl ⟨by rfl, ?_⟩) trivial ?_
              rotate_left 1
              · rintro w' _; go_simp
                all_goals with_reducible rfl
              refine wpAnyX_norm (a' := ?_) ?_ ?_
              rotate_left 1
              · go_simp
                all_goals with_reducible rfl
              refine wpAnyX_take (i := 5) (v := ?_) rfl (by kernel_rfl) (by kernel_rfl) (by kernel_rfl) (by kernel_rfl) (fun _ _ _ h => h) (Or.inl ⟨by rfl, ?_⟩) trivial ?_
              rotate_left 1
              · rintro w' _; go_simp
                all_goals with_reducible rfl
              refine wpAnyX_norm (a' := ?_) ?_ ?_
              rotate_left 1
              · go_simp
                all_goals with_reducible rfl
              refine wpAnyX_take (i := 6) (v := ?_) rfl (by kernel_rfl) (by kernel_rfl) (by kernel_rfl) (by kernel_rfl) (fun _ _ _ h => h) (Or.inl ⟨by rfl, ?_⟩) trivial ?_
              rotate_left 1
              · rintro w' _; go_simp
                all_goals with_reducible rfl
              refine wpAnyX_norm (a' := ?_) ?_ ?_
              rotate_left 1
              · go_simp
                all_goals with_reducible rfl
              refine wpAnyX_take (i := 7) (v := ?_) rfl (by kernel_rfl) (by kernel_rfl) (by kernel_rfl) (by kernel_rfl) (fun _ _ _ h => h) (Or.inl ⟨by rfl, ?_⟩) trivial ?_
              rotate_left 1
              · rintro w' _; go_simp
                all_goals with_reducible rfl
              refine wpAnyX_norm (a' := ?_) ?_ ?_
              rotate_left 1
              · go_simp
                all_goals with_reducible rfl
              refine wpAnyX_take (i := 8) (v := ?_) rfl (by kernel_rfl) (by kernel_rfl) (by kernel_rfl) (by kernel_rfl) (fun _ _ _ h => h) (Or.inl ⟨by rfl, ?_⟩) trivial ?_
              rotate_left 1
              · rintro w' _; go_simp
                all_goals with_reducible rfl
              refine wpAnyX_norm (a' := ?_) ?_ ?_
              rotate_left 1
              · go_simp
                all_goals with_reducible rfl
              refine wpAnyX_take (i := 9) (v := ?_) rfl (by kernel_rfl) (by kernel_rfl) (by kernel_rfl) (by kernel_rfl) (fun _ _ _ h => h) (Or.inl ⟨by rfl, ?_⟩) trivial ?_
              rotate_left 1
              · rintro w' _; go_simp
                all_goals with_reducible rfl
              refine wpAnyX_norm (a' := ?_) ?_ ?_
              rotate_left 1
              · go_simp
                all_goals with_reducible rfl
              refine wpAnyX_take (i := 10) (v := ?_) rfl (by kernel_rfl) (by kernel_rfl) (by kernel_rfl) (by kernel_rfl) (fun _ _ _ h => h) (Or.inl ⟨by rfl, ?_⟩) trivial ?_
              rotate_left 1
              · rintro w' _; go_simp
                all_goals with_reducible rfl
              refine wpAnyX_norm (a' := ?_) ?_ ?_
              rotate_left 1
              · go_simp
                all_goals with_reducible rfl
              refine wpAnyX_take (i := 11) (v := ?_) rfl (by kernel_rfl) (by kernel_rfl) (by kernel_rfl) (by kernel_rfl) (fun _ _ _ h => h) (Or.inl ⟨by rfl, ?_⟩) trivial ?_
              rotate_left 1
              · rintro w' _; go_simp
                all_goals with_reducible rfl
              refine wpAnyX_norm (a' := ?_) ?_ ?_
              rotate_left 1
              · go_simp
                all_goals with_reducible rfl
              refine wpAnyX_take (i := 13) (v := ?_) rfl (by kernel_rfl) (by kernel_rfl) (by kernel_rfl) (by kernel_rfl) (fun _ _ _ h => h) (Or.inl ⟨by rfl, ?_⟩) trivial ?_
              rotate_left 1
              · rintro w' _; go_simp
                all_goals with_reducible rfl
              refine wpAnyX_norm (a' := ?_) ?_ ?_
              rotate_left 1
              · go_simp
                all_goals with_reducible rfl
              refine wpAnyX_take (i := 14) (v := ?_) rfl (by kernel_rfl) (by kernel_rfl) (by kernel_rfl) (by kernel_rfl) (fun _ _ _ h => h) (Or.inl ⟨by rfl, ?_⟩) trivial ?_
              rotate_left 1
              · rintro w' _; go_simp
                all_goals with_reducible rfl
              refine wpAnyX_norm (a' := ?_) ?_ ?_
              rotate_left 1
              · go_simp
                all_goals with_reducible rfl
              refine wpAnyX_take (i := 15) (v := ?_) rfl (by kernel_rfl) (by kernel_rfl) (by kernel_rfl) (by kernel_rfl) (fun _ _ _ h => h) (Or.inl ⟨by rfl, ?_⟩) trivial ?_
              rotate_left 1
              · rintro w' _; go_simp
                all_goals with_reducible rfl
              refine wpAnyX_norm (a' := ?_) ?_ ?_
              rotate_left 1
              · go_simp
                all_goals with_reducible rfl
              refine wpAnyX_take (i := 16) (v := ?_) rfl (by kernel_rfl) (by kernel_rfl) (by kernel_rfl) (by kernel_rfl) (fun _ _ _ h => h) (Or.inl ⟨by rfl, ?_⟩) trivial ?_
              rotate_left 1
              · rintro w' _; go_simp
                all_goals with_reducible rfl
              refine wpAnyX_norm (a' := ?_) ?_ ?_
              rotate_left 1
              · go_simp
                all_goals with_reducible rfl
              refine wpAnyX_one (i := 12) (by kernel_rfl) rfl (fun K hK => ?_)
              go_simp
              refine (H56.out _).mono ?_
              rintro e w2 ⟨rfl, hb2⟩
              refine hK _ _ (fun _ => trivial) ?_
              clear hK K
              refine wpAnyX_take (i := 17) (v := ?_) rfl (by kernel_rfl) (by kernel_rfl) (by kernel_rfl) (by kernel_rfl) (fun _ _ _ h => h) (Or.inl ⟨by rfl, ?_⟩) trivial ?_
              rotate_left 1
              · rintro w' _; go_simp
                all_goals with_reducible rfl
              refine wpAnyX_norm (a' := ?_) ?_ ?_
              rotate_left 1
              · go_simp
                all_goals with_reducible rfl
              refine wpAnyX_take (i := 18) (v := ?_) rfl (by kernel_rfl) (by kernel_rfl) (by kernel_rfl) (by kernel_rfl) (fun _ _ _ h => h) (Or.inl ⟨by rfl, ?_⟩) trivial ?_
              rotate_left 1
              · rintro w' _; go_simp
                all_goals with_reducible rfl
              refine wpAnyX_norm (a' := ?_) ?_ ?_
              rotate_left 1
              · go_simp
                all_goals with_reducible rfl
              refine wpAnyX_one (i := 19) (by kernel_rfl) rfl (fun K hK => ?_)
              go_simp
              refine (need_not (by simp [Hck.out]) _).mono ?_
              rintro e w3 ⟨rfl, rfl⟩
              exact ⟨rfl, ⟨fun xs hx => (by rw [Hfin.out] at hx; cases hx), fun _ => rfl, hbw.drew.trans (hb2.mono (by show w.heap.size ≤ wr.heap.size; omega))⟩⟩
          · have hst : sheetStep acc u = none := sheetStep_no (fun hh => hc32 (by have := hh.2.1; rw [show u.length - 2 = m by omega, gm] at this; simpa using this))
            have hfin := Hrd.out
            rw [HP.out, hst] at hfin
            have Hfin := Lib.hid hfin; clear hfin hst
            have hx : ((c.toNat : Int) == 32) = false := by
              simp
              intro hh
              exact hc32 (UInt8.toNat.inj (by have : (c.toNat : Int) = 32 := hh; show c.toNat = 32; omega))
            clear hc32 gm
            have Hm := Lib.hid hm; clear hm
            go_wp2_with fail
            refine wp_region_X (fun _ => True) (fun _ => false) (by kernel_rfl) ?_
            refine wpAnyX_take (i := 0) (v := ?_) rfl (by kernel_rfl) (by kernel_rfl) (by kernel_rfl) (by kernel_rfl) (fun _ _ _ h => h) (Or.inl ⟨by rfl, ?_⟩) trivial ?_
            rotate_left 1
            · rintro w' _; go_simp
              all_goals with_reducible rfl
            refine wpAnyX_norm (a' := ?_) ?_ ?_
            rotate_left 1
            · go_simp
              all_goals with_reducible rfl
            refine wpAnyX_take (i := 1) (v := ?_) rfl (by kernel_rfl) (by kernel_rfl) (by kernel_rfl) (by kernel_rfl) (fun _ _ _ h => h) (Or.inl ⟨by rfl, ?_⟩) trivial ?_
            rotate_left 1
            · rintro w' _; go_simp
              all_goals with_reducible rfl
            refine wpAnyX_norm (a' := ?_) ?_ ?_
            rotate_left 1
            · go_simp
              all_goals with_reducible rfl
            refine wpAnyX_take (i := 2) (v := ?_) rfl (by kernel_rfl) (by kernel_rfl) (by kernel_rfl) (by kernel_rfl) (fun _ _ _ h => h) (Or.inl ⟨by rfl, ?_⟩) trivial ?_
            rotate_left 1
            · rintro w' _; go_simp
              all_goals with_reducible rfl
            refine wpAnyX_norm (a' := ?_) ?_ ?_
            rotate_left 1
            · go_simp
              all_goals with_reducible rfl
            refine wpAnyX_take (i := 3) (v := ?_) rfl (by kernel_rfl) (by kernel_rfl) (by kernel_rfl) (by kernel_rfl) (fun _ _ _ h => h) (Or.inl ⟨by rfl, ?_⟩) trivial ?_
            rotate_left 1
            · rintro w' _; go_simp
              all_goals with_reducible rfl
            refine wpAnyX_norm (a' := ?_) ?_ ?_
            rotate_left 1
            · go_simp
              all_goals with_reducible rfl
            refine wpAnyX_take (i := 4) (v := ?_) rfl (by kernel_rfl) (by kernel_rfl) (by kernel_rfl) (by kernel_rfl) (fun _ _ _ h => h) (Or.inl ⟨by rfl, ?_⟩) trivial ?_
            rotate_left 1
            · rintro w' _; go_simp
              all_goals with_reducible rfl
            refine wpAnyX_norm (a' := ?_) ?_ ?_
            rotate_left 1
            · go_simp
              all_goals with_reducible rfl
            refine wpAnyX_take (i := 5) (v := ?_) rfl (by kernel_rfl) (by kernel_rfl) (by kernel_rfl) (by kernel_rfl) (fun _ _ _ h => h) (Or.inl ⟨by rfl, ?_⟩) trivial ?_
            rotate_left 1
            · rintro w' _; go_simp
              all_goals with_reducible rfl
            refine wpAnyX_norm (a' := ?_) ?_ ?_
            rotate_left 1
            · go_simp
              all_goals with_reducible rfl
            refine wpAnyX_take (i := 6) (v := ?_) rfl (by kernel_rfl) (by kernel_rfl) (by kernel_rfl) (by kernel_rfl) (fun _ _ _ h => h) (Or.inl ⟨by rfl, ?_⟩) trivial ?_
            rotate_left 1
            · rintro w' _; go_simp
              all_goals with_reducible rfl
            refine wpAnyX_norm (a' := ?_) ?_ ?_
            rotate_left 1
            · go_simp
              all_goals with_reducible rfl
            refine wpAnyX_take (i := 7) (v := ?_) rfl (by kernel_rfl) (by kernel_rfl) (by kernel_rfl) (by kernel_rfl) (fun _ _ _ h => h) (Or.inl ⟨by rfl, ?_⟩) trivial ?_
            rotate_left 1
            · rintro w' _; go_simp
              all_goals with_reducible rfl
            refine wpAnyX_norm (a' := ?_) ?_ ?_
            rotate_left 1
            · go_simp
              all_goals with_reducible rfl
            refine wpAnyX_take (i := 8) (v := ?_) rfl (by kernel_rfl) (by kernel_rfl) (by kernel_rfl) (by kernel_rfl) (fun _ _ _ h => h) (Or.inl ⟨by rfl, ?_⟩) trivial ?_
            rotate_left 1
            · rintro w' _; go_simp
              all_goals with_reducible rfl
            refine wpAnyX_norm (a' := ?_) ?_ ?_
            rotate_left 1
            · go_simp
              all_goals with_reducible rfl
            refine wpAnyX_take (i := 9) (v := undef) rfl (by kernel_rfl) (by kernel_rfl) (by kernel_rfl) (by kernel_rfl) (fun _ _ _ h => h) (Or.inr ⟨by rfl, rfl⟩) trivial ?_
            refine wpAnyX_norm (a' := ?_) ?_ ?_
            rotate_left 1
            · go_simp
              all_goals with_reducible rfl
            refine wpAnyX_take (i := 10) (v := undef) rfl (by kernel_rfl) (by kernel_rfl) (by kernel_rfl) (by kernel_rfl) (fun _ _ _ h => h) (Or.inr ⟨by rfl, rfl⟩) trivial ?_
            refine wpAnyX_norm (a' := ?_) ?_ ?_
            rotate_left 1
            · go_simp
              all_goals with_reducible rfl
            refine wpAnyX_take (i := 11) (v := undef) rfl (by kernel_rfl) (by kernel_rfl) (by kernel_rfl) (by kernel_rfl) (fun _ _ _ h => h) (Or.inr ⟨by rfl, rfl⟩) trivial ?_
            refine wpAnyX_norm (a' := ?_) ?_ ?_
            rotate_left 1
            · go_simp
              all_goals with_reducible rfl
            refine wpAnyX_take (i := 13) (v := undef) rfl (by kernel_rfl) (by kernel_rfl) (by kernel_rfl) (by kernel_rfl) (fun _ _ _ h => h) (Or.inr ⟨by rfl, rfl⟩) trivial ?_
            refine wpAnyX_norm (a' := ?_) ?_ ?_
            rotate_left 1
            · go_simp
              all_goals with_reducible rfl
            refine wpAnyX_take (i := 14) (v := undef) rfl (by kernel_rfl) (by kernel_rfl) (by kernel_rfl) (by kernel_rfl) (fun _ _ _ h => h) (Or.inr ⟨by rfl, rfl⟩) trivial ?_
            refine wpAnyX_norm (a' := ?_) ?_ ?_
            rotate_left 1
            · go_simp
              all_goals with_reducible rfl
            refine wpAnyX_take (i := 15) (v := undef) rfl (by kernel_rfl) (by kernel_rfl) (by kernel_rfl) (by kernel_rfl) (fun _ _ _ h => h) (Or.inr ⟨by rfl, rfl⟩) trivial ?_
            refine wpAnyX_norm (a' := ?_) ?_ ?_
            rotate_left 1
            · go_simp
              all_goals with_reducible rfl
            refine wpAnyX_take (i := 16) (v := undef) rfl (by kernel_rfl) (by kernel_rfl) (by kernel_rfl) (by kernel_rfl) (fun _ _ _ h => h) (Or.inr ⟨by rfl, rfl⟩) trivial ?_
            refine wpAnyX_norm (a' := ?_) ?_ ?_
            rotate_left 1
            · go_simp
              all_goals with_reducible rfl
            refine wpAnyX_one (i := 12) (by kernel_rfl) rfl (fun K hK => ?_)
            go_simp
            refine hK _ _ (fun _ => trivial) ?_
            clear hK K
            refine wpAnyX_take (i := 17) (v := undef) rfl (by kernel_rfl) (by kernel_rfl) (by kernel_rfl) (by kernel_rfl) (fun _ _ _ h => h) (Or.inr ⟨by rfl, rfl⟩) trivial ?_
            refine wpAnyX_norm (a' := ?_) ?_ ?_
            rotate_left 1
            · go_simp
              all_goals with_reducible rfl
            refine wpAnyX_take (i := 18) (v := ?_) rfl (by kernel_rfl) (by kernel_rfl) (by kernel_rfl) (by kernel_rfl) (fun _ _ _ h => h) (Or.inl ⟨by rfl, ?_⟩) trivial ?_
            rotate_left 1
            · rintro w' _; go_simp
              all_goals with_reducible rfl
            refine wpAnyX_norm (a' := ?_) ?_ ?_
            rotate_left 1
            · go_simp
              all_goals with_reducible rfl
            refine wpAnyX_one (i := 19) (by kernel_rfl) rfl (fun K hK => ?_)
            go_simp
            refine (need_not rfl _).mono ?_
            rintro e w3 ⟨rfl, rfl⟩
            exact ⟨rfl, ⟨fun xs hx => (by rw [Hfin.out] at hx; cases hx), fun _ => rfl, hbw.drew⟩⟩
        · have hst : sheetStep acc u = none := sheetStep_no (fun hh => h2 hh.1)
          have hfin := Hrd.out
          rw [HP.out, hst] at hfin
          have Hfin := Lib.hid hfin; clear hfin hst
          have hle : decide ((2 : Int) < (u.length : Int)) = false := by rw [decide_eq_false_iff_not]; omega
          have hle2 : (u.length : Int) ≤ 2 := by omega
          go_wp2_with fail
          refine wp_region_X (fun _ => True) (fun _ => false) (by kernel_rfl) ?_
          refine wpAnyX_take (i := 0) (v := ?_) rfl (by kernel_rfl) (by kernel_rfl) (by kernel_rfl) (by kernel_rfl) (fun _ _ _ h => h) (Or.inl ⟨by rfl, ?_⟩) trivial ?_
          rotate_left 1
          · rintro w' _; go_simp
            all_goals with_reducible rfl
          refine wpAnyX_norm (a' := ?_) ?_ ?_
          rotate_left 1
          · go_simp
            all_goals with_reducible rfl
          refine wpAnyX_take (i := 1) (v := ?_) rfl (by kernel_rfl) (by kernel_rfl) (by kernel_rfl) (by kernel_rfl) (fun _ _ _ h => h) (Or.inl ⟨by rfl, ?_⟩) trivial ?_
          rotate_left 1
          · rintro w' _; go_simp
            all_goals with_reducible rfl
          refine wpAnyX_norm (a' := ?_) ?_ ?_
          rotate_left 1
          · go_simp
            all_goals with_reducible rfl
          refine wpAnyX_take (i := 2) (v := ?_) rfl (by kernel_rfl) (by kernel_rfl) (by kernel_rfl) (by kernel_rfl) (fun _ _ _ h => h) (Or.inl ⟨by rfl, ?_⟩) trivial ?_
          rotate_left 1
          · rintro w' _; go_simp
            all_goals with_reducible rfl
          refine wpAnyX_norm (a' := ?_) ?_ ?_
          rotate_left 1
          · go_simp
            all_goals with_reducible rfl
          refine wpAnyX_take (i := 3) (v := undef) rfl (by kernel_rfl) (by kernel_rfl) (by kernel_rfl) (by kernel_rfl) (fun _ _ _ h => h) (Or.inr ⟨by rfl, rfl⟩) trivial ?_
          refine wpAnyX_norm (a' := ?_) ?_ ?_
          rotate_left 1
          · go_simp
            all_goals with_reducible rfl
          refine wpAnyX_take (i := 4) (v := undef) rfl (by kernel_rfl) (by kernel_rfl) (by kernel_rfl) (by kernel_rfl) (fun _ _ _ h => h) (Or.inr ⟨by rfl, rfl⟩) trivial ?_
          refine wpAnyX_norm (a' := ?_) ?_ ?_
          rotate_left 1
          · go_simp
            all_goals with_reducible rfl
          refine wpAnyX_take (i := 5) (v := undef) rfl (by kernel_rfl) (by kernel_rfl) (by kernel_rfl) (by kernel_rfl) (fun _ _ _ h => h) (Or.inr ⟨by rfl, rfl⟩) trivial ?_
          refine wpAnyX_norm (a' := ?_) ?_ ?_
          rotate_left 1
          · go_simp
            all_goals with_reducible rfl
          refine wpAnyX_take (i := 6) (v := undef) rfl (by kernel_rfl) (by kernel_rfl) (by kernel_rfl) (by kernel_rfl) (fun _ _ _ h => h) (Or.inr ⟨by rfl, rfl⟩) trivial ?_
          refine wpAnyX_norm (a' := ?_) ?_ ?_
          rotate_left 1
          · go_simp
            all_goals with_reducible rfl
          refine wpAnyX_take (i := 7) (v := ?_) rfl (by kernel_rfl) (by kernel_rfl) (by kernel_rfl) (by kernel_rfl) (fun _ _ _ h => h) (Or.inl ⟨by rfl, ?_⟩) trivial ?_
          rotate_left 1
          · rintro w' _; go_simp
            all_goals with_reducible rfl
          refine wpAnyX_norm (a' := ?_) ?_ ?_
          rotate_left 1
          · go_simp
            all_goals with_reducible rfl
          refine wpAnyX_take (i := 8) (v := ?_) rfl (by kernel_rfl) (by kernel_rfl) (by kernel_rfl) (by kernel_rfl) (fun _ _ _ h => h) (Or.inl ⟨by rfl, ?_⟩) trivial ?_
          rotate_left 1
          · rintro w' _; go_simp
            all_goals with_reducible rfl
          refine wpAnyX_norm (a' := ?_) ?_ ?_
          rotate_left 1
          · go_simp
            all_goals with_reducible rfl
          refine wpAnyX_take (i := 9) (v := undef) rfl (by kernel_rfl) (by kernel_rfl) (by kernel_rfl) (by kernel_rfl) (fun _ _ _ h => h) (Or.inr ⟨by rfl, rfl⟩) trivial ?_
          refine wpAnyX_norm (a' := ?_) ?_ ?_
          rotate_left 1
          · go_simp
            all_goals with_reducible rfl
          refine wpAnyX_take (i := 10) (v := undef) rfl (by kernel_rfl) (by kernel_rfl) (by kernel_rfl) (by kernel_rfl) (fun _ _ _ h => h) (Or.inr ⟨by rfl, rfl⟩) trivial ?_
          refine wpAnyX_norm (a' := ?_) ?_ ?_
          rotate_left 1
          · go_simp
            all_goals with_reducible rfl
          refine wpAnyX_take (i := 11) (v := undef) rfl (by kernel_rfl) (by kernel_rfl) (by kernel_rfl) (by kernel_rfl) (fun _ _ _ h => h) (Or.inr ⟨by rfl, rfl⟩) trivial ?_
          refine wpAnyX_norm (a' := ?_) ?_ ?_
          rotate_left 1
          · go_simp
            all_goals with_reducible rfl
          refine wpAnyX_take (i := 13) (v := undef) rfl (by kernel_rfl) (by kernel_rfl) (by kernel_rfl) (by kernel_rfl) (fun _ _ _ h => h) (Or.inr ⟨by rfl, rfl⟩) trivial ?_
          refine wpAnyX_norm (a' := ?_) ?_ ?_
          rotate_left 1
          · go_simp
            all_goals with_reducible rfl
          refine wpAnyX_take (i := 14) (v := undef) rfl (by kernel_rfl) (by kernel_rfl) (by kernel_rfl) (by kernel_rfl) (fun _ _ _ h => h) (Or.inr ⟨by rfl, rfl⟩) trivial ?_
          refine wpAnyX_norm (a' := ?_) ?_ ?_
          rotate_left 1
          · go_simp
            all_goals with_reducible rfl
          refine wpAnyX_take (i := 15) (v := undef) rfl (by kernel_rfl) (by kernel_rfl) (by kernel_rfl) (by kernel_rfl) (fun _ _ _ h => h) (Or.inr ⟨by rfl, rfl⟩) trivial ?_
          refine wpAnyX_norm (a' := ?_) ?_ ?_
          rotate_left 1
          · go_simp
            all_goals with_reducible rfl
          refine wpAnyX_take (i := 16) (v := undef) rfl (by kernel_rfl) (by kernel_rfl) (by kernel_rfl) (by kernel_rfl) (fun _ _ _ h => h) (Or.inr ⟨by rfl, rfl⟩) trivial ?_
          refine wpAnyX_norm (a' := ?_) ?_ ?_
          rotate_left 1
          · go_simp
            all_goals with_reducible rfl
          refine wpAnyX_one (i := 12) (by kernel_rfl) rfl (fun K hK => ?_)
          go_simp
          refine hK _ _ (fun _ => trivial) ?_
          clear hK K
          refine wpAnyX_take (i := 17) (v := undef) rfl (by kernel_rfl) (by kernel_rfl) (by kernel_rfl) (by kernel_rfl) (fun _ _ _ h => h) (Or.inr ⟨by rfl, rfl⟩) trivial ?_
          refine wpAnyX_norm (a' := ?_) ?_ ?_
          rotate_left 1
          · go_simp
            all_goals with_reducible rfl
          refine wpAnyX_take (i := 18) (v := ?_) rfl (by kernel_rfl) (by kernel_rfl) (by kernel_rfl) (by kernel_rfl) (fun _ _ _ h => h) (Or.inl ⟨by rfl, ?_⟩) trivial ?_
          rotate_left 1
          · rintro w' _; go_simp
            all_goals with_reducible rfl
          refine wpAnyX_norm (a' := ?_) ?_ ?_
          rotate_left 1
          · go_simp
            all_goals with_reducible rfl
          refine wpAnyX_one (i := 19) (by kernel_rfl) rfl (fun K hK => ?_)
          go_simp
          refine (need_not rfl _).mono ?_
          rintro e w3 ⟨rfl, rfl⟩
          exact ⟨rfl, ⟨fun xs hx => (by rw [Hfin.out] at hx; cases hx), fun _ => rfl, hbw.drew⟩⟩
      · have he : k = ls.length := by omega
        rw [he, List.drop_length, sheetsA] at hP
        have he2 := he
        clear he
        have hfin := Hrd.out
        rw [hP] at hfin
        dsimp only at hfin
        have hnest := hnest.nest
        obtain ⟨cs, hc1, hc2⟩ := hnest
        obtain ⟨va, vcap, rfl, _, _⟩ := own_slice hc1
        have hnest : NestS w1.heap.size wr (.slice va acc.length vcap) acc := ⟨cs, hc1, hc2⟩
        obtain ⟨_, hR⟩ := nestS_rows hnest wr.heap.size (Nat.le_refl _)
        have h53 := sheetError_any wr.heap.size acc va vcap wr (Nat.le_refl _) hR (by omega)
        have H53 := Lib.hid h53; clear h53
        have Hnest := Lib.hid hnest; clear hnest hc1 hc2 hR hP he2
        by_cases hz : sheetsErr acc = 0
        · rw [hz] at H53
          rw [if_pos hz] at hfin
          have Hfin := Lib.hid hfin; clear hfin hz
          go_wp2_with (first
            | (go_at_call 53; refine H53.out.mono ?_; rintro e w5 ⟨rfl, hb5⟩)
            | (go_at_call 48; refine (need_is rfl _).mono ?_; rintro e w6 ⟨rfl, rfl⟩))
          go_ret
          refine ⟨fun xs hx => ?_, fun hx => (by rw [Hfin.out] at hx; cases hx), hbw.trans (hb5.mono (by omega))⟩
          rw [Hfin.out] at hx
          injection hx with hx
          subst hx
          exact ⟨_, rfl, (Hnest.out.le hs1).later hb5⟩
        · have hne : (sheetsErr acc == 0) = false := by simpa using hz
          rw [if_neg hz] at hfin
          have Hfin := Lib.hid hfin; clear hfin hz
          generalize sheetsErr acc = q at *
          go_wp2_with (first
            | (go_at_call 53; refine H53.out.mono ?_; rintro e w5 ⟨rfl, hb5⟩)
            | (go_at_call 48; refine (need_not rfl _).mono ?_; rintro e w6 ⟨rfl, rfl⟩))
          exact ⟨rfl, ⟨fun xs hx => (by rw [Hfin.out] at hx; cases hx), fun _ => rfl, hbw.trans (hb5.mono (by omega))⟩⟩
end Go.Proofs.YtjmhpfedglindaaGreatDoor
