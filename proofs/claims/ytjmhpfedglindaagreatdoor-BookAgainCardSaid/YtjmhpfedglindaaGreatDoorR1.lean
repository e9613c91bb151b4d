/- R1: ReadPlates's inner function. -/
import Derived.Test.YtjmhpfedglindaaGreatDoorR0
import Derived.Test.YtjmhpfedglindaaGreatDoorP3
import Derived.Deep.RegionLaw
import Derived.Deep.RegionLawGrows
set_option linter.unusedVariables false
set_option linter.unusedSimpArgs false
namespace Go.Proofs.YtjmhpfedglindaaGreatDoor
open Go.RowKit

theorem step_append_own {P : Program} (w : World) {ops : Array Oper} {o : Oper} {a : Act} {Q : Exit → Act → World → Prop} {K : Act → World → Prop} {E : Prop}
    (hg : o.guard = none) (s x : Operand) (t : TypeId) (hop : o.op = Op.call { callee := Callee.builtin Builtin.append, args := #[s, x], argTypes := #[t, t] })
    (base : Nat) (e : TypeId) (i : TypeInfo) (z : Value) (size bytes : Nat) (h1 : P.underlying t = some (.slice e)) (h2 : P.info? e = some i) (h3 : i.zero = some z) (h4 : i.size = size) (h5 : i.bytes = bytes) (h6 : z.cells.size = size) (h7 : 0 < size)
    (v : Value) (k : Nat) (xs : List Value) (hs : a.eval s = v) (hown : w.ownsRow base e size v k xs) (ad : Addr) (m c : Nat) (news : List Value) (hx : a.eval x = .slice (some ad) m c) (hn : news.length = m * size)
    (hc : ∀ j u, news[j]? = some u → w.cell? (ad.add j) = some u) (h1c : ∀ u ∈ news, u.oneCell' = true) (b1 : k + m ≤ maxLen) (b2 : (k + m) * bytes ≤ 140737488355328) (b3 : base ≤ w.heap.size)
    (hK : ∀ v' w', w'.ownsRow base e size v' (k + m) (xs ++ news) → w.grownBy w' v.ownBlock → K (a.put o.dst v') w') :
    if Region.wanted o (yielded ops a.tmps) = true then Oper.wp P o a w K Q else E := by
  have hw : Region.wanted o (yielded ops a.tmps) = true := by simp [Region.wanted, hg]
  rw [if_pos hw]
  obtain ⟨v', w', hrun, r1, r2, r3⟩ := run_append_own (P := P) w base t o.type e i z size bytes h1 h2 h3 h4 h5 h6 h7 v k xs hown ad m c news hn hc h1c b1 b2 b3
  unfold Oper.wp
  simp [execOp, hop, resolve, invoke, builtin, hs, hx, hrun, Result.andThen]
  exact hK v' w' r1 r2

theorem IsFeeler.other {B b : Nat} {l : List Bool} {T : Nat} {w W : World} (h : IsFeeler B b l T w) {row : Option Nat} (hg : w.grownBy W row) (hr : ∀ k, row = some k → ∃ cs fz, w.heap[k]? = some (.cells cs 51 fz)) : IsFeeler B b l T W := by
  obtain ⟨hB, a, cap, ones, hblk, hT, h1, h2, h3⟩ := h
  have ne : ∀ {k : Nat} {cs : Array Value} {e : TypeId} {fz : Nat × Nat}, w.heap[k]? = some (.cells cs e fz) → e ≠ 51 → some k ≠ row := by
    intro k cs e fz hk he hrow
    obtain ⟨cs', fz', hk'⟩ := hr k hrow.symm
    rw [hk] at hk'
    injection hk' with hk'
    injection hk' with _ h _
    exact he h
  refine ⟨hB, a, cap, ones, (hg.block b (block_lt hblk) (ne hblk (by decide))).trans hblk, hT, h1, h2, h3.imp id ?_⟩
  rintro ⟨g, off, ha, hgb, ⟨cs, fz, hgk⟩, hc⟩
  have hk := hg.block g (block_lt hgk) (ne hgk (by decide))
  exact ⟨g, off, ha, hgb, ⟨cs, fz, hk.trans hgk⟩, fun j hj => (World.cell?_of_block hk).trans (hc j hj)⟩
theorem IsFeeler.apart {B b : Nat} {l : List Bool} {T : Nat} {w : World} (h : IsFeeler B b l T w) {B' s n : Nat} {v : Value} {xs : List Value} (ho : w.ownsRow B' 51 s v n xs) : v.ownBlock = none ∨ v.ownBlock ≠ some b := by
  obtain ⟨hB, a, cap, ones, hblk, _⟩ := h
  rcases ho.2 with ⟨rfl, _⟩ | ⟨g, cap', cur, rfl, _, hg, _⟩
  · exact .inl rfl
  · refine .inr fun e => ?_
    obtain rfl : g = b := by simpa [Value.ownBlock] using e
    rw [hblk] at hg
    injection hg with hg
    injection hg with _ h _
    cases h
theorem own_tag {w : World} {B s n : Nat} {e : TypeId} {v : Value} {xs : List Value} (ho : w.ownsRow B e s v n xs) : ∀ k, v.ownBlock = some k → ∃ cs fz, w.heap[k]? = some (.cells cs e fz) := by
  intro k hk
  rcases ho.2 with ⟨rfl, _⟩ | ⟨g, cap', cur, rfl, _, hg, _⟩
  · cases hk
  · obtain rfl : g = k := by simpa [Value.ownBlock] using hk
    exact ⟨_, _, hg⟩
def leftLen (b : Nat) (w : World) : Nat := match w.cell? ⟨b, 0, none⟩ with | some (.slice _ n _) => n | _ => 0
theorem IsFeeler.left {B b : Nat} {l : List Bool} {T : Nat} {w : World} (h : IsFeeler B b l T w) : leftLen b w = l.length := by
  obtain ⟨hB, a, cap, ones, hblk, _⟩ := h
  have := cell_of_block hblk 0
  simp at this
  simp [leftLen, this]
theorem IsFeeler.cell0 {B b : Nat} {l : List Bool} {T : Nat} {w : World} (h : IsFeeler B b l T w) : ∃ a cap, w.cell? ⟨b, 0, none⟩ = some (.slice a l.length cap) := by
  obtain ⟨hB, a, cap, ones, hblk, _⟩ := h
  exact ⟨a, cap, by simpa using cell_of_block hblk 0⟩

set_option maxRecDepth 100000 in
set_option maxHeartbeats 8000000 in
theorem readPl1_any (N : Nat) (bs : List UInt8) (a : Option Addr) (cap bx : Nat) (w : World) (hlen : bs.length ≤ 100000) (hN : N ≤ w.heap.size) (hr : RowsR u8R 1 N w a bs) (hbx : w.cell? ⟨bx, 0, none⟩ = some (.slice a bs.length cap)) :
    Calls Tryz.prog 44 #[.pointer (some ⟨bx, 0, none⟩)] w fun e W' => (∀ xs, readPl bs = some xs → ∃ v, e = .returned v ∧ W'.ownsRow w.heap.size 51 3 v xs.length (encPs xs)) ∧ (readPl bs = none → e = .panicked misfit) ∧ Below w.heap.size w W' := by
  obtain ⟨i0, hi, hz0, hz1, hz2⟩ := info_parts infoPlate
  have h45 := newFeeler_any N a cap bs hlen w hN hr
  have H45 := Lib.hid h45; clear h45
  have hbl := bitsOf_length bs
  have ho := onesB_le (bitsOf bs)
  have hrd : readPl bs = readPl bs := rfl
  conv at hrd => rhs; unfold readPl
  have Hrd := Lib.hid hrd; clear hrd
  generalize hl0 : bitsOf bs = l0 at *
  have h46 := fun W hI => feelNumber_any w.heap.size w.heap.size 8 l0 (onesB l0) W hI (by omega) (by omega) (by omega)
  have H46 := Lib.hid h46; clear h46
  by_cases h8 : 8 ≤ l0.length
  · rw [if_pos h8] at Hrd
    have hnv := valB_lt (l0.take 8)
    rw [List.length_take, Nat.min_eq_left h8] at hnv
    go_enter Tryz.func44, Tryz.ntmps44
    go_wp2_with (first
      | (go_at_call 45; refine H45.out.mono ?_; rintro e w1 ⟨rfl, hI1, hb1⟩)
      | (go_at_call 46; refine (H46.out _ hI1).mono ?_; rintro e w2 ⟨hs, _, hg2⟩; obtain ⟨rfl, hI2⟩ := hs h8))
    generalize valB (l0.take 8) = n at *
    have hb2 : Below w.heap.size w w2 := hb1.trans (below_of_grown hg2 (Nat.le_refl _) hb1.size)
    have hdl : (l0.drop 8).length ≤ l0.length := by rw [List.length_drop]; omega
    go_loopw [1, 3, 9] (fun v la i wr => ∃ (j : Nat) (acc : List Plate) (last : Int) (r : List Bool) (T : Nat), j ≤ n ∧ i = .int .i64 j ∧ la = .int .i64 last ∧ 0 ≤ last ∧ last ≤ j * 131072 ∧ acc.length = j ∧ platesA n [] 0 (l0.drop 8) = platesA (n - j) acc last r ∧ r.length ≤ l0.length ∧
      T ≤ 1000000 ∧ IsFeeler w.heap.size w.heap.size r T wr ∧ wr.ownsRow w.heap.size 51 3 v acc.length (encPs acc) ∧ Below w.heap.size w wr) (fun _ _ i _ => n - (intOf i).toNat)
    case atStart => exact ⟨0, [], 0, l0.drop 8, onesB l0, Nat.zero_le _, rfl, rfl, by omega, by omega, rfl, rfl, hdl, by omega, hI2, World.ownsRow_nil _ _ _ _, hb2⟩
    case round =>
      obtain ⟨j, acc, last, r, T, hj, rfl, rfl, hla0, hla1, hacc, hP, hrl, hT, hI, hown, hbr⟩ := hrel
      obtain ⟨v, rfl⟩ : ∃ v : Value, v = u1 := ⟨_, rfl⟩
      have hwr := hbr.size
      have h47 := feelPlate_any w.heap.size w.heap.size r T last wr hI hT (by omega) hla0 (by omega)
      have H47 := Lib.hid h47; clear h47
      by_cases hlt : j < n
      · have hnj : n - j = n - (j + 1) + 1 := by omega
        rw [hnj, platesA] at hP
        have hap := hI.apart hown
        have Hown := Lib.hid hown; clear hown
        cases hpp : plateP last r with
        | none =>
          rw [hpp] at hP
          have hnone : readPl bs = none := by rw [Hrd.out, hP]
          have Hnone := Lib.hid hnone; clear hnone
          have Hpp := Lib.hid hpp; clear hpp hP
          go_wp2_with (go_at_call 47; refine H47.out.mono ?_; rintro e w3 ⟨_, hp, hg3⟩; obtain rfl := hp Hpp.out)
          exact ⟨rfl, ⟨fun xs hx => (by rw [Hnone.out] at hx; cases hx), fun _ => rfl, hbr.trans (below_of_grown hg3 (Nat.le_refl _) hwr)⟩⟩
        | some xr =>
          obtain ⟨x, r'⟩ := xr
          rw [hpp] at hP
          obtain ⟨hx1, hx2, pre, hpre⟩ := plateP_ok hpp
          have hrl' : r'.length ≤ r.length := by rw [hpre]; simp
          have Hpp := Lib.hid hpp; clear hpp hpre
          have HP := Lib.hid hP; clear hP hnj
          go_wp2_with (go_at_call 47; refine H47.out.mono ?_; rintro e w3 ⟨hs, _, hg3⟩; obtain ⟨rfl, T', hT', hI3⟩ := hs x r' Hpp.out)
          have hb3 := below_of_grown hg3 (Nat.le_refl _) hwr
          have hown3 := Hown.out.kept hg3 hap
          have hs3 := hb3.size
          have hblk5 := block_new w3 (.cells #[.int .i64 x.number, .int .i64 x.cls, .int .i64 x.day] 51)
          have hown6 : ((w3.alloc (.cells #[.int .i64 x.number, .int .i64 x.cls, .int .i64 x.day] 51)).drew.alloc (.cells #[.int .i64 x.number, .int .i64 x.cls, .int .i64 x.day] 51)).ownsRow w.heap.size 51 3 v acc.length (encPs acc) := ((hown3.alloc _).drew).alloc _
          have hblk6 : ((w3.alloc (.cells #[.int .i64 x.number, .int .i64 x.cls, .int .i64 x.day] 51)).drew.alloc (.cells #[.int .i64 x.number, .int .i64 x.cls, .int .i64 x.day] 51)).heap[w3.heap.size + 1]? = some (.cells #[.int .i64 x.number, .int .i64 x.cls, .int .i64 x.day] 51 (0, 0)) := by
            have h := block_new (w3.alloc (.cells #[.int .i64 x.number, .int .i64 x.cls, .int .i64 x.day] 51)).drew (.cells #[.int .i64 x.number, .int .i64 x.cls, .int .i64 x.day] 51)
            have hs : (w3.alloc (.cells #[.int .i64 x.number, .int .i64 x.cls, .int .i64 x.day] 51)).drew.heap.size = w3.heap.size + 1 := World.size_alloc _ _
            rwa [hs] at h
          have hnew6 := three_cells hblk6 _ rfl
          have hb56 : Below w.heap.size w3 ((w3.alloc (.cells #[.int .i64 x.number, .int .i64 x.cls, .int .i64 x.day] 51)).drew.alloc (.cells #[.int .i64 x.number, .int .i64 x.cls, .int .i64 x.day] 51)) := (((Below.refl _ _).alloc (by omega) _).drew).alloc (by simp; omega) _
          have hI6 : IsFeeler w.heap.size w.heap.size r' T' ((w3.alloc (.cells #[.int .i64 x.number, .int .i64 x.cls, .int .i64 x.day] 51)).drew.alloc (.cells #[.int .i64 x.number, .int .i64 x.cls, .int .i64 x.day] 51)) :=
            hI3.later ((((Below.refl _ _).alloc (Nat.le_refl _) _).drew).alloc (by simp) _)
          have hnb : ∀ k, v.ownBlock = some k → w.heap.size ≤ k ∧ k < w3.heap.size := hown3.lt
          have hblk65 : ((w3.alloc (.cells #[.int .i64 x.number, .int .i64 x.cls, .int .i64 x.day] 51)).drew.alloc (.cells #[.int .i64 x.number, .int .i64 x.cls, .int .i64 x.day] 51)).heap[w3.heap.size]? = some (.cells #[.int .i64 x.number, .int .i64 x.cls, .int .i64 x.day] 51 (0, 0)) := block_old (w := (w3.alloc (.cells #[.int .i64 x.number, .int .i64 x.cls, .int .i64 x.day] 51)).drew) hblk5 _
          have htag := own_tag hown6
          have Hown6 := Lib.hid hown6; clear hown6
          have Hnew6 := Lib.hid hnew6; clear hnew6
          have Hblk65 := Lib.hid hblk65; clear hblk65 hblk6
          have Hb56 := Lib.hid hb56; clear hb56
          have HI6 := Lib.hid hI6; clear hI6
          have Hnb := Lib.hid hnb; clear hnb
          have Htag := Lib.hid htag; clear htag
          have d0 := cell_of_block hblk5 0
          have d1 := cell_of_block hblk5 1
          have d2 := cell_of_block hblk5 2
          simp at d0 d1 d2
          have hsz6 : ((w3.alloc (.cells #[.int .i64 x.number, .int .i64 x.cls, .int .i64 x.day] 51)).drew.alloc (.cells #[.int .i64 x.number, .int .i64 x.cls, .int .i64 x.day] 51)).heap.size = w3.heap.size + 2 := by simp
          have Hsz6 := Lib.hid hsz6; clear hsz6
          go_wp2_with fail
          go_region_law (
            (refine step_append_own _ rfl _ _ 22 rfl w.heap.size 51 i0 (.agg #[.int .i64 0, .int .i64 0, .int .i64 0]) 3 24 underlying22 hi hz0 hz1 hz2 rfl (by decide) _ _ _ rfl Hown6.out ⟨w3.heap.size + 1, 0, none⟩ 1 1 [.int .i64 x.number, .int .i64 x.cls, .int .i64 x.day] rfl rfl ?_ (fun x hx => by simp at hx; rcases hx with rfl | rfl | rfl <;> rfl) (by unfold maxLen; omega) (by omega) (by simp; omega) ?_
             · exact Hnew6.out
             intro v' w9 hown9 hgrow9
             obtain ⟨g', cap', rfl⟩ := ownsRow_succ hown9
             have hblk9 := (hgrow9.block w3.heap.size (Nat.lt_of_lt_of_le (Nat.lt_add_of_pos_right (Nat.succ_pos 1)) (Nat.le_of_eq Hsz6.out.symm)) (fun e => by have := Hnb.out _ e.symm; omega)).trans Hblk65.out
             have k0 := cell_of_block hblk9 0
             simp at k0))
          all_goals (
            go_wp2_with fail
            go_roundw
            case rel =>
              refine ⟨j + 1, acc ++ [x], x.number, r', T', by omega, by go_num, rfl, by omega, by omega, by simp [hacc], HP.out, by omega, hT', HI6.out.other hgrow9 (fun k e => Htag.out k e), ?_, (hbr.trans hb3).trans ((Hb56.out.grown hgrow9 (by rw [Hsz6.out]; omega) (fun k e => (Hnb.out k e).1)))⟩
              rw [encPs_snoc, List.length_append]
              simp only [List.length_cons, List.length_nil, Nat.zero_add]
              rw [hacc] at hown9 ⊢
              exact hown9
            case measure => simp [intOf]; omega)
      · obtain rfl : j = n := by omega
        subst hacc
        rw [Nat.sub_self, platesA] at hP
        have hres : readPl bs = if r.length < 8 ∧ platesErr acc = 0 ∧ onesB r = 0 then some acc else none := by rw [Hrd.out, hP]
        have Hres := Lib.hid hres; clear hres hP
        obtain ⟨fa, fcap, hc0⟩ := hI.cell0
        by_cases hr8 : r.length < 8
        · obtain ⟨va, vcap, rfl, _, _⟩ := own_slice hown
          obtain ⟨_, hR⟩ := rows_of_own hown wr.heap.size (Nat.le_refl _)
          have h36 := plateError_any wr.heap.size acc va vcap wr (Nat.le_refl _) hR (by omega)
          have hc1 := hI.cell1
          have hd8 : decide ((r.length : Int) < 8) = true := decide_eq_true (by omega)
          have Hown := Lib.hid hown; clear hown hR
          have H36 := Lib.hid h36; clear h36
          by_cases hz : platesErr acc = 0
          · rw [hz] at H36
            go_wp2_with (first
              | (go_at_call 36; refine H36.out.mono ?_; rintro e w5 ⟨rfl, hb5⟩; refine Hid.out ?_))
            have hI5 := hI.later hb5
            have hI5' := hI5.reset
            have e1 := hI5.cell1
            have f1 := hI5.free1 1
            have hb5' : Below w.heap.size w (w5.setCell ⟨w.heap.size, 1, none⟩ (.int .i64 0)) := (hbr.trans (hb5.mono hwr)).setCell (p := ⟨w.heap.size, 1, none⟩) (Nat.le_refl _) _
            have hap := hI5.apart (own_later Hown.out hb5)
            have hown5 : (w5.setCell ⟨w.heap.size, 1, none⟩ (.int .i64 0)).ownsRow w.heap.size 51 3 (.slice va acc.length vcap) acc.length (encPs acc) := (own_later Hown.out hb5).kept (grownBy_setCell _ _ _) hap
            have hor := onesB_le r
            obtain ⟨wo, rfl⟩ : ∃ wo : World, wo = wr := ⟨_, rfl⟩
            refine Lib.hid ?_
            go_wp2_with (go_at_call 48; refine (need_true _).mono ?_; rintro e w6 ⟨rfl, rfl⟩)
            generalize w6.setCell ⟨w.heap.size, 1, none⟩ (.int .i64 0) = w7 at *
            have Hown7 := Lib.hid hown5; clear hown5 Hown hap
            go_loopw [] (fun wr => ∃ q : List Bool, q.length ≤ r.length ∧ IsFeeler w.heap.size w.heap.size q (onesB r) wr ∧ wr.ownsRow w.heap.size 51 3 (.slice va acc.length vcap) acc.length (encPs acc) ∧ Below w.heap.size w wr) (fun wr => leftLen w.heap.size wr)
            case atStart => exact ⟨r, Nat.le_refl _, hI5', Hown7.out, hb5'⟩
            case round =>
              obtain ⟨q, hql, hIq, hownq, hbq⟩ := hrel
              obtain ⟨qa, qcap, hq0⟩ := hIq.cell0
              have hq1 := hIq.cell1
              have hwq := hbq.size
              cases q with
              | nil =>
                simp only [List.length_nil] at hq0
                have hone : onesB [] = 0 := rfl
                rw [hone, Nat.sub_zero] at hq1
                by_cases ho0 : onesB r = 0
                · have hsome : readPl bs = some acc := by rw [Hres.out, if_pos ⟨hr8, hz, ho0⟩]
                  have Hsome := Lib.hid hsome; clear hsome
                  rw [ho0] at hq1
                  go_wp2_with (go_at_call 48; refine (need_true _).mono ?_; rintro e w8 ⟨rfl, rfl⟩)
                  go_ret
                  refine ⟨fun xs hx => ?_, fun hx => (by rw [Hsome.out] at hx; cases hx), hbq⟩
                  rw [Hsome.out] at hx
                  injection hx with hx
                  subst hx
                  exact ⟨_, rfl, hownq⟩
                · have hnone : readPl bs = none := by rw [Hres.out, if_neg (fun h => ho0 h.2.2)]
                  have Hnone := Lib.hid hnone; clear hnone
                  have hon : ((onesB r : Int) == 0) = false := by simpa using ho0
                  generalize onesB r = oo at *
                  go_wp2_with (go_at_call 48; refine (need_false _).mono ?_; rintro e w8 ⟨rfl, rfl⟩)
                  exact ⟨rfl, ⟨fun xs hx => (by rw [Hnone.out] at hx; cases hx), fun _ => rfl, hbq⟩⟩
              | cons c q =>
                have h49 := feelBit_some w.heap.size w.heap.size c q (onesB r) wr hIq (by omega) (by simp at hql; omega)
                have H49 := Lib.hid h49; clear h49
                have hlq := hIq.left
                have hapq := hIq.apart hownq
                have hd0 : decide ((0 : Int) < ((c :: q).length : Int)) = true := decide_eq_true (by simp)
                have Hownq := Lib.hid hownq; clear hownq
                go_wp2_with (go_at_call 49; refine H49.out.mono ?_; rintro e w8 ⟨rfl, hI8, hg8⟩)
                go_roundw
                case rel => exact ⟨q, by simp at hql; omega, hI8, Hownq.out.kept hg8 hapq, hbq.trans (below_of_grown hg8 (Nat.le_refl _) hwq)⟩
                case measure => rw [hI8.left, hlq]; simp
          · have hne : (platesErr acc == 0) = false := by simpa using hz
            have hnone : readPl bs = none := by rw [Hres.out, if_neg (fun h => hz h.2.1)]
            have Hnone := Lib.hid hnone; clear hnone
            generalize platesErr acc = q at *
            go_wp2_with (first
              | (go_at_call 36; refine H36.out.mono ?_; rintro e w5 ⟨rfl, hb5⟩)
              | (go_at_call 48; refine (need_false _).mono ?_; rintro e w6 ⟨rfl, rfl⟩))
            exact ⟨rfl, ⟨fun xs hx => (by rw [Hnone.out] at hx; cases hx), fun _ => rfl, hbr.trans (hb5.mono hwr)⟩⟩
        · have hd8 : decide ((r.length : Int) < 8) = false := decide_eq_false (by omega)
          have hnone : readPl bs = none := by rw [Hres.out, if_neg (fun h => hr8 h.1)]
          have Hnone := Lib.hid hnone; clear hnone
          go_wp2_with (go_at_call 48; refine (need_false _).mono ?_; rintro e w6 ⟨rfl, rfl⟩)
          exact ⟨rfl, ⟨fun xs hx => (by rw [Hnone.out] at hx; cases hx), fun _ => rfl, hbr⟩⟩
  · rw [if_neg h8] at Hrd
    go_enter Tryz.func44, Tryz.ntmps44
    go_wp2_with (first
      | (go_at_call 45; refine H45.out.mono ?_; rintro e w1 ⟨rfl, hI1, hb1⟩)
      | (go_at_call 46; refine (H46.out _ hI1).mono ?_; rintro e w2 ⟨_, hs, hg2⟩; obtain rfl := hs (by omega)))
    exact ⟨rfl, ⟨fun xs hx => (by rw [Hrd.out] at hx; cases hx), fun _ => rfl, hb1.trans (below_of_grown hg2 (Nat.le_refl _) hb1.size)⟩⟩
end Go.Proofs.YtjmhpfedglindaaGreatDoor
