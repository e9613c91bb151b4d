/- F1: the feeler: reading bits. -/
import Derived.Test.YtjmhpfedglindaaGreatDoorP1
import Derived.WalkLawsBesides
import Derived.Laws.AppendOwn
set_option linter.unusedVariables false
set_option linter.unusedSimpArgs false
namespace Go.Proofs.YtjmhpfedglindaaGreatDoor
open Go.RowKit

/-- The panic of what cannot be read. -/
def misfit : List PanicEntry := [{ v := .iface 132 (.agg #[.int .i64 8]), recovered := false }]

theorem need_true (w : World) : Calls Tryz.prog 48 #[.bool true] w fun e w' => e = .returned (.tuple #[]) ∧ w' = w := by
  go_enter Tryz.func48, Tryz.ntmps48
  go_wp2
  go_end0
  exact ⟨rfl, rfl⟩
theorem need_false (w : World) : Calls Tryz.prog 48 #[.bool false] w fun e w' => e = .panicked misfit ∧ w' = w := by
  go_enter Tryz.func48, Tryz.ntmps48
  go_wp2
  exact ⟨rfl, rfl, rfl⟩

/-- A feeler at block b that has the bits l before it; with those that it counted since it began to count there are T ones. -/
def IsFeeler (B b : Nat) (l : List Bool) (T : Nat) (w : World) : Prop :=
  B ≤ b ∧ ∃ (a : Option Addr) (cap ones : Nat), w.heap[b]? = some (.cells #[.slice a l.length cap, .int .i64 ones] 85 (0, 0)) ∧ ones + onesB l = T ∧ l.length ≤ cap ∧ cap ≤ 9223372036854775807 ∧
    (l = [] ∨ ∃ g off, a = some ⟨g, off, none⟩ ∧ g ≠ b ∧ (∃ cs fz, w.heap[g]? = some (.cells cs 3 fz)) ∧ ∀ j (h : j < l.length), w.cell? ⟨g, off + j, none⟩ = some (.int .i64 l[j].toNat))

theorem IsFeeler.later {B b : Nat} {l : List Bool} {T : Nat} {w W : World} (h : IsFeeler B b l T w) (hb : Below w.heap.size w W) : IsFeeler B b l T W := by
  obtain ⟨hB, a, cap, ones, hblk, hT, h1, h2, h3⟩ := h
  refine ⟨hB, a, cap, ones, (hb.block b (block_lt hblk)).trans hblk, hT, h1, h2, h3.imp id ?_⟩
  rintro ⟨g, off, ha, hgb, ⟨cs, fz, hg⟩, hc⟩
  exact ⟨g, off, ha, hgb, ⟨cs, fz, (hb.block g (block_lt hg)).trans hg⟩, fun j hj => (hb.cell (p := ⟨g, off + j, none⟩) (block_lt hg)).trans (hc j hj)⟩

/-- A store into a block that is neither the feeler nor a row of numbers. -/
theorem IsFeeler.set {B b : Nat} {l : List Bool} {T : Nat} {w : World} (h : IsFeeler B b l T w) {k : Nat} {cs : Array Value} {e : TypeId} {fz : Nat × Nat} (hk : w.heap[k]? = some (.cells cs e fz)) (hkb : k ≠ b) (he : e ≠ 3) (i : Nat) (v : Value) : IsFeeler B b l T (w.setCell ⟨k, i, none⟩ v) := by
  obtain ⟨hB, a, cap, ones, hblk, hT, h1, h2, h3⟩ := h
  refine ⟨hB, a, cap, ones, (Below.heap_setCell _ _ _ b hkb.symm).trans hblk, hT, h1, h2, h3.imp id ?_⟩
  rintro ⟨g, off, ha, hgb, ⟨cs', fz', hg⟩, hc⟩
  have hgk : g ≠ k := by
    rintro rfl
    rw [hg] at hk
    injection hk with hk
    injection hk with _ h _
    exact he h.symm
  exact ⟨g, off, ha, hgb, ⟨cs', fz', (Below.heap_setCell _ _ _ g hgk).trans hg⟩, fun j hj => (World.cell?_of_block (Below.heap_setCell _ _ _ g hgk)).trans (hc j hj)⟩

theorem grownBy_setCell {w : World} (b i : Nat) (v : Value) : w.grownBy (w.setCell ⟨b, i, none⟩ v) (some b) :=
  ⟨rfl, rfl, rfl, by simp, fun k _ hk => heap_setCell_other w ⟨b, i, none⟩ k v (fun e => hk (by simp [e]))⟩
theorem grownBy_refl (w : World) (row : Option Nat) : w.grownBy w row := ⟨rfl, rfl, rfl, Nat.le_refl _, fun _ _ _ => rfl⟩
theorem grownBy_trans {w w1 w2 : World} {row : Option Nat} (h : w.grownBy w1 row) (k : w1.grownBy w2 row) : w.grownBy w2 row :=
  ⟨k.os.trans h.os, k.tape.trans h.tape, k.output.trans h.output, Nat.le_trans h.size k.size, fun i hi hr => (k.block i (Nat.lt_of_lt_of_le hi h.size) hr).trans (h.block i hi hr)⟩
theorem below_of_grown {w W : World} {B b : Nat} (h : w.grownBy W (some b)) (hB : B ≤ b) (hBw : B ≤ w.heap.size) : Below B w W :=
  ⟨h.os, h.tape, h.output, h.size, fun k hk => h.block k (by omega) (by simp; omega)⟩

set_option maxRecDepth 100000 in
set_option maxHeartbeats 4000000 in
theorem feelBit_none (B b : Nat) (T : Nat) (w : World) (h : IsFeeler B b [] T w) :
    Calls Tryz.prog 49 #[.pointer (some ⟨b, 0, none⟩)] w fun e w' => e = .panicked misfit ∧ w' = w := by
  obtain ⟨hB, a, cap, ones, hblk, hT, h1, h2, h3⟩ := h
  have c0 := cell_of_block hblk 0
  simp at c0
  have Hblk := Lib.hid hblk; clear hblk
  go_enter Tryz.func49, Tryz.ntmps49
  go_wp2_with (go_at_call 48; refine (need_false _).mono ?_; rintro e w' ⟨rfl, rfl⟩)
  exact ⟨rfl, rfl, rfl⟩

set_option maxRecDepth 100000 in
set_option maxHeartbeats 4000000 in
theorem feelBit_some (B b : Nat) (c : Bool) (l : List Bool) (T : Nat) (w : World) (h : IsFeeler B b (c :: l) T w) (hT : T ≤ 1000000) (hl : l.length ≤ 1000000) :
    Calls Tryz.prog 49 #[.pointer (some ⟨b, 0, none⟩)] w fun e w' => e = .returned (.int .i64 c.toNat) ∧ IsFeeler B b l T w' ∧ w.grownBy w' (some b) := by
  obtain ⟨hB, a, cap, ones, hblk, hT1, h1, h2, h3⟩ := h
  obtain ⟨g, off, rfl, hgb, hg, hc⟩ := h3.resolve_left (by simp)
  have c0 := cell_of_block hblk 0
  have c1 := cell_of_block hblk 1
  have f0 := free_of_block hblk 0
  have f1 := free_of_block hblk 1
  simp at c0 c1
  have e0 := hc 0 (by simp)
  simp at e0
  have hcl : c.toNat ≤ 1 := by cases c <;> simp
  have hon : onesB (c :: l) = c.toNat + onesB l := by simp [onesB]
  simp only [List.length_cons] at h1
  have Hg := Lib.hid hg; clear hg
  have Hc := Lib.hid hc
  have Hblk := Lib.hid hblk; clear hblk hc
  go_enter Tryz.func49, Tryz.ntmps49
  by_cases hcap : cap = 1
  · subst hcap
    obtain rfl : l = [] := by apply List.eq_nil_of_length_eq_zero; omega
    simp only [List.length_nil, Nat.zero_add] at c0 Hblk
    go_wp2_with (go_at_call 48; refine (need_true _).mono ?_; rintro e w' ⟨rfl, rfl⟩)
    go_ret
    refine ⟨rfl, ⟨hB, some ⟨g, off, none⟩, 0, ones + c.toNat, ?_, by omega, by simp, by omega, .inl rfl⟩, grownBy_trans (grownBy_setCell _ _ _) (grownBy_setCell _ _ _)⟩
    rw [block_set (block_set Hblk.out 0 _) 1 _]
    simp
  · have hcap2 : (cap == 1) = false := by simpa using hcap
    go_wp2_with (go_at_call 48; refine (need_true _).mono ?_; rintro e w' ⟨rfl, rfl⟩)
    go_ret
    refine ⟨rfl, ⟨hB, some ⟨g, off + 1, none⟩, cap - 1, ones + c.toNat, ?_, by omega, by omega, by omega, .inr ⟨g, off + 1, rfl, hgb, ?_, ?_⟩⟩, grownBy_trans (grownBy_setCell _ _ _) (grownBy_setCell _ _ _)⟩
    · rw [block_set (block_set Hblk.out 0 _) 1 _]
      simp
    · obtain ⟨cs, fz, hg⟩ := Hg.out
      exact ⟨cs, fz, ((Below.heap_setCell _ _ _ g hgb).trans (Below.heap_setCell _ _ _ g hgb)).trans hg⟩
    · intro j hj
      have := Hc.out (j + 1) (by simp; omega)
      rw [World.cell?_of_block ((Below.heap_setCell _ _ _ g hgb).trans (Below.heap_setCell _ _ _ g hgb))]
      rw [Nat.add_assoc, Nat.add_comm 1 j, this]
      simp
end Go.Proofs.YtjmhpfedglindaaGreatDoor
