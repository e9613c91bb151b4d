/- P1: the punch. -/
import Derived.Test.YtjmhpfedglindaaGreatDoorP0
import Derived.Test.YtjmhpfedglindaaGreatDoorC1
import Derived.Lib.BufferAt
import Derived.Deep.QuietTactic
import Derived.BigQuiet
set_option linter.unusedVariables false
set_option linter.unusedSimpArgs false
namespace Go.Proofs.YtjmhpfedglindaaGreatDoor
open Go.RowKit

/-- A punch at block b that has written the bits l, of which so many were ones since it last began to count. -/
def IsPunch (B b : Nat) (l : List Bool) (ones : Nat) (w : World) : Prop :=
  B ≤ b ∧ ∃ v lr, w.heap[b]? = some (.cells #[v, .int .i64 0, .int .i8 lr, .int .u8 (valB (restB l)), .int .i64 l.length, .int .i64 ones] 71 (0, 0)) ∧
    w.ownsRow B 5 1 v (packB l).length (Lib.byteCells (packB l)) ∧ v.ownBlock ≠ some b

/-- The punch between two of its statements. -/
def IsPunchMid (B b : Nat) (bytes : List UInt8) (last many ones : Int) (w : World) : Prop :=
  B ≤ b ∧ ∃ v lr, w.heap[b]? = some (.cells #[v, .int .i64 0, .int .i8 lr, .int .u8 last, .int .i64 many, .int .i64 ones] 71 (0, 0)) ∧
    w.ownsRow B 5 1 v bytes.length (Lib.byteCells bytes) ∧ v.ownBlock ≠ some b
theorem IsPunch.later {B b : Nat} {l : List Bool} {ones : Nat} {w W : World} (h : IsPunch B b l ones w) (hb : Below w.heap.size w W) : IsPunch B b l ones W := by
  obtain ⟨hB, v, lr, hblk, hown, hne⟩ := h
  exact ⟨hB, v, lr, (hb.block b (block_lt hblk)).trans hblk, own_later hown hb, hne⟩

theorem orBit (V : Nat) (c : Bool) (h : V < 128) : bits BinOp.or IntKind.u8 ((V : Int) * 2) (c.toNat : Int) = ((2 * V + c.toNat : Nat) : Int) := by
  have h0 : ∀ V : Fin 128, bits BinOp.or IntKind.u8 ((V.val : Int) * 2) ((false.toNat : Nat) : Int) = ((2 * V.val + false.toNat : Nat) : Int) := by decide
  have h1 : ∀ V : Fin 128, bits BinOp.or IntKind.u8 ((V.val : Int) * 2) ((true.toNat : Nat) : Int) = ((2 * V.val + true.toNat : Nat) : Int) := by decide
  cases c
  · exact h0 ⟨V, h⟩
  · exact h1 ⟨V, h⟩
theorem six_of_three {w : World} {b : Nat} {x y z a3 a4 a5 : Value} (h : LibA.Three w b 0 71 (fun i => (#[x, y, z, a3, a4, a5] : Array Value)[i]?) x y z) : w.heap[b]? = some (.cells #[x, y, z, a3, a4, a5] 71 (0, 0)) := by
  obtain ⟨cs, hb, h0, h1, h2, hr⟩ := h
  rw [hb]
  congr 2
  apply Array.ext_getElem?
  intro i
  match i with
  | 0 => exact h0
  | 1 => exact h1
  | 2 => exact h2
  | i + 3 => exact hr (i + 3) (by omega)
theorem six_of_three' {w : World} {b : Nat} {x y z a0 a1 a2 a3 a4 a5 : Value} (h : LibA.Three w b 0 71 (fun i => (#[a0, a1, a2, a3, a4, a5] : Array Value)[i]?) x y z) : w.heap[b]? = some (.cells #[x, y, z, a3, a4, a5] 71 (0, 0)) := by
  obtain ⟨cs, hb, h0, h1, h2, hr⟩ := h
  refine six_of_three ⟨cs, hb, h0, h1, h2, fun i hi => ?_⟩
  rw [hr i hi]
  match i, hi with
  | i + 3, _ => rfl
theorem three_of_six {w : World} {b : Nat} {x y z a3 a4 a5 : Value} (h : w.heap[b]? = some (.cells #[x, y, z, a3, a4, a5] 71 (0, 0))) (R : Nat → Option Value) (hR : R = fun i => (#[Value.nilIface, .nilIface, .nilIface, a3, a4, a5] : Array Value)[i]?) : LibA.Three w b 0 71 R x y z := by
  subst hR
  refine ⟨_, h, rfl, rfl, rfl, fun i hi => ?_⟩
  match i, hi with
  | i + 3, _ => rfl
set_option maxRecDepth 100000 in
set_option maxHeartbeats 4000000 in
theorem punchBit_any (B b : Nat) (l : List Bool) (ones : Nat) (c : Bool) (w : World) (h : IsPunch B b l ones w) (hB : B ≤ w.heap.size) (hl : l.length ≤ 1000000) (ho : ones ≤ 1000000) :
    Calls Tryz.prog 39 #[.pointer (some ⟨b, 0, none⟩), .int .i64 c.toNat] w fun e w' => e = .returned (.tuple #[]) ∧ IsPunch B b (l ++ [c]) (ones + c.toNat) w' ∧ Below B w w' ∧ Lib.OthersKept 5 (some b) w w' := by
  obtain ⟨hBb, v, lr, hblk, hown, hne⟩ := h
  have c3 := cell_of_block hblk 3
  have c4 := cell_of_block hblk 4
  have c5 := cell_of_block hblk 5
  have f3 := free_of_block hblk 3
  have f4 := free_of_block hblk 4
  have f5 := free_of_block hblk 5
  simp at c3 c4 c5
  have hv := valB_rest_lt l
  have hc : c.toNat ≤ 1 := by cases c <;> simp
  have Hown := Lib.hid hown
  have Hblk := Lib.hid hblk
  have Hne := Lib.hid hne
  clear hown hblk hne
  generalize hV : valB (restB l) = V at *
  go_enter Tryz.func39, Tryz.ntmps39
  have hor : bits BinOp.or IntKind.u8 ((V : Int) * 2) (c.toNat : Int) = 2 * (V : Int) + (c.toNat : Int) := by rw [orBit V c hv]; omega
  have hl2 : (l ++ [c]).length = l.length + 1 := by simp
  have hp := packB_snoc l c
  have hrs := restB_snoc l c
  have hvs := valB_snoc (restB l) c
  rw [hV] at hvs
  by_cases hm : (l.length + 1) % 8 = 0
  · rw [if_pos hm, hvs] at hp
    rw [if_pos hm] at hrs
    have hmb : (((l.length : Int) + 1) % 8 == 0) = true := by simp; omega
    have hblk3 : (((w.setCell ⟨b, 3, none⟩ (.int .u8 (2 * (V : Int) + (c.toNat : Int)))).setCell ⟨b, 5, none⟩ (.int .i64 (ones + c.toNat))).setCell ⟨b, 4, none⟩ (.int .i64 (l.length + 1))).heap[b]? = some (.cells #[v, .int .i64 0, .int .i8 lr, .int .u8 (2 * (V : Int) + (c.toNat : Int)), .int .i64 (l.length + 1), .int .i64 (ones + c.toNat)] 71 (0, 0)) := by
      rw [block_set (block_set (block_set Hblk.out 3 _) 5 _) 4 _]; simp
    have hown3 := ownsRow_setCell_other (ownsRow_setCell_other (ownsRow_setCell_other Hown.out (a := ⟨b, 3, none⟩) Hne.out (.int .u8 (2 * (V : Int) + (c.toNat : Int)))) (a := ⟨b, 5, none⟩) Hne.out (.int .i64 (ones + c.toNat))) (a := ⟨b, 4, none⟩) Hne.out (.int .i64 (l.length + 1))
    have hbel3 : Below B w (((w.setCell ⟨b, 3, none⟩ (.int .u8 (2 * (V : Int) + (c.toNat : Int)))).setCell ⟨b, 5, none⟩ (.int .i64 (ones + c.toNat))).setCell ⟨b, 4, none⟩ (.int .i64 (l.length + 1))) := (((Below.refl _ _).setCell (p := ⟨b, 3, none⟩) hBb _).setCell (p := ⟨b, 5, none⟩) hBb _).setCell (p := ⟨b, 4, none⟩) hBb _
    have hkept3 : Lib.OthersKept 5 (some b) w (((w.setCell ⟨b, 3, none⟩ (.int .u8 (2 * (V : Int) + (c.toNat : Int)))).setCell ⟨b, 5, none⟩ (.int .i64 (ones + c.toNat))).setCell ⟨b, 4, none⟩ (.int .i64 (l.length + 1))) := (((Lib.OthersKept.refl 5 (some b) w).setCell _ rfl _).setCell _ rfl _).setCell _ rfl _
    go_wp2_with fail
    generalize (((w.setCell ⟨b, 3, none⟩ (.int .u8 (2 * (V : Int) + (c.toNat : Int)))).setCell ⟨b, 5, none⟩ (.int .i64 (ones + c.toNat))).setCell ⟨b, 4, none⟩ (.int .i64 (l.length + 1))) = w3 at *
    have hW : ∀ W : World, W.heap = w3.heap → Calls Tryz.prog 82 #[.pointer (some ⟨b, 0, none⟩), .int .u8 (2 * (V : Int) + (c.toNat : Int))] W fun e w' => e = .returned .nilIface ∧ IsPunchMid B b (packB l ++ [UInt8.ofNat (2 * V + c.toNat)]) (2 * (V : Int) + (c.toNat : Int)) (l.length + 1) (ones + c.toNat) w' ∧ Below B W w' ∧ Lib.OthersKept 5 (some b) W w' := by
      intro W hW
      have hI : LibA.IsBuffer 71 (fun i => (#[Value.nilIface, .nilIface, .nilIface, .int .u8 (2 * (V : Int) + (c.toNat : Int)), .int .i64 (l.length + 1), .int .i64 (ones + c.toNat)] : Array Value)[i]?) 5 B b 0 (Lib.byteCells (packB l)) W := by
        refine ⟨hBb, v, lr, three_of_six (by rw [hW]; exact hblk3) _ rfl, ?_, Hne.out⟩
        rw [Lib.byteCells_length]
        obtain ⟨h1, h2⟩ := hown3
        exact ⟨h1, by rw [hW]; exact h2⟩
      refine (Tryz.Buffer_WriteByte_at 71 _ B b 0 _ _ W hI (by rw [hW]; have := block_lt hblk3; omega) (fun x hx => by simp only [Lib.byteCells, List.mem_map] at hx; obtain ⟨_, _, rfl⟩ := hx; rfl) (by rw [Lib.byteCells_length, packB_length]; omega)).mono ?_
      rintro e w' ⟨rfl, ⟨_, v', lr', h3, ho, hn⟩, hb, hk⟩
      refine ⟨rfl, ⟨hBb, v', lr', six_of_three' h3, ?_, hn⟩, hb, hk⟩
      have e1 : Lib.byteCells (packB l) ++ [Value.int .u8 (2 * (V : Int) + (c.toNat : Int))] = Lib.byteCells (packB l ++ [UInt8.ofNat (2 * V + c.toNat)]) := by
        rw [Lib.byteCells_append]
        congr 1
        simp only [Lib.byteCells, List.map_cons, List.map_nil]
        rw [UInt8.toNat_ofNat_of_lt' (by show _ < 256; omega)]
        simp
      rw [e1, Lib.byteCells_length] at ho
      exact ho
    have c3' := cell_of_block hblk3 3
    have f3' := free_of_block hblk3 3
    simp at c3'
    have HW := Lib.hid hW; clear hW
    go_region_with (go_at_call 82; refine (HW.out w3.drew rfl).mono ?_; rintro e w4 ⟨rfl, hmid, hb4, hk4⟩)
    obtain ⟨_, v', lr', hblk4, hown4, hne4⟩ := hmid
    have c34 := cell_of_block hblk4 3
    have f34 := free_of_block hblk4 3
    simp at c34
    clear c3' f3'
    go_wp2_with fail
    go_end0
    refine ⟨rfl, ⟨hBb, v', lr', ?_, ?_, hne4⟩, ?_, ?_⟩
    · rw [block_set hblk4 3 _]
      simp [hrs, valB]
    · rw [hp]
      exact ownsRow_setCell_other hown4 hne4 _
    · exact (hbel3.drew.trans hb4).setCell (p := ⟨b, 3, none⟩) hBb _
    · exact ((hkept3.drew).trans hk4).setCell _ rfl _
  · rw [if_neg hm] at hp
    rw [if_neg hm] at hrs
    have hmb : (((l.length : Int) + 1) % 8 == 0) = false := by simp; omega
    go_wp2_with fail
    go_end0
    refine ⟨rfl, ⟨hBb, v, lr, ?_, ?_, Hne.out⟩, ?_, ?_⟩
    · rw [block_set (block_set (block_set Hblk.out 3 _) 5 _) 4 _]
      simp [hrs, hvs, hl2]
    · rw [hp]
      exact ownsRow_setCell_other (ownsRow_setCell_other (ownsRow_setCell_other Hown.out Hne.out _) Hne.out _) Hne.out _
    · exact (((Below.refl _ _).setCell (p := ⟨b, 3, none⟩) hBb _).setCell (p := ⟨b, 5, none⟩) hBb _).setCell (p := ⟨b, 4, none⟩) hBb _
    · exact (((Lib.OthersKept.refl 5 (some b) w).setCell _ rfl _).setCell _ rfl _).setCell _ rfl _
end Go.Proofs.YtjmhpfedglindaaGreatDoor
