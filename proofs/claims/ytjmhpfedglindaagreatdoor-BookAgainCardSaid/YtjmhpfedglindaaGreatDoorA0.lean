/- A0: the imports of all walks of this seat; words on the world; small functions. -/
import Derived.Test.YtjmhpfedglindaaGreatDoorProg
import Derived.Test.YtjmhpfedglindaaGreatDoorS
import Derived.WalkKit
import Derived.WalkLawsBesides
import Derived.WalkSpells
import Derived.Lib.Hide
import Derived.Deep.QuietTactic
import Derived.BigQuiet
import Derived.Deep.DeepFit
import Derived.Deep.DeepMust
import Derived.KernelRfl
set_option linter.unusedVariables false
set_option linter.unusedSimpArgs false
namespace Go.Proofs.YtjmhpfedglindaaGreatDoor
open Go.RowKit

/-- The worlds that come later: below B all is as it was. -/
structure Later (B : Nat) (w : World) where
  val : World
  below : Below B w val
instance (B : Nat) (w : World) : Nonempty (Later B w) := ⟨⟨w, Below.refl _ _⟩⟩

section
variable {P : Program}
/-- A region that draws its order, whose operations only read, and whose callees leave what lies below B. -/
theorem wp_region_later {id : Nat} {Q : Exit → Act → World → Prop} {a : Act} {w : World} {l : List Oper} (B : Nat) (w0 : World) (hw : Below B w0 w)
    (hm : P.follows .mixedOrders = true) (hB : Region.lexB .any l.toArray = true)
    (h : wpQuiet P l.toArray (fun W => ∃ x : Later B w0, W = x.val) (fun a' => ∀ w', (∃ x : Later B w0, w' = x.val) → Q .normal a' w') l a) : (Code.region id l.toArray true).wp P Q a w :=
  wp_region_quiet (C := fun W => ∃ x : Later B w0, W = x.val) hm hB ⟨⟨_, hw.drew⟩, rfl⟩ (by simpa using h)
theorem Calls.later_of {B : Nat} {w0 : World} {x : Later B w0} {f : FuncId} {args : Array Value} {v : Value} (hB : B ≤ w0.heap.size)
    (h : Calls P f args x.val fun e w' => e = .returned v ∧ Below x.val.heap.size x.val w') : Calls P f args x.val fun e w' => e = .returned v ∧ ∃ y : Later B w0, w' = y.val :=
  h.mono fun _ w' ⟨he, hb⟩ => ⟨he, ⟨w', x.below.trans (hb.mono (Nat.le_trans hB x.below.size))⟩, rfl⟩
theorem Calls.later_same {B : Nat} {w0 : World} {x : Later B w0} {f : FuncId} {args : Array Value} {v : Value}
    (h : Calls P f args x.val fun e w' => e = .returned v ∧ x.val = w') : Calls P f args x.val fun e w' => e = .returned v ∧ ∃ y : Later B w0, w' = y.val :=
  h.mono fun _ w' ⟨he, hb⟩ => ⟨he, x, hb.symm⟩
end

theorem bcell {W w1 : World} {B : Nat} (hb : Below B W w1) : (∀ b o, b < B → w1.cell? ⟨b, o, none⟩ = W.cell? ⟨b, o, none⟩) ∧ (∀ b o, b < B → w1.frozen? ⟨b, o, none⟩ = W.frozen? ⟨b, o, none⟩) :=
  ⟨fun b o h => hb.cell (p := ⟨b, o, none⟩) h, fun b o h => hb.frozen (p := ⟨b, o, none⟩) h⟩

/-- How an element reads: what is read of it lies below N, in w; its cells. -/
abbrev Rd (α : Type) := Nat → World → α → List Value → Prop
/-- Elements of k cells each, one behind the other, below N. -/
def RowsR {α : Type} (R : Rd α) (k N : Nat) (w : World) (a : Option Addr) (xs : List α) : Prop :=
  ∀ j (_ : j < xs.length), ∃ b off cs, a = some ⟨b, off, none⟩ ∧ b < N ∧ R N w xs[j] cs ∧ cs.length = k ∧ ∀ i, i < k → w.cell? ⟨b, off + j * k + i, none⟩ = cs[i]?
/-- What a reading leans on lies below N. -/
class Rd.Stays {α : Type} (R : Rd α) : Prop where
  stays : ∀ {N : Nat} {w W : World} {x : α} {cs : List Value}, R N w x cs → Below N w W → R N W x cs
theorem RowsR.later {α : Type} {R : Rd α} [S : Rd.Stays R] {k N : Nat} {w W : World} {a : Option Addr} {xs : List α} (h : RowsR R k N w a xs) (hb : Below N w W) : RowsR R k N W a xs := by
  intro j hj
  obtain ⟨b, off, cs, ha, hbN, hR, hk, hc⟩ := h j hj
  exact ⟨b, off, cs, ha, hbN, S.stays hR hb, hk, fun i hi => (hb.cell (p := ⟨b, _, none⟩) hbN).trans (hc i hi)⟩
theorem rows1 {α : Type} {R : Rd α} {N : Nat} {w : World} {a : Option Addr} {xs : List α} (h : RowsR R 1 N w a xs) (j : Nat) (hj : j < xs.length) :
    ∃ b off c0, a = some ⟨b, off, none⟩ ∧ b < N ∧ R N w xs[j] [c0] ∧ w.cell? ⟨b, off + j, none⟩ = some c0 := by
  obtain ⟨b, off, cs, ha, hbN, hR, hk, hc⟩ := h j hj
  match cs, hk with
  | [c0], _ => exact ⟨b, off, c0, ha, hbN, hR, by simpa using hc 0 (by omega)⟩
theorem rows2 {α : Type} {R : Rd α} {N : Nat} {w : World} {a : Option Addr} {xs : List α} (h : RowsR R 2 N w a xs) (j : Nat) (hj : j < xs.length) :
    ∃ b off c0 c1, a = some ⟨b, off, none⟩ ∧ b < N ∧ R N w xs[j] [c0, c1] ∧ w.cell? ⟨b, off + j * 2, none⟩ = some c0 ∧ w.cell? ⟨b, off + j * 2 + 1, none⟩ = some c1 := by
  obtain ⟨b, off, cs, ha, hbN, hR, hk, hc⟩ := h j hj
  match cs, hk with
  | [c0, c1], _ => exact ⟨b, off, c0, c1, ha, hbN, hR, by simpa using hc 0 (by omega), by simpa using hc 1 (by omega)⟩
theorem rows3 {α : Type} {R : Rd α} {N : Nat} {w : World} {a : Option Addr} {xs : List α} (h : RowsR R 3 N w a xs) (j : Nat) (hj : j < xs.length) :
    ∃ b off c0 c1 c2, a = some ⟨b, off, none⟩ ∧ b < N ∧ R N w xs[j] [c0, c1, c2] ∧ w.cell? ⟨b, off + j * 3, none⟩ = some c0 ∧ w.cell? ⟨b, off + j * 3 + 1, none⟩ = some c1 ∧ w.cell? ⟨b, off + j * 3 + 2, none⟩ = some c2 := by
  obtain ⟨b, off, cs, ha, hbN, hR, hk, hc⟩ := h j hj
  match cs, hk with
  | [c0, c1, c2], _ => exact ⟨b, off, c0, c1, c2, ha, hbN, hR, by simpa using hc 0 (by omega), by simpa using hc 1 (by omega), by simpa using hc 2 (by omega)⟩

def intR : Rd Int := fun _ _ x cs => cs = [.int .i64 x]
def plateR : Rd Plate := fun _ _ x cs => cs = [.int .i64 x.number, .int .i64 x.cls, .int .i64 x.day]
def tryR : Rd Try := fun _ _ x cs => cs = [.int .i64 x.flow, .int .i64 x.poured, .int .i64 x.shown]
def sheetR : Rd Sheet := fun N w x cs => ∃ a cap, cs = [.int .i64 x.meter, .slice a x.tries.length cap] ∧ x.tries.length ≤ cap ∧ cap ≤ 9223372036854775807 ∧ RowsR tryR 3 N w a x.tries
def pageR : Rd Page := fun N w x cs => ∃ a cap, cs = [.int .i64 x.house, .slice a x.readings.length cap] ∧ x.readings.length ≤ cap ∧ cap ≤ 9223372036854775807 ∧ RowsR intR 1 N w a x.readings
instance : Rd.Stays intR := ⟨fun h _ => h⟩
instance : Rd.Stays plateR := ⟨fun h _ => h⟩
instance : Rd.Stays tryR := ⟨fun h _ => h⟩
instance : Rd.Stays sheetR := ⟨fun ⟨a, cap, h1, h2, h3, h4⟩ hb => ⟨a, cap, h1, h2, h3, h4.later hb⟩⟩
instance : Rd.Stays pageR := ⟨fun ⟨a, cap, h1, h2, h3, h4⟩ hb => ⟨a, cap, h1, h2, h3, h4.later hb⟩⟩
theorem Rd.stay {α : Type} {R : Rd α} [S : Rd.Stays R] {N : Nat} {w W : World} {x : α} {cs : List Value} (h : R N w x cs) (hb : Below N w W) : R N W x cs := S.stays h hb

theorem within_any (n lo hi : Int) (w : World) :
    Calls Tryz.prog 111 #[.int .i64 n, .int .i64 lo, .int .i64 hi] w fun e w' => e = .returned (.bool (inB n lo hi)) ∧ w = w' := by
  by_cases h1 : lo ≤ n
  · go_enter Tryz.func111, Tryz.ntmps111
    go_wp2
    go_ret
    exact ⟨by simp [inB, h1], rfl⟩
  · have hf : inB n lo hi = false := by simp [inB]; omega
    go_enter Tryz.func111, Tryz.ntmps111
    go_wp2
    go_ret
    exact ⟨by simp [hf], rfl⟩

/-- isPlate. -/
theorem isPlate_any (x : Plate) (c0 c1 c2 : Value) (N : Nat) (w : World) (hN : N ≤ w.heap.size) (hR : plateR N w x [c0, c1, c2]) :
    Calls Tryz.prog 79 #[.agg #[c0, c1, c2]] w fun e w' => e = .returned (.bool (Plate.okB x)) ∧ Below w.heap.size w w' := by
  obtain ⟨n, c, d⟩ := x
  simp only [plateR, List.cons.injEq, and_true] at hR
  obtain ⟨rfl, rfl, rfl⟩ := hR
  unfold Plate.okB
  cases h1 : inB n 1 65535 <;> cases h2 : inB c 0 7 <;>
  (go_enter Tryz.func79, Tryz.ntmps79
   go_wp2_with (go_at_call 111; refine (within_any _ _ _ _).mono ?_; rintro e w' ⟨rfl, rfl⟩)
   go_ret
   exact ⟨by simp [h1, h2], (Below.refl _ _).alloc (Nat.le_refl _) _⟩)

/-- The number of a plate. -/
theorem plateNumber_any (x : Plate) (c0 c1 c2 : Value) (N : Nat) (w : World) (hR : plateR N w x [c0, c1, c2]) :
    Calls Tryz.prog 80 #[.agg #[c0, c1, c2]] w fun e w' => e = .returned (.int .i64 x.number) ∧ Below w.heap.size w w' := by
  simp only [plateR, List.cons.injEq, and_true] at hR
  obtain ⟨rfl, rfl, rfl⟩ := hR
  go_enter Tryz.func80, Tryz.ntmps80
  go_wp2
  go_ret
  exact ⟨rfl, (Below.refl _ _).alloc (Nat.le_refl _) _⟩
end Go.Proofs.YtjmhpfedglindaaGreatDoor
