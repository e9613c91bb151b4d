/- S: the plain data of the books and the plain functions that the program computes (no Go in sight). -/
set_option linter.unusedVariables false
set_option linter.unusedSimpArgs false
namespace Go.Proofs.YtjmhpfedglindaaGreatDoor

structure Plate where
  number : Int
  cls : Int
  day : Int
deriving DecidableEq, Inhabited
structure Try where
  flow : Int
  poured : Int
  shown : Int
deriving DecidableEq, Inhabited
structure Sheet where
  meter : Int
  tries : List Try
deriving DecidableEq, Inhabited
structure Page where
  house : Int
  readings : List Int
deriving DecidableEq, Inhabited

def inB (n lo hi : Int) : Bool := decide (lo ≤ n ∧ n ≤ hi)
def Plate.okB (x : Plate) : Bool := inB x.number 1 65535 && inB x.cls 0 7 && inB x.day 0 131072
def Try.okB (t : Try) : Bool := inB t.flow 1 100000 && inB t.poured 0 9999999 && inB t.shown 0 9999999
def Sheet.okB (x : Sheet) : Bool := inB x.meter 1 999999 && decide (x.tries.length ≤ 6) && x.tries.all Try.okB
/-- Do they rise, or stay? -/
def sortedB : List Int → Bool
  | a :: b :: l => decide (a ≤ b) && sortedB (b :: l)
  | _ => true
def Page.okB (x : Page) : Bool := inB x.house 0 9999 && decide (x.readings.length ≤ 16) && x.readings.all (fun n => inB n 0 1073741824) && sortedB x.readings
/-- Do they rise? -/
def risesB : List Int → Bool
  | a :: b :: l => decide (a < b) && risesB (b :: l)
  | _ => true
/-- The error of a list: 3 (too long), 1 (one is not valid), 7 (they do not rise), 0. -/
def errOf {α : Type} (most : Nat) (ok : α → Bool) (num : α → Int) (l : List α) : Int :=
  if most < l.length then 3 else if l.all ok then (if risesB (l.map num) then 0 else 7) else 1
def platesErr (l : List Plate) : Int := errOf 60 Plate.okB Plate.number l
def sheetsErr (l : List Sheet) : Int := errOf 12 Sheet.okB Sheet.meter l
def pagesErr (l : List Page) : Int := errOf 32 Page.okB Page.house l

end Go.Proofs.YtjmhpfedglindaaGreatDoor
