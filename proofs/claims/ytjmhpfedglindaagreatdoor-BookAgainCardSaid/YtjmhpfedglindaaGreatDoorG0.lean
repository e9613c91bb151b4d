/- G0: the bits of bytes, by an iterator. -/
import Derived.Test.YtjmhpfedglindaaGreatDoorF1
import Derived.Test.YtjmhpfedglindaaGreatDoorA0
import Derived.Test.YtjmhpfedglindaaGreatDoorP2
import Derived.RangeFuncNested
import Derived.RangeFuncBound
import Derived.RangeFuncCalls
import Derived.RangeFuncLeaves
import Derived.RangeFuncBox
import Derived.Shelf.Abstract
import Derived.Shelf.RegionOpen
import Derived.WalkKit
import Derived.OwnWalkIn
import Derived.TacticsInMore
import Derived.LoopNIn
import Derived.LoopIn
import Derived.Maps.AppendAt
set_option linter.unusedVariables false
set_option linter.unusedSimpArgs false
namespace Go.Proofs.YtjmhpfedglindaaGreatDoor
open Go.RowKit Go.Shelf
attribute [local go_sem] Oper.semAt_some

def u8R : Rd UInt8 := fun _ _ x cs => cs = [.int .u8 x.toNat]
instance : Rd.Stays u8R := ⟨fun h _ => h⟩
/-- The bits of bytes. -/
def bitsOf (bs : List UInt8) : List Bool := bs.flatMap fun b => natBits b.toNat 8
theorem bitsOf_take (bs : List UInt8) (k : Nat) (h : k < bs.length) : bitsOf (bs.take (k + 1)) = bitsOf (bs.take k) ++ natBits bs[k].toNat 8 := by
  rw [List.take_succ_eq_append_getElem h, bitsOf, List.flatMap_append]; simp [bitsOf]
theorem bitsOf_length (bs : List UInt8) : (bitsOf bs).length = bs.length * 8 := by
  induction bs with
  | nil => rfl
  | cons b bs ih =>
    rw [show bitsOf (b :: bs) = natBits b.toNat 8 ++ bitsOf bs from rfl, List.length_append, natBits_length, ih, List.length_cons]; omega
theorem natBits_take (n k j : Nat) (h : j < k) : (natBits n k).take (j + 1) = (natBits n k).take j ++ [n.testBit (k - 1 - j)] := by
  induction k generalizing j with
  | zero => omega
  | succ k ih =>
    cases j with
    | zero => simp [natBits]
    | succ j =>
      have := ih j (by omega)
      simp only [natBits, List.take_succ_cons, List.cons_append, this]
      have e : k + 1 - 1 - (j + 1) = k - 1 - j := by omega
      rw [e]
theorem u8Bit (c i : Nat) (hc : c < 256) (hi : i < 8) : bits BinOp.and IntKind.u8 ((c : Int) / 2 ^ i) 1 = ((c.testBit i).toNat : Int) := by
  have h : ∀ (c : Fin 256) (i : Fin 8), bits BinOp.and IntKind.u8 ((c.val : Int) / 2 ^ i.val) 1 = ((c.val.testBit i.val).toNat : Int) := by decide +kernel
  exact h ⟨c, hc⟩ ⟨i, hi⟩

set_option maxRecDepth 100000 in
set_option maxHeartbeats 4000000 in
theorem holes1_in (F : Fence) (n : Nat) (h115 : F.fn 115) (hro : F.round = none) (hn : 1 ≤ n) (l Bs n₀ cap : Nat) (a : Option Addr) (bs : List UInt8) (hlen : bs.length ≤ 100000000) (J Jx : List Bool → World → Prop)
    (hY : ∀ pre x W, J pre W → pre.length < bs.length * 8 → YieldAt F (n - 1) Tryz.prog l #[.int .i64 ((x : Bool).toNat : Int)] W fun e W' =>
      (e = .returned (.bool true) ∧ J (pre ++ [x]) W' ∧ Below n₀ W W') ∨ (e = .returned (.bool false) ∧ Jx (pre ++ [x]) W'))
    (W : World) (hBs : W.cell? ⟨Bs, 0, none⟩ = some (.slice a bs.length cap)) (hc : RowsR u8R 1 n₀ W a bs) (h0 : J [] W) :
    CallsIn F n Tryz.prog 115 #[.func (.yield l) #[] #[], .pointer (some ⟨Bs, 0, none⟩)] W fun e W' => (∃ v, e = .returned v) ∧
      ((∃ ys, ys = bitsOf bs ∧ J ys W') ∨ (∃ pre, True ∧ Jx pre W')) := by
  refine callsIn_of_wp Tryz.func115 rfl h115 ?_ hro
  simp only [Tryz.ntmps115, List.size_toArray, List.length_cons, List.length_nil, Nat.reduceAdd, Nat.reduceSub, Array.replicate_succ, Array.replicate_zero, List.push_toArray, List.append_toArray, List.nil_append, List.cons_append]
  gi_wp2
  gi_loopw [8] (fun i wr => ∃ k : Nat, k ≤ bs.length ∧ i = .int .i64 k ∧ J (bitsOf (bs.take k)) wr ∧ Below n₀ W wr)
    (fun i _ => bs.length - (intOf i).toNat)
  case atStart => exact ⟨0, Nat.zero_le _, rfl, by simpa [bitsOf] using h0, Below.refl _ _⟩
  case round =>
    obtain ⟨k, hk, rfl, hJs, hnx⟩ := hrel
    by_cases hlt : k < bs.length
    · obtain ⟨b, off, c0, rfl, hbN, hR, hd0⟩ := rows1 (hc.later hnx) k hlt
      simp only [u8R, List.cons.injEq, and_true] at hR
      subst hR
      have htk := bitsOf_take bs k hlt
      have hcl : bs[k].toNat < 256 := UInt8.toNat_lt _
      have Htk := Lib.hid htk; clear htk
      generalize bs[k].toNat = c at *
      obtain ⟨wo, rfl⟩ : ∃ wo : World, wo = wr := ⟨_, rfl⟩
      gi_wp2
      gi_loopw [5] (fun i wr => ∃ j : Nat, j ≤ 8 ∧ i = .int .i64 (7 - (j : Int)) ∧ J (bitsOf (bs.take k) ++ (natBits c 8).take j) wr ∧ Below n₀ W wr)
        (fun i _ => (intOf i + 1).toNat)
      case atStart => exact ⟨0, by omega, rfl, by simpa using hJs, hnx⟩
      case round =>
        obtain ⟨j, hj, rfl, hJj, hnj⟩ := hrel
        by_cases hj8 : j < 8
        · have hbk : (bitsOf (bs.take k)).length = k * 8 := by rw [bitsOf_length, List.length_take]; omega
          obtain ⟨fn, tmps, assign, body, hy, hR⟩ := hY _ (c.testBit (7 - j)) wr hJj (by rw [List.length_append, hbk, List.length_take, natBits_length]; omega)
          have hbit := u8Bit c (7 - j) hcl (by omega)
          have htn : (7 - (j : Int)).toNat = 7 - j := by omega
          have hnt := natBits_take c 8 j hj8
          have Hnt := Lib.hid hnt; clear hnt
          have hj1 : (0 : Int) ≤ 7 - (j : Int) := by omega
          have hj2 : decide ((0 : Int) ≤ 7 - (j : Int)) = true := decide_eq_true (by omega)
          generalize c.testBit (7 - j) = bit at *
          have hb1 : bit.toNat ≤ 1 := by cases bit <;> simp
          gi_wp2
          refine hR.mono ?_
          rintro e W3 (⟨rfl, hJ3, hk3⟩ | ⟨rfl, hJx3⟩)
          · gi_wp2
            go_roundw
            case rel => exact ⟨j + 1, by omega, by go_num, by rw [Hnt.out, ← List.append_assoc]; exact hJ3, hnj.trans hk3⟩
            case measure => simp [intOf]; omega
          · gi_wp2
            refine bodyPost_ret (results_none rfl _ _ _) rfl ?_
            exact ⟨⟨_, rfl⟩, .inr ⟨_, trivial, hJx3⟩⟩
        · obtain rfl : j = 8 := by omega
          gi_wp2
          go_roundw
          case rel => exact ⟨k + 1, by omega, by go_num, by rw [Htk.out]; simpa [List.take_of_length_le, natBits_length] using hJj, hnj⟩
          case measure => simp [intOf]; omega
    · obtain rfl : k = bs.length := by omega
      gi_wp2
      go_end0
      rw [List.take_length] at hJs
      exact ⟨⟨_, rfl⟩, .inl ⟨_, rfl, hJs⟩⟩
end Go.Proofs.YtjmhpfedglindaaGreatDoor
