/- N0: BookNames: the card. The call returns true; no condition beside the listed variables, which the card ties. -/
import Derived.Test.YtjmhpfedglindaaGreatDoorX5
import Derived.Test.YtjmhpfedglindaaGreatDoorE0
set_option linter.unusedVariables false
set_option linter.unusedSimpArgs false
set_option maxRecDepth 100000
namespace Go.Proofs.YtjmhpfedglindaaGreatDoor
open Go.ChangeShapes Go.WideShapes Go.ChangeAt Go.RowKit

def textA : List UInt8 := [55, 32, 49, 48, 48, 32, 50, 120, 49, 48, 32, 49, 48, 32, 53, 10]
theorem names1 : readPg textA = none := by decide +kernel
theorem names2 : readPg file3 = some pages0 := by decide +kernel
theorem names3 : platesErr [] = 0 := by decide
theorem names4 : platesL [] = [0] := by decide +kernel

set_option maxHeartbeats 4000000 in
theorem names_any (N : Nat) (w : World) (hN : N ≤ w.heap.size) (hE : Env N w) : Calls Tryz.prog 6 #[] w fun e W => e = .returned (.bool true) ∧ Below w.heap.size w W := by
  have h14 := writePlates_any N [] none 0 w hN (RowsR.none rfl) (by simp)
  rw [names3, names4] at h14
  have H14 := Lib.hid h14; clear h14
  go_enter Tryz.func6, Tryz.ntmps6
  go_wp2_with (go_at_call 14; refine H14.out.mono ?_; rintro e w1 ⟨v, rfl, _, hv, hb1⟩; obtain ⟨hown, hvn⟩ := hv rfl; obtain ⟨va, vc, rfl, _, _⟩ := own_slice hown; refine Hid.out ?_)
  have hs1 := hb1.size
  have h22a := readPages_any N textA w1 (by decide) (Nat.le_trans hN hs1) (hE.later (hb1.mono hN))
  rw [names1] at h22a
  have H22a := Lib.hid h22a; clear h22a
  have Hown := Lib.hid hown; clear hown hvn
  refine Lib.hid ?_
  go_wp2_with fail
  refine H22a.out.mono ?_
  rintro e w2 ⟨⟨_, _, h, _⟩ | ⟨_, rfl⟩, hb2⟩
  · cases h
  have hs2 := hb2.size
  have hb12 := hb1.trans (hb2.mono hs1)
  have h22b := readPages_any N file3 w2 (by decide) (Nat.le_trans hN (Nat.le_trans hs1 hs2)) (hE.later (hb12.mono hN))
  rw [names2] at h22b
  have H22b := Lib.hid h22b; clear h22b
  go_wp2_with fail
  refine H22b.out.mono ?_
  rintro e w3 ⟨⟨xs, v, h, rfl, hnest⟩ | ⟨h, _⟩, hb3⟩
  case inr => cases h
  injection h with h
  subst h
  have hs3 := hb3.size
  have hb13 := hb12.trans (hb3.mono (Nat.le_trans hs1 hs2))
  have h13 := alive_any N w3 (Nat.le_trans hN (Nat.le_trans (Nat.le_trans hs1 hs2) hs3)) (hE.later (hb13.mono hN))
  have H13 := Lib.hid h13; clear h13
  obtain ⟨pa, pn, pc, rfl⟩ := hnest.slice
  have Hnest := Lib.hid hnest; clear hnest
  go_wp2_with fail
  refine H13.out.mono ?_
  rintro e w4 ⟨rfl, hb4⟩
  have hs4 := hb4.size
  have hb14 := hb13.trans (hb4.mono (Nat.le_trans (Nat.le_trans hs1 hs2) hs3))
  obtain ⟨_, hrv⟩ := own_bytes (n := 0) Hown.out
  have hrv4 := hrv.later (hb2.trans ((hb3.mono hs2).trans (hb4.mono (Nat.le_trans hs2 hs3))))
  have hcv := convBytes (c := vc) hrv4 (by decide)
  have hcs : (⟨([0] : List UInt8).toArray⟩ : ByteArray) = ⟨#[0]⟩ := rfl
  rw [hcs] at hcv
  have hcl : ([0] : List UInt8).length = 1 := rfl
  rw [hcl] at hcv
  clear hcs hcl
  have h25 := pages_any w4
  have H25 := Lib.hid h25; clear h25
  go_wp2_with fail
  refine H25.out.mono ?_
  rintro e w5 ⟨rfl, hr5, hb5⟩
  have hnest5 := (Hnest.out.later hb4).later hb5
  obtain ⟨rfl, hR5⟩ := nest_rows hnest5 w5.heap.size (Nat.le_refl _)
  have h24 := samePages_any w5.heap.size pages0 pages0 pa _ pc 3 w5 (Nat.le_refl _) hR5 hr5 (by decide) (by decide)
  rw [decide_eq_true rfl] at h24
  have H24 := Lib.hid h24; clear h24
  clear hcv
  go_wp2_with fail
  refine H24.out.mono ?_
  rintro e w6 ⟨rfl, hb6⟩
  go_wp2_with fail
  go_ret
  exact ⟨rfl, (hb14.trans (hb5.mono (Nat.le_trans (Nat.le_trans (Nat.le_trans hs1 hs2) hs3) hs4))).trans (hb6.mono (Nat.le_trans (Nat.le_trans (Nat.le_trans (Nat.le_trans hs1 hs2) hs3) hs4) hb5.size))⟩
namespace BookNames

theorem contract (H : Type) (enc : TypeId × Value → H) (W : World) (base : Nat) (args : Array Value) (ds : List (DataW H)) (p : List MemPlace)
    (hval : ∀ (j : Nat) t v, Tryz.f6.params[j]? = some t → args[j]? = some v → Value.okWide Tryz.prog W .any base t v)
    (hA : DataW.TrodAll enc Tryz.prog W 0 (fun _ => true) true Tryz.f6.params.toList args.toList ds p) (hE : Env W.heap.size W) :
    Calls Tryz.prog 6 args W fun e W' => e = .returned (.bool true) ∧ Below W.heap.size W W' := by
  rw [Tryz.params6] at hA hval
  obtain ⟨rfl, rfl, rfl⟩ := trodAll_none hA
  exact names_any W.heap.size W (Nat.le_refl _) hE

theorem reads (os : Os) {H : Type} (enc : TypeId × Value → H) : ∃ places, DataW.whole enc Tryz.prog ((World.laidAll Tryz.prog os Rows.bookNamesRow.laid).forCall (fun _ _ => 0) ⟨#[], #[], []⟩).memory Tryz.f6.params.toList Rows.bookNamesSpec.vars false [] 8 = some ([], [], places) :=
  ⟨[], by kernel_rfl⟩

theorem lifted (os : Os) (started : os.Started) (H : Type) (enc : TypeId × Value → H) (F : Stop.Interp) :
    ReturnsInHanded {} Tryz.checked os 6 .any ((OpenSpec.ofChange Rows.bookNamesSpec).preRow enc Tryz.prog Tryz.f6 Rows.bookNamesRow.domain false Rows.bookNamesRow.laid) (((OpenSpec.ofChange Rows.bookNamesSpec).at F).post enc Tryz.prog Tryz.f6 false true false false) := by
  obtain ⟨places, hx⟩ := reads os enc
  refine lifted_of #[] Tryz.func6 (by kernel_rfl) os started H enc F ⟨World.laidAll Tryz.prog os Rows.bookNamesRow.laid, fun _ _ => 0, ⟨#[], #[], []⟩, World.laidAll_os _ _ _, World.shaped_of_ZipB (by kernel_rfl) (by kernel_rfl), rfl, (Input.okWide_of_okWideB (by kernel_rfl)).2,
      OpenSpec.preRow_of_cond 8 hx (by kernel_rfl) (fun k hk => by cases hk) (by kernel_rfl) (by rw [MakeChecks.laidMetH_plain _ _ _ (by kernel_rfl)]; exact laidMet_laidAll _ (by kernel_rfl) (by kernel_rfl)), by simp [Assume.holds]⟩
    (by kernel_rfl) rfl ?_ ?_ ?_ (contract H enc)
  · rw [Tryz.params6]
    intro t ht
    have hm : t ∈ ([] : List Nat) := by simp at ht
    have hall : (([] : List Nat).all fun u => Tryz.prog.readableRec u && decide (u < Tryz.prog.types.size)) = true := by kernel_rfl
    simpa using List.all_eq_true.1 hall t hm
  · intro ds hds
    rw [Tryz.params6] at hds
    match ds, hds with
    | [], _ => exact ⟨rfl, rfl, rfl⟩
  · intro W hL hsh
    rw [MakeChecks.laidMetH_plain _ _ _ (by kernel_rfl)] at hL
    exact env_of_laid hL hsh

theorem said : Rows.BookNamesSaid :=
  OpenClaim.holds_of_cond 6 Tryz.f6 rfl rfl rfl rfl rfl rfl rfl ⟨rfl, rfl, rfl, rfl, rfl⟩ rfl rfl rfl rfl rfl (by kernel_rfl) Tryz.func6 (by kernel_rfl)
    (of_decide_eq_true (by kernel_rfl)) (by unfold Func.isWrapper; first | (rw [if_pos (by decide +kernel)]; kernel_rfl) | (rw [if_neg (by decide +kernel)]; exact ⟨rfl, rfl⟩))
    (fun os started H enc _ F => by rw [OpenClaim.pre_eq_preRow]; exact lifted os started H enc F)

theorem plain (f : FuncId) (fn : Func) (hf : Tryz.pinned.checked.prog.funcNamed "meterworks/meterworkslaw14.BookNames" = some f) (hfn : Tryz.pinned.checked.prog.funcs[f]? = some fn) :
    true = Tryz.pinned.checked.prog.looks [] ∧ ∀ (j : Nat) t, fn.params[j]? = some t → Tryz.pinned.checked.prog.wantsStandIn t = false := by
  obtain rfl : f = 6 := Option.some.inj ((show Tryz.prog.funcNamed "meterworks/meterworkslaw14.BookNames" = some 6 by kernel_rfl).symm.trans hf) |>.symm
  obtain rfl : fn = Tryz.f6 := (Option.some.inj (Tryz.func6.symm.trans hfn)).symm
  refine ⟨by kernel_rfl, fun j t ht => ?_⟩
  rw [Tryz.params6] at ht
  have hm : t ∈ ([] : List Nat) := by simpa using Array.mem_of_getElem? ht
  have hall : (([] : List Nat).all fun u => !Tryz.prog.wantsStandIn u) = true := by kernel_rfl
  exact (show Tryz.prog.wantsStandIn t = false by simpa using List.all_eq_true.1 hall t hm)

/-- THE CARD. -/
theorem card : Rows.BookNamesCardSaid :=
  Claim7.holds_tied_plain_at .later [] _ _ _ _ said (fun _ h => by cases h) (by kernel_rfl) (fun _ h => by cases h) bookNames_row_tie rfl ⟨rfl, rfl⟩ (by kernel_rfl) rfl plain (by kernel_rfl)
end BookNames
theorem bookNames_card : Rows.BookNamesCardSaid := BookNames.card
#print axioms bookNames_card
end Go.Proofs.YtjmhpfedglindaaGreatDoor
