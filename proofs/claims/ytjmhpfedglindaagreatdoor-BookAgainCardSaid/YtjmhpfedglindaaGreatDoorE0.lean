/- E0: what comes in is read: slices of sheets, plates, pages, bytes; what the listed variables give; the frame of a statement's proof. -/
import Derived.Test.YtjmhpfedglindaaGreatDoorC0
import Derived.Test.YtjmhpfedglindaaGreatDoorG0
import Derived.Test.YtjmhpfedglindaaGreatDoorCards
import Derived.Test.YtjmhpfedglindaaGreatDoorTie
import Derived.ProofKit
import Derived.Deep.DeepHandedRow
import Derived.Lib.LaidTab
import Derived.Stop.LaidErr
import Derived.Deep.Slices
import Derived.ChangeSame
import Derived.OpenShut
import Derived.Lay
import Derived.SevenTiedAt
set_option linter.unusedVariables false
set_option linter.unusedSimpArgs false
set_option maxRecDepth 100000
namespace Go.Proofs.YtjmhpfedglindaaGreatDoor
open Go.ChangeShapes Go.WideShapes Go.ChangeAt Go.RowKit

section
variable {H : Type} {enc : TypeId × Value → H} {w : World}
theorem open_rows {α : Type} {R : Rd α} {k : Nat} {t e : TypeId} (ht : Tryz.prog.underlying t = some (.slice e)) (hk : Tryz.prog.cellsOf e = k) (hk0 : 0 < k)
    (hel : ∀ (n : Nat) (cs : List Value) (x : DataW H × List MemPlace), DataW.trod enc Tryz.prog w 0 (fun _ => true) true n e cs = some x → ∃ y : α, R w.heap.size w y cs)
    {fuel : Nat} {cs : List Value} {x : DataW H × List MemPlace} (h : DataW.trod enc Tryz.prog w 0 (fun _ => true) true fuel t cs = some x) :
    ∃ (a : Option Addr) (cap : Nat) (xs : List α), cs = [.slice a xs.length cap] ∧ xs.length ≤ cap ∧ cap ≤ maxLen ∧ (a = none → cap = 0) ∧ RowsR R k w.heap.size w a xs := by
  rcases Deep.open_slice ht h with ⟨rfl, _⟩ | ⟨a, len, cap, m, n, D, Pl, rfl, hb, hl, hm, hmm, hx, hi⟩
  · exact ⟨none, 0, [], rfl, by simp, Nat.zero_le _, fun _ => rfl, fun j hj => by cases hj⟩
  · rw [if_pos rfl] at hmm
    subst hmm
    rw [hk] at hi
    by_cases hne : len = 0
    · subst hne
      exact ⟨some a, m, [], rfl, Nat.zero_le _, hm, fun h => (by cases h), fun j hj => by cases hj⟩
    · have hex : ∀ i, i < len → ∃ p : α × List Value, R w.heap.size w p.1 p.2 ∧ w.cells? 0 (a.add (i * k)) k = some p.2 := by
        intro i hlt
        obtain ⟨cs', h1, h2⟩ := hi i (by omega)
        obtain ⟨y, hy⟩ := hel _ _ _ h2
        exact ⟨(y, cs'), hy, h1⟩
      haveI : Inhabited (α × List Value) := ⟨Classical.choose (hex 0 (by omega))⟩
      obtain ⟨f, hf⟩ := Deep.choose_lt hex
      refine ⟨some a, m, (List.range len).map fun i => (f i).1, by simp, by simp; omega, hm, fun h => (by cases h), ?_⟩
      obtain ⟨b, off, spot⟩ := a
      have h00 := (World.cells?_some (hf 0 (by omega)).2).2.2 0 hk0
      have hl0 := (World.cells?_some (hf 0 (by omega)).2).2.1
      have hspot : spot = none := by
        rw [List.getElem?_eq_getElem (by omega)] at h00
        have := World.cell?_spot h00
        simpa [Addr.add] using this
      subst hspot
      have hbl : b < w.heap.size := by
        rw [List.getElem?_eq_getElem (by omega)] at h00
        have := World.block_lt_of_cell? w _ h00
        simpa [Addr.add] using this
      intro j hj
      have hj' : j < len := by simpa using hj
      obtain ⟨hR, hc⟩ := hf j hj'
      obtain ⟨_, hlen, hcell⟩ := World.cells?_some hc
      refine ⟨b, off, (f j).2, rfl, hbl, by simpa using hR, hlen, fun i hik => ?_⟩
      have := hcell i hik
      rwa [Go.WideShapes.add_plain, Go.WideShapes.add_plain] at this

theorem open_int1 (n : Nat) (cs : List Value) (x : DataW H × List MemPlace) (h : DataW.trod enc Tryz.prog w 0 (fun _ => true) true n 3 cs = some x) : ∃ y : Int, intR w.heap.size w y cs := by
  obtain ⟨z, rfl, _, _⟩ := DataW.trod_int Tryz.underlying3 h
  exact ⟨z, rfl⟩
theorem open_byte1 (n : Nat) (cs : List Value) (x : DataW H × List MemPlace) (h : DataW.trod enc Tryz.prog w 0 (fun _ => true) true n 5 cs = some x) : ∃ y : UInt8, u8R w.heap.size w y cs := by
  obtain ⟨z, rfl, _, hz⟩ := DataW.trod_int Tryz.underlying5 h
  have hb : 0 ≤ z ∧ z ≤ 255 := by simpa [Lit.wf, IntKind.min, IntKind.max, IntKind.signed, IntKind.bits] using hz
  refine ⟨UInt8.ofNat z.toNat, ?_⟩
  show _ = _
  have : (UInt8.ofNat z.toNat).toNat = z.toNat := by rw [UInt8.toNat_ofNat']; omega
  rw [this]
  simp; omega
theorem cellsT1 : Tryz.prog.cellsOf 3 = 1 := by kernel_rfl
theorem cellsT5 : Tryz.prog.cellsOf 5 = 1 := by kernel_rfl
theorem cellsT51 : Tryz.prog.cellsOf 51 = 3 := by kernel_rfl
theorem cellsT101 : Tryz.prog.cellsOf 101 = 3 := by kernel_rfl
theorem cellsT46 : Tryz.prog.cellsOf 46 = 2 := by kernel_rfl
theorem cellsT49 : Tryz.prog.cellsOf 49 = 2 := by kernel_rfl
theorem cellsT44 : Tryz.prog.cellsOf 44 = 1 := by kernel_rfl
theorem cellsT47 : Tryz.prog.cellsOf 47 = 1 := by kernel_rfl
theorem trod_three_ints {e : TypeId} {f0 f1 f2 : Field} (he : Tryz.prog.underlying e = some (.struct #[f0, f1, f2])) (o0 : f0.offset = 0) (o1 : f1.offset = 1) (o2 : f2.offset = 2) (t0 : f0.type = 3) (t1 : f1.type = 3) (t2 : f2.type = 3) (hc : Tryz.prog.cellsOf e = 3)
    (n : Nat) (cs : List Value) (x : DataW H × List MemPlace) (h : DataW.trod enc Tryz.prog w 0 (fun _ => true) true n e cs = some x) : ∃ a b c : Int, cs = [.int .i64 a, .int .i64 b, .int .i64 c] := by
  obtain ⟨xs, n, _, _, hl, hlen, hf⟩ := DataW.trod_struct he h
  rw [hc] at hl
  match xs, hlen, cs, hl with
  | [y0, y1, y2], _, [c0, c1, c2], _ =>
    have h0 := hf 0 f0 rfl
    have h1 := hf 1 f1 rfl
    have h2 := hf 2 f2 rfl
    rw [o0, t0, cellsT1] at h0
    rw [o1, t1, cellsT1] at h1
    rw [o2, t2, cellsT1] at h2
    obtain ⟨a, e0, _⟩ := DataW.trod_int Tryz.underlying3 h0
    obtain ⟨b, e1, _⟩ := DataW.trod_int Tryz.underlying3 h1
    obtain ⟨c, e2, _⟩ := DataW.trod_int Tryz.underlying3 h2
    simp at e0 e1 e2
    subst e0 e1 e2
    exact ⟨a, b, c, rfl⟩
theorem open_plate1 (n : Nat) (cs : List Value) (x : DataW H × List MemPlace) (h : DataW.trod enc Tryz.prog w 0 (fun _ => true) true n 51 cs = some x) : ∃ y : Plate, plateR w.heap.size w y cs := by
  obtain ⟨a, b, c, rfl⟩ := trod_three_ints Tryz.underlying51 rfl rfl rfl rfl rfl rfl cellsT51 n cs x h
  exact ⟨⟨a, b, c⟩, rfl⟩
theorem open_try1 (n : Nat) (cs : List Value) (x : DataW H × List MemPlace) (h : DataW.trod enc Tryz.prog w 0 (fun _ => true) true n 101 cs = some x) : ∃ y : Try, tryR w.heap.size w y cs := by
  obtain ⟨a, b, c, rfl⟩ := trod_three_ints Tryz.underlying101 rfl rfl rfl rfl rfl rfl cellsT101 n cs x h
  exact ⟨⟨a, b, c⟩, rfl⟩
theorem trod_int_slice {e s : TypeId} {f0 f1 : Field} (he : Tryz.prog.underlying e = some (.struct #[f0, f1])) (o0 : f0.offset = 0) (o1 : f1.offset = 1) (t0 : f0.type = 3) (t1 : f1.type = s) (hs : Tryz.prog.cellsOf s = 1) (hc : Tryz.prog.cellsOf e = 2)
    (n : Nat) (cs : List Value) (x : DataW H × List MemPlace) (h : DataW.trod enc Tryz.prog w 0 (fun _ => true) true n e cs = some x) : ∃ (a : Int) (c1 : Value) (m : Nat) (y : DataW H × List MemPlace), cs = [.int .i64 a, c1] ∧ DataW.trod enc Tryz.prog w 0 (fun _ => true) true m s [c1] = some y := by
  obtain ⟨xs, n, _, _, hl, hlen, hf⟩ := DataW.trod_struct he h
  rw [hc] at hl
  match xs, hlen, cs, hl with
  | [y0, y1], _, [c0, c1], _ =>
    have h0 := hf 0 f0 rfl
    have h1 := hf 1 f1 rfl
    rw [o0, t0, cellsT1] at h0
    rw [o1, t1, hs] at h1
    obtain ⟨a, e0, _⟩ := DataW.trod_int Tryz.underlying3 h0
    simp at e0
    subst e0
    exact ⟨a, c1, n, y1, rfl, by simpa using h1⟩
theorem maxLen_le {n : Nat} (h : n ≤ maxLen) : n ≤ 9223372036854775807 := by unfold maxLen at h; omega
theorem open_sheet1 (n : Nat) (cs : List Value) (x : DataW H × List MemPlace) (h : DataW.trod enc Tryz.prog w 0 (fun _ => true) true n 46 cs = some x) : ∃ y : Sheet, sheetR w.heap.size w y cs := by
  obtain ⟨a, c1, m, y, rfl, hy⟩ := trod_int_slice Tryz.underlying46 rfl rfl rfl rfl cellsT44 cellsT46 n cs x h
  obtain ⟨ad, cap, xs, hcs, h1, h2, _, h3⟩ := open_rows (R := tryR) (k := 3) Tryz.underlying44 cellsT101 (by omega) open_try1 hy
  simp only [List.cons.injEq, and_true] at hcs
  subst hcs
  exact ⟨⟨a, xs⟩, ad, cap, rfl, h1, maxLen_le h2, h3⟩
theorem open_page1 (n : Nat) (cs : List Value) (x : DataW H × List MemPlace) (h : DataW.trod enc Tryz.prog w 0 (fun _ => true) true n 49 cs = some x) : ∃ y : Page, pageR w.heap.size w y cs := by
  obtain ⟨a, c1, m, y, rfl, hy⟩ := trod_int_slice Tryz.underlying49 rfl rfl rfl rfl cellsT47 cellsT49 n cs x h
  obtain ⟨ad, cap, xs, hcs, h1, h2, _, h3⟩ := open_rows (R := intR) (k := 1) Tryz.underlying47 cellsT1 (by omega) open_int1 hy
  simp only [List.cons.injEq, and_true] at hcs
  subst hcs
  exact ⟨⟨a, xs⟩, ad, cap, rfl, h1, maxLen_le h2, h3⟩
theorem open_sheets {v : Value} {d : DataW H} {p : List MemPlace} (hw : ∃ a len cap, v = .slice a len cap) (h : DataW.Trod enc Tryz.prog w 0 (fun _ => true) true 33 v d p) :
    ∃ (a : Option Addr) (cap : Nat) (xs : List Sheet), v = .slice a xs.length cap ∧ xs.length ≤ cap ∧ cap ≤ 9223372036854775807 ∧ (a = none → cap = 0) ∧ RowsR sheetR 2 w.heap.size w a xs := by
  obtain ⟨a, len, cap, rfl⟩ := hw
  obtain ⟨fuel, hf⟩ := h
  obtain ⟨a', cap', xs, hcs, h1, h2, h3, h4⟩ := open_rows (R := sheetR) (k := 2) Tryz.underlying33 cellsT46 (by omega) open_sheet1 hf
  simp only [Value.cells, List.cons.injEq, and_true, Value.slice.injEq] at hcs
  obtain ⟨rfl, rfl, rfl⟩ := hcs
  exact ⟨_, _, xs, rfl, h1, maxLen_le h2, h3, h4⟩
theorem open_pages {v : Value} {d : DataW H} {p : List MemPlace} (hw : ∃ a len cap, v = .slice a len cap) (h : DataW.Trod enc Tryz.prog w 0 (fun _ => true) true 34 v d p) :
    ∃ (a : Option Addr) (cap : Nat) (xs : List Page), v = .slice a xs.length cap ∧ xs.length ≤ cap ∧ cap ≤ 9223372036854775807 ∧ (a = none → cap = 0) ∧ RowsR pageR 2 w.heap.size w a xs := by
  obtain ⟨a, len, cap, rfl⟩ := hw
  obtain ⟨fuel, hf⟩ := h
  obtain ⟨a', cap', xs, hcs, h1, h2, h3, h4⟩ := open_rows (R := pageR) (k := 2) Tryz.underlying34 cellsT49 (by omega) open_page1 hf
  simp only [Value.cells, List.cons.injEq, and_true, Value.slice.injEq] at hcs
  obtain ⟨rfl, rfl, rfl⟩ := hcs
  exact ⟨_, _, xs, rfl, h1, maxLen_le h2, h3, h4⟩
theorem open_plates {v : Value} {d : DataW H} {p : List MemPlace} (hw : ∃ a len cap, v = .slice a len cap) (h : DataW.Trod enc Tryz.prog w 0 (fun _ => true) true 22 v d p) :
    ∃ (a : Option Addr) (cap : Nat) (xs : List Plate), v = .slice a xs.length cap ∧ xs.length ≤ cap ∧ cap ≤ 9223372036854775807 ∧ (a = none → cap = 0) ∧ RowsR plateR 3 w.heap.size w a xs := by
  obtain ⟨a, len, cap, rfl⟩ := hw
  obtain ⟨fuel, hf⟩ := h
  obtain ⟨a', cap', xs, hcs, h1, h2, h3, h4⟩ := open_rows (R := plateR) (k := 3) Tryz.underlying22 cellsT51 (by omega) open_plate1 hf
  simp only [Value.cells, List.cons.injEq, and_true, Value.slice.injEq] at hcs
  obtain ⟨rfl, rfl, rfl⟩ := hcs
  exact ⟨_, _, xs, rfl, h1, maxLen_le h2, h3, h4⟩
theorem open_bytes {v : Value} {d : DataW H} {p : List MemPlace} (hw : ∃ a len cap, v = .slice a len cap) (h : DataW.Trod enc Tryz.prog w 0 (fun _ => true) true 23 v d p) :
    ∃ (a : Option Addr) (cap : Nat) (xs : List UInt8), v = .slice a xs.length cap ∧ xs.length ≤ cap ∧ cap ≤ 9223372036854775807 ∧ (a = none → cap = 0) ∧ RowsR u8R 1 w.heap.size w a xs := by
  obtain ⟨a, len, cap, rfl⟩ := hw
  obtain ⟨fuel, hf⟩ := h
  obtain ⟨a', cap', xs, hcs, h1, h2, h3, h4⟩ := open_rows (R := u8R) (k := 1) Tryz.underlying23 cellsT5 (by omega) open_byte1 hf
  simp only [Value.cells, List.cons.injEq, and_true, Value.slice.injEq] at hcs
  obtain ⟨rfl, rfl, rfl⟩ := hcs
  exact ⟨_, _, xs, rfl, h1, maxLen_le h2, h3, h4⟩
end

theorem gPow : Tryz.prog.globalNamed "internal/strconv.uint64pow10" = some 2 := by kernel_rfl
theorem gPowT : (Tryz.prog.globals[2]?).map (·.type) = some 207 := by kernel_rfl
theorem cellsT182 : Tryz.prog.cellsOf 182 = 1 := by kernel_rfl
theorem cellsT207 : Tryz.prog.cellsOf 207 = 20 := by kernel_rfl
theorem powData : (Rows.laid_internal_strconv_uint64pow10 : DataW Unit) = Lib.tabData .u64 Lib.pow10Tab := by kernel_rfl
/-- What the library's text reads lies there when the call begins. -/
theorem env_of_laid {x y : String × DataW Unit} {rest : List (String × DataW Unit)} {W : World} (h : laidMet Tryz.prog (x :: y :: ("internal/strconv.uint64pow10", Rows.laid_internal_strconv_uint64pow10) :: rest) W) (hsh : W.ShapedOpen Tryz.prog) : Env W.heap.size W := by
  have h3 := Go.laidMet.tail (Go.laidMet.tail h)
  rw [powData] at h3
  obtain ⟨m, hm⟩ := Go.Proofs.cell_of_shapedOpen_int (g := 1) (zero := #[.int .i64 0]) (t := 3) hsh (of_decide_eq_true (by kernel_rfl)) (by kernel_rfl) rfl (by kernel_rfl) (by kernel_rfl) Tryz.underlying3
  exact ⟨Lib.tabBelow_of_tabIs (Lib.tabIs_of_head gPow gPowT Tryz.underlying207 Tryz.underlying182 cellsT182 cellsT207 h3), ⟨m, hm⟩, by simpa using World.block_lt_of_cell? W _ hm⟩

section
variable {H : Type} {enc : TypeId × Value → H} {P : Program}
theorem post_of_below {f : Func} {s : ChangeSpec} {apart fresh handsOn again : Bool} {W W' : World} {args : Array Value} {v : Value} {ds gs : List (DataW H)} {before pa pv : List MemPlace}
    (hW : DataW.Whole enc P f.params.toList s.vars apart W args.toList ds gs before)
    (hres : ∀ (b : Nat) (sp : Nat → Bool) (hd : Bool), DataW.TrodAll enc P W' b sp hd f.resultTypes.toList (v.resultList f.resultTypes.size) (s.fn H (ds ++ gs)).results [])
    (hargs : ∀ sp : Nat → Bool, (∀ p ∈ before, sp p.block = true) → DataW.TrodAll enc P W' 0 sp true f.params.toList args.toList (s.fn H (ds ++ gs)).args pa)
    (hvars : ∀ sp : Nat → Bool, (∀ p ∈ before, sp p.block = true) → DataW.TrodVars enc P W' sp s.vars (s.fn H (ds ++ gs)).vars pv)
    (hps : before = pa ++ pv) (hb : Below W.heap.size W W')
    (hok : ∀ (j : Nat) (t : TypeId) (r : Value), f.resultTypes[j]? = some t → (v.resultList f.resultTypes.size)[j]? = some r → Value.okWide P W' .any 0 t r) :
    s.post enc P f apart fresh handsOn again W args v W' := by
  have hlt : ∀ p ∈ before, p.block < W.heap.size := fun p hp => hW.lt p hp
  have hold : ∀ p ∈ before, (fun b => decide (b < W.heap.size)) p.block = true := fun p hp => by simpa using hlt p hp
  refine ⟨ds, gs, before, [], pa, pv, hW, hres _ _ _, hargs _ hold, hvars _ hold, World.keptBut_mono (fun p hp => ⟨hp, ?_⟩) (hb.frame (· ∈ before)), fun _ => ?_⟩
  · rw [hps, List.mem_append] at hp
    exact Or.inr hp
  · obtain ⟨_, _, _, _, _, hz, hn⟩ := hW
    refine ⟨hok, _, _, ([] ++ pa) ++ pv, ⟨[] ++ pa, pv, trodAll_append (hargs _ (fun _ _ => rfl)) (hres _ _ _), hvars _ (fun _ _ => rfl), rfl, ?_, ?_⟩, ?_⟩
    · intro b off hp
      have hin : MemPlace.cell b off ∈ before := by rw [hps]; simpa using hp
      rw [hb.frozen (hlt _ hin)]
      exact hz b off hin
    · intro ha
      have := hn ha
      rw [hps] at this
      simpa using this
    · intro p hp _
      rw [hps]
      simpa using hp
end

theorem laidOutP : laidOutB Tryz.prog = true := by kernel_rfl
theorem ownP : ownKnob Tryz.prog.godebug = none := by kernel_rfl
/-- What was read reads as it did. -/
theorem stays_all {H : Type} {enc : TypeId × Value → H} {W W' : World} {sp : Nat → Bool} (hb : Below W.heap.size W W') :
    ∀ (ts : List TypeId) (vs : List Value) (ds : List (DataW H)) (p : List MemPlace), (∀ t ∈ ts, Tryz.prog.readableRec t = true ∧ t < Tryz.prog.types.size) → DataW.TrodAll enc Tryz.prog W 0 (fun _ => true) true ts vs ds p →
      (∀ x ∈ p, x.block < W.heap.size) → (∀ x ∈ p, sp x.block = true) → DataW.TrodAll enc Tryz.prog W' 0 sp true ts vs ds p := by
  intro ts
  induction ts with
  | nil =>
    intro vs ds p _ h _ _
    obtain ⟨rfl, rfl, rfl⟩ := trodAll_nil h
    exact trodAll_mk0
  | cons t ts ih =>
    intro vs ds p hr h hlt hsp
    obtain ⟨v, vs', d, ds', p1, q, rfl, rfl, rfl, h1, h2⟩ := trodAll_cons h
    have ht := hr t (by simp)
    exact trodAll_cons_mk (WideElems.Trod_stays laidOutP ht.1 ht.2 h1 (fun x hx => hb.same (hlt x (by simp [hx]))) (fun x hx => hsp x (by simp [hx])))
      (ih _ _ _ (fun u hu => hr u (by simp [hu])) h2 (fun x hx => hlt x (by simp [hx])) (fun x hx => hsp x (by simp [hx])))

/-- THE FRAME OF A STATEMENT: whoever shows that the call returns true and leaves what was has the row's step. -/
theorem lifted_of {f : FuncId} {fn : Func} {s : ChangeSpec} {laid : List (String × DataW Unit)} (args0 : Array Value) (hfn : Tryz.prog.funcs[f]? = some fn) (noInit : Tryz.prog.inits.idxOf? f = none)
    (os : Os) (started : os.Started) (H : Type) (enc : TypeId × Value → H) (F : Stop.Interp)
    (wit : ∃ (w : World) (tape : Tape) (i : Input), w.os = os ∧ (w.forCall tape i).Shaped Tryz.checked.prog ∧ i.vars = [] ∧ Input.okWide Tryz.checked.prog (w.forCall tape i) .any w.heap.size f i ∧
      (OpenSpec.ofChange s).preRow enc Tryz.checked.prog fn [] false laid (w.forCall tape i).memory i.args ∧ ({} : Assume).holds Tryz.checked.prog (lone (Frame.enter Tryz.checked.prog f i.args .normal) [] (w.forCall tape i)))
    (hres : fn.resultTypes = #[4]) (hvars : s.vars = []) (hread : ∀ t ∈ fn.params.toList, Tryz.prog.readableRec t = true ∧ t < Tryz.prog.types.size)
    (hspec : ∀ (ds : List (DataW H)), ds.length = fn.params.toList.length → (s.fn H (ds ++ [])).results = [.lit (.bool true)] ∧ (s.fn H (ds ++ [])).args = ds ∧ (s.fn H (ds ++ [])).vars = [])
    (henv : ∀ W, laidMetH Tryz.prog laid W → W.ShapedOpen Tryz.prog → Env W.heap.size W)
    (contract : ∀ (W : World) (base : Nat) (args : Array Value) (ds : List (DataW H)) (p : List MemPlace), (∀ (j : Nat) t v, fn.params[j]? = some t → args[j]? = some v → Value.okWide Tryz.prog W .any base t v) →
      DataW.TrodAll enc Tryz.prog W 0 (fun _ => true) true fn.params.toList args.toList ds p → Env W.heap.size W →
      Calls Tryz.prog f args W fun e W' => e = .returned (.bool true) ∧ Below W.heap.size W W') :
    ReturnsInHanded {} Tryz.checked os f .any ((OpenSpec.ofChange s).preRow enc Tryz.prog fn [] false laid) (((OpenSpec.ofChange s).at F).post enc Tryz.prog fn false true false false) := by
  refine returnsInHanded_of_row (C := Tryz.checked) (s := OpenSpec.ofChange s) ownP started noInit hfn wit ?_
  intro W base args ds gs before hval hW _ _ _ hL hsh _
  have hW' : DataW.Whole enc Tryz.prog fn.params.toList s.vars false W args.toList ds gs before := hW
  have hW2 := hW'
  obtain ⟨p, q, hA, hV, hpq, hfz, hnd⟩ := hW'
  rw [hvars] at hV
  obtain ⟨rfl, rfl⟩ := trodVars_none hV
  have hlen : ∀ (ts : List TypeId) (vs : List Value) (ds : List (DataW H)) (p : List MemPlace), DataW.TrodAll enc Tryz.prog W 0 (fun _ => true) true ts vs ds p → ds.length = ts.length := by
    intro ts
    induction ts with
    | nil => intro vs ds p h; obtain ⟨rfl, rfl, rfl⟩ := trodAll_nil h; rfl
    | cons t ts ih =>
      intro vs ds p h
      obtain ⟨v, vs', d, ds', p1, q, rfl, rfl, rfl, h1, h2⟩ := trodAll_cons h
      simp [ih _ _ _ h2]
  obtain ⟨s1, s2, s3⟩ := hspec ds (hlen _ _ _ _ hA)
  refine (contract W base args ds p hval hA (henv W hL hsh)).mono fun e W' ⟨he, hb⟩ => ?_
  subst he
  have hlt : ∀ x ∈ before, x.block < W.heap.size := fun x hx => hW2.lt x hx
  refine ⟨_, rfl, ?_⟩
  show s.post enc Tryz.prog fn false true false false W args _ W'
  refine post_of_below (pa := p) (pv := []) hW2 ?_ ?_ ?_ hpq hb ?_
  · intro b sp hd
    rw [s1, hres]
    exact trodAll_mk1 (shut_bool Tryz.underlying4 _)
  · intro sp hsp
    rw [s2]
    exact stays_all hb _ _ _ _ hread hA (fun x hx => hlt x (by rw [hpq]; simp [hx])) (fun x hx => hsp x (by rw [hpq]; simp [hx]))
  · intro sp hsp
    rw [s3, hvars]
    rfl
  · exact ok_one hres rfl (okWide_bool_mk Tryz.underlying4 _)
end Go.Proofs.YtjmhpfedglindaaGreatDoor
