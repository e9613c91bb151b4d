/- G1: newFeeler. -/
import Derived.Test.YtjmhpfedglindaaGreatDoorG0
set_option linter.unusedVariables false
set_option linter.unusedSimpArgs false
namespace Go.Proofs.YtjmhpfedglindaaGreatDoor
open Go.RowKit Go.Shelf
attribute [local go_sem] Oper.semAt_some

theorem infoInt : (Tryz.prog.info? 3).map (fun i => (i.zero, i.size, i.bytes)) = some (some (.int .i64 0), 1, 8) := by kernel_rfl
theorem underlying47 : Tryz.prog.underlying 47 = some (.slice 3) := by kernel_rfl
def bitI (b : Bool) : Value := .int .i64 (b.toNat : Int)

set_option maxHeartbeats 1000000 in
theorem holes_in (F : Fence) (n : Nat) (h86 : F.fn 86) (hro : F.round = none) (a : Option Addr) (len cap : Nat) (w : World) :
    CallsIn F n Tryz.prog 86 #[.slice a len cap] w fun e w' => e = .returned (.func (.func 115) #[] #[.pointer (some ⟨w.heap.size, 0, none⟩)]) ∧ w' = w.alloc (.cells #[.slice a len cap] 23) := by
  refine callsIn_of_wp Tryz.func86 rfl h86 ?_ hro
  simp only [Tryz.ntmps86, List.size_toArray, List.length_cons, List.length_nil, Nat.reduceAdd, Nat.reduceSub, Array.replicate_succ, Array.replicate_zero, List.push_toArray, List.append_toArray, List.nil_append, List.cons_append]
  gi_wp2
  go_ret
  exact ⟨rfl, rfl⟩

theorem holes_stops (F : Fence) (n : Nat) (h115 : F.fn 115) (hro : F.round = none) (hn : 1 ≤ n) (Bs n₀ : Nat) (a : Option Addr) (cap : Nat) (bs : List UInt8) (hlen : bs.length ≤ 100000000) (w : World) (hBs : Bs < w.heap.size) (hn₀ : n₀ ≤ w.heap.size)
    (hc : w.cell? ⟨Bs, 0, none⟩ = some (.slice a bs.length cap)) (hI : RowsR u8R 1 n₀ w a bs) :
    SeqStopsK F n Tryz.prog 115 #[.pointer (some ⟨Bs, 0, none⟩)] (fun x : Bool => #[bitI x]) (Below n₀) (fun ys => ys = bitsOf bs) (fun pre => True) (bs.length * 8) w := fun l J Jx W hW _ _ hY h0 =>
  holes1_in F n h115 hro hn l Bs n₀ cap a bs hlen J Jx hY W ((hW.cell (p := ⟨Bs, 0, none⟩) hBs).trans hc) (hI.later (hW.mono hn₀)) h0

/-- The feeler's block while it is filled. -/
def Held (W : World) (B : Nat) (v : Value) : Prop := W.heap[B]? = some (.cells #[v, .int .i64 0] 85 (0, 0))
theorem Held.kept {W W' : World} {row : Option Nat} {B : Nat} {v : Value} (h : Held W B v) (hg : W.grownBy W' row) (hne : some B ≠ row) : Held W' B v := (hg.block B (block_lt h) hne).trans h
theorem Held.not_row {W : World} {B : Nat} {u : Value} (h : Held W B u) {base size k : Nat} {v : Value} {xs : List Value} (hr : W.ownsRow base 3 size v k xs) : some B ≠ v.ownBlock := by
  rcases hr.2 with ⟨rfl, _⟩ | ⟨g, cap, cur, rfl, _, hgb, _⟩
  · simp [Value.ownBlock]
  · intro e'
    obtain rfl : B = g := by simpa [Value.ownBlock] using e'
    have := (show W.heap[B]? = _ from h).symm.trans hgb
    simp at this
theorem held_own (n₀ B : Nat) (f : List Bool → List Value) : Own (fun s W => ∃ v, Held W B v ∧ W.ownsRow n₀ 3 1 v s.length (f s)) := by
  rintro s X Y row ⟨v, hv, hr⟩ hg hrow
  refine ⟨v, hv.kept hg (fun e' => ?_), hr.kept hg ?_⟩
  · obtain ⟨o, ho, hc⟩ := hrow B e'.symm
    rw [show X.heap[B]? = _ from hv] at ho; cases ho; cases hc
  · rcases hr.2 with ⟨rfl, _⟩ | ⟨g, cap, cur, rfl, _, hgb, _⟩
    · exact .inl rfl
    · refine .inr fun e' => ?_
      obtain ⟨o, ho, hc⟩ := hrow g (by simpa [Value.ownBlock] using e'.symm)
      rw [hgb] at ho; cases ho; cases hc

/-- A region that draws its order, inside a fence, by a state that every order passes through. -/
theorem wpAnyIn_inv {F : Fence} {n : Nat} {P : Program} {md : Region.Mode} {ops : Array Oper} {Q : Exit → Act → World → Prop} {Inv : Nat → Array Bool → Act → World → Prop}
    (hend : ∀ l a w, Inv 0 l a w → Region.ready md ops l = [] ∧ Q .normal a w)
    (hstep : ∀ k l a w, Inv (k + 1) l a w → ∃ rs, Region.ready md ops l = rs ∧ rs ≠ [] ∧ ∀ i ∈ rs, wpOpIn F n P ops Q i (Inv k (l.setIfInBounds i true)) a w) :
    ∀ k l a w, Inv k l a w → wpAnyIn F n P md ops Q k l a w
  | 0, l, a, w, h => hend l a w h
  | k + 1, l, a, w, h => by
    obtain ⟨rs, h1, h2, h3⟩ := hstep k l a w h
    refine ⟨fun h0 => absurd (h1.symm.trans h0) h2, fun i hi => ?_⟩
    rw [h1] at hi
    exact wpOpIn_mono (fun a' w' h' => wpAnyIn_inv hend hstep k _ a' w' h') (h3 i hi)
/-- 'append' to a row of the call's own, as one step of a region that draws its order, inside a fence. -/
theorem stepIn_append_own {F : Fence} {n : Nat} {P : Program} (w : World) {ops : Array Oper} {o : Oper} {a : Act} {Q : Exit → Act → World → Prop} {K : Act → World → Prop} {E : Prop}
    (hg : o.guard = none) (s x : Operand) (t : TypeId) (hop : o.op = Op.call { callee := Callee.builtin Builtin.append, args := #[s, x], argTypes := #[t, t] })
    (base : Nat) (e : TypeId) (i : TypeInfo) (z : Value) (size bytes : Nat) (h1 : P.underlying t = some (.slice e)) (h2 : P.info? e = some i) (h3 : i.zero = some z) (h4 : i.size = size) (h5 : i.bytes = bytes) (h6 : z.cells.size = size) (h7 : 0 < size)
    (v : Value) (k : Nat) (xs : List Value) (hs : a.eval s = v) (hown : w.ownsRow base e size v k xs) (ad : Addr) (m c : Nat) (news : List Value) (hx : a.eval x = .slice (some ad) m c) (hn : news.length = m * size)
    (hc : ∀ j u, news[j]? = some u → w.cell? (ad.add j) = some u) (h1c : ∀ u ∈ news, u.oneCell' = true) (b1 : k + m ≤ maxLen) (b2 : (k + m) * bytes ≤ 140737488355328) (b3 : base ≤ w.heap.size)
    (hK : ∀ v' w', w'.ownsRow base e size v' (k + m) (xs ++ news) → w.grownBy w' v.ownBlock → K (a.put o.dst v') w') :
    if Region.wanted o (yielded ops a.tmps) = true then Oper.wpIn F n P o a w K Q else E := by
  have hw : Region.wanted o (yielded ops a.tmps) = true := by simp [Region.wanted, hg]
  rw [if_pos hw]
  obtain ⟨v', w', hrun, r1, r2, r3⟩ := run_append_own (P := P) w base t o.type e i z size bytes h1 h2 h3 h4 h5 h6 h7 v k xs hown ad m c news hn hc h1c b1 b2 b3
  unfold Oper.wpIn
  refine ⟨?_, ?_⟩
  · simp [Oper.about, hop, resolve, Target.leads, Sem.run_pure]
  · rw [Oper.semAt_plain F _ _ (by rw [hop]; intro c hc'; cases hc')]
    simp [execOp, hop, resolve, invoke, builtin, hs, hx, hrun, Result.andThen]
    exact hK v' w' r1 r2
theorem all_nil {p : Nat → Prop} : ∀ j ∈ ([] : List Nat), p j := fun _ h => nomatch h
theorem all_cons {p : Nat → Prop} {i : Nat} {l : List Nat} (h : p i) (t : ∀ j ∈ l, p j) : ∀ j ∈ i :: l, p j := fun j hj => by
  rcases List.mem_cons.1 hj with rfl | hj
  · exact h
  · exact t j hj
def fL (p : Bool) (q r t : Nat) : Array Bool := #[p, decide (1 ≤ q), decide (2 ≤ q), decide (3 ≤ q), decide (4 ≤ q), decide (1 ≤ r), decide (2 ≤ r), decide (1 ≤ t), decide (2 ≤ t), decide (3 ≤ t), decide (4 ≤ t)]
set_option maxRecDepth 100000 in
set_option maxHeartbeats 4000000 in
theorem newFeeler_in (F : Fence) (n : Nat) (h45 : F.fn 45) (h86 : F.fn 86) (h115 : F.fn 115) (hro : F.round = none) (hn : 3 ≤ n) (N : Nat) (a : Option Addr) (cap : Nat) (bs : List UInt8) (hlen : bs.length ≤ 100000) (w : World) (hN : N ≤ w.heap.size) (hr : RowsR u8R 1 N w a bs) :
    CallsIn F n Tryz.prog 45 #[.slice a bs.length cap] w fun e W' => e = .returned (.pointer (some ⟨w.heap.size, 0, none⟩)) ∧ (∃ v, Held W' w.heap.size v ∧ W'.ownsRow w.heap.size 3 1 v (bitsOf bs).length ((bitsOf bs).map bitI)) ∧ Below w.heap.size w W' := by
  have h1 : 1 ≤ n := by omega
  obtain ⟨i0, hi, hz0, hz1, hz2⟩ := info_parts infoInt
  refine callsIn_of_wp_marks Tryz.func45 rfl h45 ?_ hro
  simp only [Tryz.ntmps45, List.size_toArray, List.length_cons, List.length_nil, Nat.reduceAdd, Nat.reduceSub, Array.replicate_succ, Array.replicate_zero, List.push_toArray, List.append_toArray, List.nil_append, List.cons_append]
  gi_wp2_with (gi_at_call 86; refine (holes_in F (n - 1) h86 hro _ _ _ _).mono ?_; rintro e w' ⟨rfl, rfl⟩)
  have hF0 : Held (((w.alloc (.cells #[.slice none 0 0, .int .i64 0] 85)).alloc (.cells #[.pointer (some ⟨w.heap.size, 0, none⟩)] 79)).alloc (.cells #[.slice a bs.length cap] 23)) w.heap.size (.slice none 0 0) :=
    block_old (block_old (block_new w _) _) _
  have bP := Boxed.new (w.alloc (.cells #[.slice none 0 0, .int .i64 0] 85)) 79 (.pointer (some ⟨w.heap.size, 0, none⟩))
  rw [World.size_alloc] at bP
  have bS := Boxed.new ((w.alloc (.cells #[.slice none 0 0, .int .i64 0] 85)).alloc (.cells #[.pointer (some ⟨w.heap.size, 0, none⟩)] 79)) 23 (.slice a bs.length cap)
  rw [World.size_alloc, World.size_alloc] at bS
  have hB0 : Below w.heap.size w (((w.alloc (.cells #[.slice none 0 0, .int .i64 0] 85)).alloc (.cells #[.pointer (some ⟨w.heap.size, 0, none⟩)] 79)).alloc (.cells #[.slice a bs.length cap] 23)) := (((Below.refl _ w).alloc (Nat.le_refl _) _).alloc (by simp) _).alloc (by simp; omega) _
  have hr0 : RowsR u8R 1 w.heap.size (((w.alloc (.cells #[.slice none 0 0, .int .i64 0] 85)).alloc (.cells #[.pointer (some ⟨w.heap.size, 0, none⟩)] 79)).alloc (.cells #[.slice a bs.length cap] 23)) a bs := by
    intro j hj
    obtain ⟨b, off, cs, ha, hbN, hR, hk, hc⟩ := hr j hj
    exact ⟨b, off, cs, ha, by omega, hR, hk, fun i hi => (hB0.cell (p := ⟨b, _, none⟩) (by show b < _; omega)).trans (hc i hi)⟩
  refine wpIn_rangeFunc_ownG hro h1 (gf := 115) (lb := #[.pointer (some ⟨w.heap.size + 2, 0, none⟩)]) rfl h115 (enters_of Tryz.func115 (by kernel_rfl) rfl)
    (holes_stops F (n - 1) h115 hro (by omega) (w.heap.size + 2) w.heap.size a cap bs (by omega) _ (by simp) (by simp; omega) bS.cell hr0) belowK_t (belowK_b (by simp; omega)) (Below.refl _ _) (fun _ => rfl)
    (fun pre W => (∃ v, Held W w.heap.size v ∧ W.ownsRow w.heap.size 3 1 v pre.length (pre.map bitI)) ∧ Boxed W (w.heap.size + 1) 79 (.pointer (some ⟨w.heap.size, 0, none⟩)) ∧ Below w.heap.size w W)
    (fun _ _ _ => False)
    (OwnFrom.and (Own.from (held_own w.heap.size w.heap.size (fun pre => pre.map bitI)) _) (OwnFrom.and (Own.from (boxed_own _ _ _) _) (ownFrom_below (Nat.le_refl _) (by simp; omega))))
    (fun _ _ _ _ _ hs _ _ => hs)
    ⟨⟨_, hF0, World.ownsRow_nil _ _ _ _⟩, bP.alloc _, hB0⟩
    (fun x => { tmps := #[.slice a bs.length cap, undef, .pointer none, .pointer (some ⟨w.heap.size + 1, 0, none⟩), bitI x, .agg #[.slice none 0 0, .int .i64 0], .pointer (some ⟨w.heap.size, 0, none⟩), .slice a bs.length cap, .func (.func 115) #[] #[.pointer (some ⟨w.heap.size + 2, 0, none⟩)], bitI x, undef, undef, undef, undef, undef, undef, undef, undef, undef, undef, undef], defers := [] }) ?assign ?body ?done ?stop
  case assign =>
    intro l x W K hK
    gi_wp2
    exact hK
  case body =>
    rintro l pre x W ⟨⟨v, hv, hrow⟩, hbx, hB⟩ hlt
    have c0 : W.cell? ⟨w.heap.size, 0, none⟩ = some v := by simpa using cell_of_block hv 0
    have cp := hbx.cell
    gi_wp2
    --BODY
    have hmx : Tryz.prog.follows .mixedOrders = true := by kernel_rfl
    obtain ⟨fp, hfp⟩ : ∃ fp : Value, fp = .pointer (some ⟨w.heap.size, 0, none⟩) := ⟨_, rfl⟩
    obtain ⟨fA, hfA⟩ : ∃ fA : Bool → Nat → Nat → Act, fA = fun p q r => { tmps := #[.slice a bs.length cap, undef, .pointer none, .pointer (some ⟨w.heap.size + 1, 0, none⟩), bitI x, .agg #[.slice none 0 0, .int .i64 0], .pointer (some ⟨w.heap.size, 0, none⟩), .slice a bs.length cap, .func (.func 115) #[] #[.pointer (some ⟨w.heap.size + 2, 0, none⟩)], bitI x,
      if p = true then .pointer (some ⟨w.heap.size, 0, none⟩) else undef, if 1 ≤ q then .pointer (some ⟨w.heap.size, 0, none⟩) else undef, if 2 ≤ q then .pointer (some ⟨w.heap.size, 0, none⟩) else undef, if 3 ≤ q then .pointer (some ⟨w.heap.size, 0, none⟩) else undef, if 4 ≤ q then v else undef, if 1 ≤ r then bitI x else undef, if 2 ≤ r then .slice (some ⟨W.heap.size, 0, none⟩) 1 1 else undef, undef, undef, undef, undef], defers := [] } := ⟨_, rfl⟩
    obtain ⟨fW, hfW⟩ : ∃ fW : Nat → World, fW = fun r => if 2 ≤ r then W.drew.alloc (.cells #[bitI x] 3) else W.drew := ⟨_, rfl⟩
    obtain ⟨fB, hfB⟩ : ∃ fB : Bool → Nat → Value → Act, fB = fun p t v' => { tmps := #[.slice a bs.length cap, undef, .pointer none, .pointer (some ⟨w.heap.size + 1, 0, none⟩), bitI x, .agg #[.slice none 0 0, .int .i64 0], .pointer (some ⟨w.heap.size, 0, none⟩), .slice a bs.length cap, .func (.func 115) #[] #[.pointer (some ⟨w.heap.size + 2, 0, none⟩)], bitI x,
      if p = true then .pointer (some ⟨w.heap.size, 0, none⟩) else undef, .pointer (some ⟨w.heap.size, 0, none⟩), .pointer (some ⟨w.heap.size, 0, none⟩), .pointer (some ⟨w.heap.size, 0, none⟩), v, bitI x, .slice (some ⟨W.heap.size, 0, none⟩) 1 1, v', if 2 ≤ t then .pointer (some ⟨w.heap.size, 0, none⟩) else undef, if 3 ≤ t then .pointer (some ⟨w.heap.size, 0, none⟩) else undef, undef], defers := [] } := ⟨_, rfl⟩
    have hltF : w.heap.size < W.heap.size := block_lt hv
    have hltP : w.heap.size + 1 < W.heap.size := hbx.lt
    have hrowA : (W.drew.alloc (.cells #[bitI x] 3)).ownsRow w.heap.size 3 1 v pre.length (pre.map bitI) := hrow.drew.alloc _
    have hnewA : ∀ j u, [bitI x][j]? = some u → (W.drew.alloc (.cells #[bitI x] 3)).cell? ((⟨W.heap.size, 0, none⟩ : Addr).add j) = some u := cell_one_new W.drew (bitI x) 3
    have hb1 : pre.length + 1 ≤ maxLen := by unfold maxLen; omega
    have hb2 : (pre.length + 1) * 8 ≤ 140737488355328 := by omega
    have hb3 : w.heap.size ≤ (W.drew.alloc (.cells #[bitI x] 3)).heap.size := by have := hB.size; simp; omega
    have hkeep : ∀ (g' cap' : Nat) (w1 : World), (w1.ownsRow w.heap.size 3 1 (.slice (some ⟨g', 0, none⟩) (pre.length + 1) cap') (pre.length + 1) (pre.map bitI ++ [bitI x]) ∧ (W.drew.alloc (.cells #[bitI x] 3)).grownBy w1 v.ownBlock) → Held w1 w.heap.size v ∧ Boxed w1 (w.heap.size + 1) 79 (.pointer (some ⟨w.heap.size, 0, none⟩)) := by
      rintro g' cap' w1 ⟨h1, h2⟩
      exact ⟨Held.kept (W := W.drew.alloc (.cells #[bitI x] 3)) (block_old (w := W.drew) hv _) h2 (hv.not_row hrow), Boxed.kept (W := W.drew.alloc (.cells #[bitI x] 3)) (block_old (w := W.drew) hbx _) h2 (hbx.not_row (by decide) hrow)⟩
    refine wpIn_region_any hmx ?_
    refine wpAnyIn_inv (Inv := fun k l a' w' =>
      (∃ (p : Bool) (q r : Nat), q ≤ 4 ∧ r ≤ 2 ∧ k + p.toNat + q + r = 11 ∧ l = fL p q r 0 ∧ a' = fA p q r ∧ w' = fW r) ∨
      (∃ (p : Bool) (t : Nat) (g' cap' : Nat) (w1 : World), 1 ≤ t ∧ t ≤ 4 ∧ (2 ≤ t → p = true) ∧ k + p.toNat + 6 + t = 11 ∧
        (w1.ownsRow w.heap.size 3 1 (.slice (some ⟨g', 0, none⟩) (pre.length + 1) cap') (pre.length + 1) (pre.map bitI ++ [bitI x]) ∧ (W.drew.alloc (.cells #[bitI x] 3)).grownBy w1 v.ownBlock) ∧
        l = fL p 4 2 t ∧ a' = fB p t (.slice (some ⟨g', 0, none⟩) (pre.length + 1) cap') ∧ w' = if 4 ≤ t then w1.setCell ⟨w.heap.size, 0, none⟩ (.slice (some ⟨g', 0, none⟩) (pre.length + 1) cap') else w1)) ?hend ?hstep _ _ _ _ (.inl ⟨false, 0, 0, by omega, by omega, by simp, by rfl, by rw [hfA]; rfl, by rw [hfW]; rfl⟩)
    case hend =>
      rintro l a' w' (⟨p, q, r, hq, hr, hk, rfl, rfl, rfl⟩ | ⟨p, t, g', cap', w1, ht1, ht4, htp, hk, hf, rfl, rfl, rfl⟩)
      · have : p.toNat ≤ 1 := by cases p <;> simp
        omega
      · obtain rfl : t = 4 := by cases p <;> simp at hk <;> omega
        obtain rfl : p = true := htp (by omega)
        obtain ⟨hF1, hP1⟩ := hkeep _ _ _ hf
        refine ⟨by kernel_rfl, ?_⟩
        subst hfA hfW hfB
        gi_wp2
        have hKO : KeepsOthers W (w1.setCell ⟨w.heap.size, 0, none⟩ (.slice (some ⟨g', 0, none⟩) (pre.length + 1) cap')) := by
          refine (((KeepsOthers.drew W).trans (KeepsOthers.alloc W.drew (.cells #[bitI x] 3))).trans (KeepsOthers.of_grownBy hf.2 fun j o ej hj => ?_)).trans (KeepsOthers.setCell _ _ _)
          rcases hrowA.2 with ⟨rfl, _⟩ | ⟨g, cap, cur, rfl, _, hgb, _⟩
          · simp [Value.ownBlock] at ej
          · obtain rfl : g = j := by simpa [Value.ownBlock] using ej
            rw [hgb] at hj; cases hj; rfl
        have hBe : Below w.heap.size W (w1.setCell ⟨w.heap.size, 0, none⟩ (.slice (some ⟨g', 0, none⟩) (pre.length + 1) cap')) :=
          (((Below.refl w.heap.size W).drew.alloc hB.size (.cells #[bitI x] 3)).grown hf.2 (by simp; omega) (fun j ej => (hrowA.lt j ej).1)).setCell (p := ⟨w.heap.size, 0, none⟩) (Nat.le_refl _) _
        have hne : Value.ownBlock (.slice (some ⟨g', 0, none⟩) (pre.length + 1) cap') ≠ some w.heap.size := (hF1.not_row hf.1).symm
        refine ⟨hKO.from _, hBe, ?_⟩
        refine ⟨⟨.slice (some ⟨g', 0, none⟩) (pre.length + 1) cap', ?_, ?_⟩, hP1.other (by omega) _, hB.trans hBe⟩
        · show (w1.setCell ⟨w.heap.size, 0, none⟩ _).heap[w.heap.size]? = _
          rw [block_set hF1 0 _]; simp
        · have := ownsRow_setCell_other hf.1 (a := ⟨w.heap.size, 0, none⟩) hne (.slice (some ⟨g', 0, none⟩) (pre.length + 1) cap')
          simpa using this
    case hstep =>
      subst hfA hfW hfB
      rintro k l a' w' (⟨p, q, r, hq, hr, hk, rfl, rfl, rfl⟩ | ⟨p, t, g', cap', w1, ht1, ht4, htp, hk, hf, rfl, rfl, rfl⟩)
      · have hp : p = false ∨ p = true := by cases p <;> simp
        have hq : q = 0 ∨ q = 1 ∨ q = 2 ∨ q = 3 ∨ q = 4 := by omega
        have hr : r = 0 ∨ r = 1 ∨ r = 2 := by omega
        rcases hp with rfl | rfl <;> rcases hq with rfl | rfl | rfl | rfl | rfl <;> rcases hr with rfl | rfl | rfl
        · simp only [Bool.toNat_true, Bool.toNat_false] at hk
          refine ⟨[0, 1, 5], by kernel_rfl, by simp, ?_⟩
          refine all_cons ?_ (all_cons ?_ (all_cons ?_ (all_nil)))
          · (refine wpOpIn_step rfl fun K hK => ?_
             dsimp only [Nat.reduceLeDiff, reduceIte]
             go_simp
             exact hK _ _ (.inl ⟨true, 0, 0, by omega, by omega, by simp only [Bool.toNat_true, Bool.toNat_false]; omega, rfl, rfl, rfl⟩))
          · (refine wpOpIn_step rfl fun K hK => ?_
             dsimp only [Nat.reduceLeDiff, reduceIte]
             go_simp
             exact hK _ _ (.inl ⟨false, 1, 0, by omega, by omega, by simp only [Bool.toNat_true, Bool.toNat_false]; omega, rfl, rfl, rfl⟩))
          · (refine wpOpIn_step rfl fun K hK => ?_
             dsimp only [Nat.reduceLeDiff, reduceIte]
             go_simp
             exact hK _ _ (.inl ⟨false, 0, 1, by omega, by omega, by simp only [Bool.toNat_true, Bool.toNat_false]; omega, rfl, rfl, rfl⟩))
        · simp only [Bool.toNat_true, Bool.toNat_false] at hk
          refine ⟨[0, 1, 6], by kernel_rfl, by simp, ?_⟩
          refine all_cons ?_ (all_cons ?_ (all_cons ?_ (all_nil)))
          · (refine wpOpIn_step rfl fun K hK => ?_
             dsimp only [Nat.reduceLeDiff, reduceIte]
             go_simp
             exact hK _ _ (.inl ⟨true, 0, 1, by omega, by omega, by simp only [Bool.toNat_true, Bool.toNat_false]; omega, rfl, rfl, rfl⟩))
          · (refine wpOpIn_step rfl fun K hK => ?_
             dsimp only [Nat.reduceLeDiff, reduceIte]
             go_simp
             exact hK _ _ (.inl ⟨false, 1, 1, by omega, by omega, by simp only [Bool.toNat_true, Bool.toNat_false]; omega, rfl, rfl, rfl⟩))
          · (refine wpOpIn_step rfl fun K hK => ?_
             dsimp only [Nat.reduceLeDiff, reduceIte]
             go_simp
             exact hK _ _ (.inl ⟨false, 0, 2, by omega, by omega, by simp only [Bool.toNat_true, Bool.toNat_false]; omega, rfl, rfl, rfl⟩))
        · simp only [Bool.toNat_true, Bool.toNat_false] at hk
          refine ⟨[0, 1], by kernel_rfl, by simp, ?_⟩
          refine all_cons ?_ (all_cons ?_ (all_nil))
          · (refine wpOpIn_step rfl fun K hK => ?_
             dsimp only [Nat.reduceLeDiff, reduceIte]
             go_simp
             exact hK _ _ (.inl ⟨true, 0, 2, by omega, by omega, by simp only [Bool.toNat_true, Bool.toNat_false]; omega, rfl, rfl, rfl⟩))
          · (refine wpOpIn_step rfl fun K hK => ?_
             dsimp only [Nat.reduceLeDiff, reduceIte]
             go_simp
             exact hK _ _ (.inl ⟨false, 1, 2, by omega, by omega, by simp only [Bool.toNat_true, Bool.toNat_false]; omega, rfl, rfl, rfl⟩))
        · simp only [Bool.toNat_true, Bool.toNat_false] at hk
          refine ⟨[0, 2, 5], by kernel_rfl, by simp, ?_⟩
          refine all_cons ?_ (all_cons ?_ (all_cons ?_ (all_nil)))
          · (refine wpOpIn_step rfl fun K hK => ?_
             dsimp only [Nat.reduceLeDiff, reduceIte]
             go_simp
             exact hK _ _ (.inl ⟨true, 1, 0, by omega, by omega, by simp only [Bool.toNat_true, Bool.toNat_false]; omega, rfl, rfl, rfl⟩))
          · (refine wpOpIn_step rfl fun K hK => ?_
             dsimp only [Nat.reduceLeDiff, reduceIte]
             go_simp
             exact hK _ _ (.inl ⟨false, 2, 0, by omega, by omega, by simp only [Bool.toNat_true, Bool.toNat_false]; omega, rfl, rfl, rfl⟩))
          · (refine wpOpIn_step rfl fun K hK => ?_
             dsimp only [Nat.reduceLeDiff, reduceIte]
             go_simp
             exact hK _ _ (.inl ⟨false, 1, 1, by omega, by omega, by simp only [Bool.toNat_true, Bool.toNat_false]; omega, rfl, rfl, rfl⟩))
        · simp only [Bool.toNat_true, Bool.toNat_false] at hk
          refine ⟨[0, 2, 6], by kernel_rfl, by simp, ?_⟩
          refine all_cons ?_ (all_cons ?_ (all_cons ?_ (all_nil)))
          · (refine wpOpIn_step rfl fun K hK => ?_
             dsimp only [Nat.reduceLeDiff, reduceIte]
             go_simp
             exact hK _ _ (.inl ⟨true, 1, 1, by omega, by omega, by simp only [Bool.toNat_true, Bool.toNat_false]; omega, rfl, rfl, rfl⟩))
          · (refine wpOpIn_step rfl fun K hK => ?_
             dsimp only [Nat.reduceLeDiff, reduceIte]
             go_simp
             exact hK _ _ (.inl ⟨false, 2, 1, by omega, by omega, by simp only [Bool.toNat_true, Bool.toNat_false]; omega, rfl, rfl, rfl⟩))
          · (refine wpOpIn_step rfl fun K hK => ?_
             dsimp only [Nat.reduceLeDiff, reduceIte]
             go_simp
             exact hK _ _ (.inl ⟨false, 1, 2, by omega, by omega, by simp only [Bool.toNat_true, Bool.toNat_false]; omega, rfl, rfl, rfl⟩))
        · simp only [Bool.toNat_true, Bool.toNat_false] at hk
          refine ⟨[0, 2], by kernel_rfl, by simp, ?_⟩
          refine all_cons ?_ (all_cons ?_ (all_nil))
          · (refine wpOpIn_step rfl fun K hK => ?_
             dsimp only [Nat.reduceLeDiff, reduceIte]
             go_simp
             exact hK _ _ (.inl ⟨true, 1, 2, by omega, by omega, by simp only [Bool.toNat_true, Bool.toNat_false]; omega, rfl, rfl, rfl⟩))
          · (refine wpOpIn_step rfl fun K hK => ?_
             dsimp only [Nat.reduceLeDiff, reduceIte]
             go_simp
             exact hK _ _ (.inl ⟨false, 2, 2, by omega, by omega, by simp only [Bool.toNat_true, Bool.toNat_false]; omega, rfl, rfl, rfl⟩))
        · simp only [Bool.toNat_true, Bool.toNat_false] at hk
          refine ⟨[0, 3, 5], by kernel_rfl, by simp, ?_⟩
          refine all_cons ?_ (all_cons ?_ (all_cons ?_ (all_nil)))
          · (refine wpOpIn_step rfl fun K hK => ?_
             dsimp only [Nat.reduceLeDiff, reduceIte]
             go_simp
             exact hK _ _ (.inl ⟨true, 2, 0, by omega, by omega, by simp only [Bool.toNat_true, Bool.toNat_false]; omega, rfl, rfl, rfl⟩))
          · (refine wpOpIn_step rfl fun K hK => ?_
             dsimp only [Nat.reduceLeDiff, reduceIte]
             go_simp
             exact hK _ _ (.inl ⟨false, 3, 0, by omega, by omega, by simp only [Bool.toNat_true, Bool.toNat_false]; omega, rfl, rfl, rfl⟩))
          · (refine wpOpIn_step rfl fun K hK => ?_
             dsimp only [Nat.reduceLeDiff, reduceIte]
             go_simp
             exact hK _ _ (.inl ⟨false, 2, 1, by omega, by omega, by simp only [Bool.toNat_true, Bool.toNat_false]; omega, rfl, rfl, rfl⟩))
        · simp only [Bool.toNat_true, Bool.toNat_false] at hk
          refine ⟨[0, 3, 6], by kernel_rfl, by simp, ?_⟩
          refine all_cons ?_ (all_cons ?_ (all_cons ?_ (all_nil)))
          · (refine wpOpIn_step rfl fun K hK => ?_
             dsimp only [Nat.reduceLeDiff, reduceIte]
             go_simp
             exact hK _ _ (.inl ⟨true, 2, 1, by omega, by omega, by simp only [Bool.toNat_true, Bool.toNat_false]; omega, rfl, rfl, rfl⟩))
          · (refine wpOpIn_step rfl fun K hK => ?_
             dsimp only [Nat.reduceLeDiff, reduceIte]
             go_simp
             exact hK _ _ (.inl ⟨false, 3, 1, by omega, by omega, by simp only [Bool.toNat_true, Bool.toNat_false]; omega, rfl, rfl, rfl⟩))
          · (refine wpOpIn_step rfl fun K hK => ?_
             dsimp only [Nat.reduceLeDiff, reduceIte]
             go_simp
             exact hK _ _ (.inl ⟨false, 2, 2, by omega, by omega, by simp only [Bool.toNat_true, Bool.toNat_false]; omega, rfl, rfl, rfl⟩))
        · simp only [Bool.toNat_true, Bool.toNat_false] at hk
          refine ⟨[0, 3], by kernel_rfl, by simp, ?_⟩
          refine all_cons ?_ (all_cons ?_ (all_nil))
          · (refine wpOpIn_step rfl fun K hK => ?_
             dsimp only [Nat.reduceLeDiff, reduceIte]
             go_simp
             exact hK _ _ (.inl ⟨true, 2, 2, by omega, by omega, by simp only [Bool.toNat_true, Bool.toNat_false]; omega, rfl, rfl, rfl⟩))
          · (refine wpOpIn_step rfl fun K hK => ?_
             dsimp only [Nat.reduceLeDiff, reduceIte]
             go_simp
             exact hK _ _ (.inl ⟨false, 3, 2, by omega, by omega, by simp only [Bool.toNat_true, Bool.toNat_false]; omega, rfl, rfl, rfl⟩))
        · simp only [Bool.toNat_true, Bool.toNat_false] at hk
          refine ⟨[0, 4, 5], by kernel_rfl, by simp, ?_⟩
          refine all_cons ?_ (all_cons ?_ (all_cons ?_ (all_nil)))
          · (refine wpOpIn_step rfl fun K hK => ?_
             dsimp only [Nat.reduceLeDiff, reduceIte]
             go_simp
             exact hK _ _ (.inl ⟨true, 3, 0, by omega, by omega, by simp only [Bool.toNat_true, Bool.toNat_false]; omega, rfl, rfl, rfl⟩))
          · (refine wpOpIn_step rfl fun K hK => ?_
             dsimp only [Nat.reduceLeDiff, reduceIte]
             go_simp
             exact hK _ _ (.inl ⟨false, 4, 0, by omega, by omega, by simp only [Bool.toNat_true, Bool.toNat_false]; omega, rfl, rfl, rfl⟩))
          · (refine wpOpIn_step rfl fun K hK => ?_
             dsimp only [Nat.reduceLeDiff, reduceIte]
             go_simp
             exact hK _ _ (.inl ⟨false, 3, 1, by omega, by omega, by simp only [Bool.toNat_true, Bool.toNat_false]; omega, rfl, rfl, rfl⟩))
        · simp only [Bool.toNat_true, Bool.toNat_false] at hk
          refine ⟨[0, 4, 6], by kernel_rfl, by simp, ?_⟩
          refine all_cons ?_ (all_cons ?_ (all_cons ?_ (all_nil)))
          · (refine wpOpIn_step rfl fun K hK => ?_
             dsimp only [Nat.reduceLeDiff, reduceIte]
             go_simp
             exact hK _ _ (.inl ⟨true, 3, 1, by omega, by omega, by simp only [Bool.toNat_true, Bool.toNat_false]; omega, rfl, rfl, rfl⟩))
          · (refine wpOpIn_step rfl fun K hK => ?_
             dsimp only [Nat.reduceLeDiff, reduceIte]
             go_simp
             exact hK _ _ (.inl ⟨false, 4, 1, by omega, by omega, by simp only [Bool.toNat_true, Bool.toNat_false]; omega, rfl, rfl, rfl⟩))
          · (refine wpOpIn_step rfl fun K hK => ?_
             dsimp only [Nat.reduceLeDiff, reduceIte]
             go_simp
             exact hK _ _ (.inl ⟨false, 3, 2, by omega, by omega, by simp only [Bool.toNat_true, Bool.toNat_false]; omega, rfl, rfl, rfl⟩))
        · simp only [Bool.toNat_true, Bool.toNat_false] at hk
          refine ⟨[0, 4], by kernel_rfl, by simp, ?_⟩
          refine all_cons ?_ (all_cons ?_ (all_nil))
          · (refine wpOpIn_step rfl fun K hK => ?_
             dsimp only [Nat.reduceLeDiff, reduceIte]
             go_simp
             exact hK _ _ (.inl ⟨true, 3, 2, by omega, by omega, by simp only [Bool.toNat_true, Bool.toNat_false]; omega, rfl, rfl, rfl⟩))
          · (refine wpOpIn_step rfl fun K hK => ?_
             dsimp only [Nat.reduceLeDiff, reduceIte]
             go_simp
             exact hK _ _ (.inl ⟨false, 4, 2, by omega, by omega, by simp only [Bool.toNat_true, Bool.toNat_false]; omega, rfl, rfl, rfl⟩))
        · simp only [Bool.toNat_true, Bool.toNat_false] at hk
          refine ⟨[0, 5], by kernel_rfl, by simp, ?_⟩
          refine all_cons ?_ (all_cons ?_ (all_nil))
          · (refine wpOpIn_step rfl fun K hK => ?_
             dsimp only [Nat.reduceLeDiff, reduceIte]
             go_simp
             exact hK _ _ (.inl ⟨true, 4, 0, by omega, by omega, by simp only [Bool.toNat_true, Bool.toNat_false]; omega, rfl, rfl, rfl⟩))
          · (refine wpOpIn_step rfl fun K hK => ?_
             dsimp only [Nat.reduceLeDiff, reduceIte]
             go_simp
             exact hK _ _ (.inl ⟨false, 4, 1, by omega, by omega, by simp only [Bool.toNat_true, Bool.toNat_false]; omega, rfl, rfl, rfl⟩))
        · simp only [Bool.toNat_true, Bool.toNat_false] at hk
          refine ⟨[0, 6], by kernel_rfl, by simp, ?_⟩
          refine all_cons ?_ (all_cons ?_ (all_nil))
          · (refine wpOpIn_step rfl fun K hK => ?_
             dsimp only [Nat.reduceLeDiff, reduceIte]
             go_simp
             exact hK _ _ (.inl ⟨true, 4, 1, by omega, by omega, by simp only [Bool.toNat_true, Bool.toNat_false]; omega, rfl, rfl, rfl⟩))
          · (refine wpOpIn_step rfl fun K hK => ?_
             dsimp only [Nat.reduceLeDiff, reduceIte]
             go_simp
             exact hK _ _ (.inl ⟨false, 4, 2, by omega, by omega, by simp only [Bool.toNat_true, Bool.toNat_false]; omega, rfl, rfl, rfl⟩))
        · simp only [Bool.toNat_true, Bool.toNat_false] at hk
          refine ⟨[0, 7], by kernel_rfl, by simp, ?_⟩
          refine all_cons ?_ (all_cons ?_ (all_nil))
          · (refine wpOpIn_step rfl fun K hK => ?_
             dsimp only [Nat.reduceLeDiff, reduceIte]
             go_simp
             exact hK _ _ (.inl ⟨true, 4, 2, by omega, by omega, by simp only [Bool.toNat_true, Bool.toNat_false]; omega, rfl, rfl, rfl⟩))
          · (refine wpOpIn_step rfl fun K hK => ?_
             refine stepIn_append_own _ rfl _ _ 47 rfl w.heap.size 3 i0 (.int .i64 0) 1 8 underlying47 hi hz0 hz1 hz2 rfl (by decide) _ _ _ rfl hrowA ⟨W.heap.size, 0, none⟩ 1 1 [bitI x] rfl rfl hnewA (by simp [bitI, Value.oneCell']) hb1 hb2 hb3 fun v' w1 hown' hgrow => ?_
             obtain ⟨g', cap', rfl⟩ := ownsRow_succ hown'
             exact hK _ _ (.inr ⟨false, 1, g', cap', w1, by omega, by omega, by omega, by simp only [Bool.toNat_true, Bool.toNat_false]; omega, ⟨hown', hgrow⟩, rfl, rfl, rfl⟩))
        · simp only [Bool.toNat_true, Bool.toNat_false] at hk
          refine ⟨[1, 5], by kernel_rfl, by simp, ?_⟩
          refine all_cons ?_ (all_cons ?_ (all_nil))
          · (refine wpOpIn_step rfl fun K hK => ?_
             dsimp only [Nat.reduceLeDiff, reduceIte]
             go_simp
             exact hK _ _ (.inl ⟨true, 1, 0, by omega, by omega, by simp only [Bool.toNat_true, Bool.toNat_false]; omega, rfl, rfl, rfl⟩))
          · (refine wpOpIn_step rfl fun K hK => ?_
             dsimp only [Nat.reduceLeDiff, reduceIte]
             go_simp
             exact hK _ _ (.inl ⟨true, 0, 1, by omega, by omega, by simp only [Bool.toNat_true, Bool.toNat_false]; omega, rfl, rfl, rfl⟩))
        · simp only [Bool.toNat_true, Bool.toNat_false] at hk
          refine ⟨[1, 6], by kernel_rfl, by simp, ?_⟩
          refine all_cons ?_ (all_cons ?_ (all_nil))
          · (refine wpOpIn_step rfl fun K hK => ?_
             dsimp only [Nat.reduceLeDiff, reduceIte]
             go_simp
             exact hK _ _ (.inl ⟨true, 1, 1, by omega, by omega, by simp only [Bool.toNat_true, Bool.toNat_false]; omega, rfl, rfl, rfl⟩))
          · (refine wpOpIn_step rfl fun K hK => ?_
             dsimp only [Nat.reduceLeDiff, reduceIte]
             go_simp
             exact hK _ _ (.inl ⟨true, 0, 2, by omega, by omega, by simp only [Bool.toNat_true, Bool.toNat_false]; omega, rfl, rfl, rfl⟩))
        · simp only [Bool.toNat_true, Bool.toNat_false] at hk
          refine ⟨[1], by kernel_rfl, by simp, ?_⟩
          refine all_cons ?_ (all_nil)
          · (refine wpOpIn_step rfl fun K hK => ?_
             dsimp only [Nat.reduceLeDiff, reduceIte]
             go_simp
             exact hK _ _ (.inl ⟨true, 1, 2, by omega, by omega, by simp only [Bool.toNat_true, Bool.toNat_false]; omega, rfl, rfl, rfl⟩))
        · simp only [Bool.toNat_true, Bool.toNat_false] at hk
          refine ⟨[2, 5], by kernel_rfl, by simp, ?_⟩
          refine all_cons ?_ (all_cons ?_ (all_nil))
          · (refine wpOpIn_step rfl fun K hK => ?_
             dsimp only [Nat.reduceLeDiff, reduceIte]
             go_simp
             exact hK _ _ (.inl ⟨true, 2, 0, by omega, by omega, by simp only [Bool.toNat_true, Bool.toNat_false]; omega, rfl, rfl, rfl⟩))
          · (refine wpOpIn_step rfl fun K hK => ?_
             dsimp only [Nat.reduceLeDiff, reduceIte]
             go_simp
             exact hK _ _ (.inl ⟨true, 1, 1, by omega, by omega, by simp only [Bool.toNat_true, Bool.toNat_false]; omega, rfl, rfl, rfl⟩))
        · simp only [Bool.toNat_true, Bool.toNat_false] at hk
          refine ⟨[2, 6], by kernel_rfl, by simp, ?_⟩
          refine all_cons ?_ (all_cons ?_ (all_nil))
          · (refine wpOpIn_step rfl fun K hK => ?_
             dsimp only [Nat.reduceLeDiff, reduceIte]
             go_simp
             exact hK _ _ (.inl ⟨true, 2, 1, by omega, by omega, by simp only [Bool.toNat_true, Bool.toNat_false]; omega, rfl, rfl, rfl⟩))
          · (refine wpOpIn_step rfl fun K hK => ?_
             dsimp only [Nat.reduceLeDiff, reduceIte]
             go_simp
             exact hK _ _ (.inl ⟨true, 1, 2, by omega, by omega, by simp only [Bool.toNat_true, Bool.toNat_false]; omega, rfl, rfl, rfl⟩))
        · simp only [Bool.toNat_true, Bool.toNat_false] at hk
          refine ⟨[2], by kernel_rfl, by simp, ?_⟩
          refine all_cons ?_ (all_nil)
          · (refine wpOpIn_step rfl fun K hK => ?_
             dsimp only [Nat.reduceLeDiff, reduceIte]
             go_simp
             exact hK _ _ (.inl ⟨true, 2, 2, by omega, by omega, by simp only [Bool.toNat_true, Bool.toNat_false]; omega, rfl, rfl, rfl⟩))
        · simp only [Bool.toNat_true, Bool.toNat_false] at hk
          refine ⟨[3, 5], by kernel_rfl, by simp, ?_⟩
          refine all_cons ?_ (all_cons ?_ (all_nil))
          · (refine wpOpIn_step rfl fun K hK => ?_
             dsimp only [Nat.reduceLeDiff, reduceIte]
             go_simp
             exact hK _ _ (.inl ⟨true, 3, 0, by omega, by omega, by simp only [Bool.toNat_true, Bool.toNat_false]; omega, rfl, rfl, rfl⟩))
          · (refine wpOpIn_step rfl fun K hK => ?_
             dsimp only [Nat.reduceLeDiff, reduceIte]
             go_simp
             exact hK _ _ (.inl ⟨true, 2, 1, by omega, by omega, by simp only [Bool.toNat_true, Bool.toNat_false]; omega, rfl, rfl, rfl⟩))
        · simp only [Bool.toNat_true, Bool.toNat_false] at hk
          refine ⟨[3, 6], by kernel_rfl, by simp, ?_⟩
          refine all_cons ?_ (all_cons ?_ (all_nil))
          · (refine wpOpIn_step rfl fun K hK => ?_
             dsimp only [Nat.reduceLeDiff, reduceIte]
             go_simp
             exact hK _ _ (.inl ⟨true, 3, 1, by omega, by omega, by simp only [Bool.toNat_true, Bool.toNat_false]; omega, rfl, rfl, rfl⟩))
          · (refine wpOpIn_step rfl fun K hK => ?_
             dsimp only [Nat.reduceLeDiff, reduceIte]
             go_simp
             exact hK _ _ (.inl ⟨true, 2, 2, by omega, by omega, by simp only [Bool.toNat_true, Bool.toNat_false]; omega, rfl, rfl, rfl⟩))
        · simp only [Bool.toNat_true, Bool.toNat_false] at hk
          refine ⟨[3], by kernel_rfl, by simp, ?_⟩
          refine all_cons ?_ (all_nil)
          · (refine wpOpIn_step rfl fun K hK => ?_
             dsimp only [Nat.reduceLeDiff, reduceIte]
             go_simp
             exact hK _ _ (.inl ⟨true, 3, 2, by omega, by omega, by simp only [Bool.toNat_true, Bool.toNat_false]; omega, rfl, rfl, rfl⟩))
        · simp only [Bool.toNat_true, Bool.toNat_false] at hk
          refine ⟨[4, 5], by kernel_rfl, by simp, ?_⟩
          refine all_cons ?_ (all_cons ?_ (all_nil))
          · (refine wpOpIn_step rfl fun K hK => ?_
             dsimp only [Nat.reduceLeDiff, reduceIte]
             go_simp
             exact hK _ _ (.inl ⟨true, 4, 0, by omega, by omega, by simp only [Bool.toNat_true, Bool.toNat_false]; omega, rfl, rfl, rfl⟩))
          · (refine wpOpIn_step rfl fun K hK => ?_
             dsimp only [Nat.reduceLeDiff, reduceIte]
             go_simp
             exact hK _ _ (.inl ⟨true, 3, 1, by omega, by omega, by simp only [Bool.toNat_true, Bool.toNat_false]; omega, rfl, rfl, rfl⟩))
        · simp only [Bool.toNat_true, Bool.toNat_false] at hk
          refine ⟨[4, 6], by kernel_rfl, by simp, ?_⟩
          refine all_cons ?_ (all_cons ?_ (all_nil))
          · (refine wpOpIn_step rfl fun K hK => ?_
             dsimp only [Nat.reduceLeDiff, reduceIte]
             go_simp
             exact hK _ _ (.inl ⟨true, 4, 1, by omega, by omega, by simp only [Bool.toNat_true, Bool.toNat_false]; omega, rfl, rfl, rfl⟩))
          · (refine wpOpIn_step rfl fun K hK => ?_
             dsimp only [Nat.reduceLeDiff, reduceIte]
             go_simp
             exact hK _ _ (.inl ⟨true, 3, 2, by omega, by omega, by simp only [Bool.toNat_true, Bool.toNat_false]; omega, rfl, rfl, rfl⟩))
        · simp only [Bool.toNat_true, Bool.toNat_false] at hk
          refine ⟨[4], by kernel_rfl, by simp, ?_⟩
          refine all_cons ?_ (all_nil)
          · (refine wpOpIn_step rfl fun K hK => ?_
             dsimp only [Nat.reduceLeDiff, reduceIte]
             go_simp
             exact hK _ _ (.inl ⟨true, 4, 2, by omega, by omega, by simp only [Bool.toNat_true, Bool.toNat_false]; omega, rfl, rfl, rfl⟩))
        · simp only [Bool.toNat_true, Bool.toNat_false] at hk
          refine ⟨[5], by kernel_rfl, by simp, ?_⟩
          refine all_cons ?_ (all_nil)
          · (refine wpOpIn_step rfl fun K hK => ?_
             dsimp only [Nat.reduceLeDiff, reduceIte]
             go_simp
             exact hK _ _ (.inl ⟨true, 4, 1, by omega, by omega, by simp only [Bool.toNat_true, Bool.toNat_false]; omega, rfl, rfl, rfl⟩))
        · simp only [Bool.toNat_true, Bool.toNat_false] at hk
          refine ⟨[6], by kernel_rfl, by simp, ?_⟩
          refine all_cons ?_ (all_nil)
          · (refine wpOpIn_step rfl fun K hK => ?_
             dsimp only [Nat.reduceLeDiff, reduceIte]
             go_simp
             exact hK _ _ (.inl ⟨true, 4, 2, by omega, by omega, by simp only [Bool.toNat_true, Bool.toNat_false]; omega, rfl, rfl, rfl⟩))
        · simp only [Bool.toNat_true, Bool.toNat_false] at hk
          refine ⟨[7], by kernel_rfl, by simp, ?_⟩
          refine all_cons ?_ (all_nil)
          · (refine wpOpIn_step rfl fun K hK => ?_
             refine stepIn_append_own _ rfl _ _ 47 rfl w.heap.size 3 i0 (.int .i64 0) 1 8 underlying47 hi hz0 hz1 hz2 rfl (by decide) _ _ _ rfl hrowA ⟨W.heap.size, 0, none⟩ 1 1 [bitI x] rfl rfl hnewA (by simp [bitI, Value.oneCell']) hb1 hb2 hb3 fun v' w1 hown' hgrow => ?_
             obtain ⟨g', cap', rfl⟩ := ownsRow_succ hown'
             exact hK _ _ (.inr ⟨true, 1, g', cap', w1, by omega, by omega, by omega, by simp only [Bool.toNat_true, Bool.toNat_false]; omega, ⟨hown', hgrow⟩, rfl, rfl, rfl⟩))
      · obtain ⟨hF1, hP1⟩ := hkeep _ _ _ hf
        have c01 := cell_of_block hF1 0
        simp at c01
        have f01 := free_of_block hF1 0
        have cp1 := hP1.cell
        have ht : t = 1 ∨ t = 2 ∨ t = 3 ∨ t = 4 := by omega
        cases p with
        | false =>
          simp only [Bool.toNat_false] at hk
          obtain rfl : t = 1 := by rcases ht with rfl | rfl | rfl | rfl <;> simp at htp <;> rfl
          refine ⟨[0], by kernel_rfl, by simp, ?_⟩
          refine all_cons ?_ (all_nil)
          refine wpOpIn_step rfl fun K hK => ?_
          dsimp only [Nat.reduceLeDiff, reduceIte]
          go_simp
          exact hK _ _ (.inr ⟨true, 1, g', cap', w1, by omega, by omega, fun _ => rfl, by simp only [Bool.toNat_true]; omega, hf, rfl, rfl, rfl⟩)
        | true =>
          simp only [Bool.toNat_true] at hk
          rcases ht with rfl | rfl | rfl | rfl
          · refine ⟨[8], by kernel_rfl, by simp, ?_⟩
            refine all_cons ?_ (all_nil)
            refine wpOpIn_step rfl fun K hK => ?_
            dsimp only [Nat.reduceLeDiff, reduceIte]
            go_simp
            exact hK _ _ (.inr ⟨true, 2, g', cap', w1, by omega, by omega, fun _ => rfl, by simp only [Bool.toNat_true]; omega, hf, rfl, rfl, rfl⟩)
          · refine ⟨[9], by kernel_rfl, by simp, ?_⟩
            refine all_cons ?_ (all_nil)
            refine wpOpIn_step rfl fun K hK => ?_
            dsimp only [Nat.reduceLeDiff, reduceIte]
            go_simp
            exact hK _ _ (.inr ⟨true, 3, g', cap', w1, by omega, by omega, fun _ => rfl, by simp only [Bool.toNat_true]; omega, hf, rfl, rfl, rfl⟩)
          · refine ⟨[10], by kernel_rfl, by simp, ?_⟩
            refine all_cons ?_ (all_nil)
            refine wpOpIn_step rfl fun K hK => ?_
            dsimp only [Nat.reduceLeDiff, reduceIte]
            go_simp
            exact hK _ _ (.inr ⟨true, 4, g', cap', w1, by omega, by omega, fun _ => rfl, by simp only [Bool.toNat_true]; omega, hf, rfl, rfl, rfl⟩)
          · omega
  case done =>
    rintro D ys W hD rfl ⟨⟨v, hv, hrow⟩, hbx, hB⟩ hK
    have hc := hbx.cell
    gi_wp2
    refine ⟨by simp, .inl ⟨_, _, rfl, run_takeDeferred hK, ?_⟩⟩
    have hne : w.heap.size ≠ D := by rintro rfl; rw [show W.heap[w.heap.size]? = _ from hv] at hK; cases hK
    exact ⟨_, results_tmp rfl _ _ _, rfl, ⟨v, hv.kept (grownBy_putObj' W D _) (by simpa using hne), ownsRow_putObj hrow _ hK rfl⟩, hB.trans (belowK_b (w := w) (Nat.le_refl _) W D _ _ (by simp at hD; omega) hK rfl rfl)⟩
  case stop =>
    rintro D c pre W _ _ h _
    exact h.elim

theorem feeler_of_held {w : World} {B b : Nat} {v : Value} {l : List Bool} (hB : B ≤ b) (hv : Held w b v) (hrow : w.ownsRow B 3 1 v l.length (l.map bitI)) : IsFeeler B b l (onesB l) w := by
  have hne := hv.not_row hrow
  rcases hrow.2 with ⟨rfl, hn⟩ | ⟨g, cap, cur, rfl, hbg, hg, h1, h2, h3, h4⟩
  · exact ⟨hB, none, 0, 0, by rw [hn]; exact hv, by omega, by omega, by omega, .inl (List.eq_nil_of_length_eq_zero hn)⟩
  · refine ⟨hB, some ⟨g, 0, none⟩, cap, 0, hv, by omega, h1, h2, .inr ⟨g, 0, rfl, ?_, ⟨cur, (0, 0), hg⟩, fun j hj => ?_⟩⟩
    · rintro rfl; exact hne rfl
    · have := hrow.cellAt j (by omega)
      rw [Nat.zero_add, this]
      simp [bitI, hj]
theorem newFeeler_any (N : Nat) (a : Option Addr) (cap : Nat) (bs : List UInt8) (hlen : bs.length ≤ 100000) (w : World) (hN : N ≤ w.heap.size) (hr : RowsR u8R 1 N w a bs) :
    Calls Tryz.prog 45 #[.slice a bs.length cap] w fun e W' => e = .returned (.pointer (some ⟨w.heap.size, 0, none⟩)) ∧ IsFeeler w.heap.size w.heap.size (bitsOf bs) (onesB (bitsOf bs)) W' ∧ Below w.heap.size w W' := by
  refine (callsIn_wide (n := 3)).1 ?_
  refine (newFeeler_in Fence.wide 3 trivial trivial trivial rfl (by omega) N a cap bs hlen w hN hr).mono ?_
  rintro e W' ⟨rfl, ⟨v, hv, hrow⟩, hb⟩
  exact ⟨rfl, feeler_of_held (Nat.le_refl _) hv hrow, hb⟩
end Go.Proofs.YtjmhpfedglindaaGreatDoor
