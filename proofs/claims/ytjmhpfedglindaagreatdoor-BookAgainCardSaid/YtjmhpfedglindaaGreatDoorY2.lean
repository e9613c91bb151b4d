/- Y2: rows of rows that the last one grows in: what ReadSheets's inner function owns; append as a step of a drawn region, with where the new slice lies. -/
import Derived.Test.YtjmhpfedglindaaGreatDoorY1
import Derived.Maps.AppendAt
set_option linter.unusedVariables false
set_option linter.unusedSimpArgs false
namespace Go.Proofs.YtjmhpfedglindaaGreatDoor
open Go.RowKit

theorem step_append_at {P : Program} (w : World) {ops : Array Oper} {o : Oper} {a : Act} {Q : Exit → Act → World → Prop} {K : Act → World → Prop} {E : Prop}
    (hg : o.guard = none) (s x : Operand) (t : TypeId) (hop : o.op = Op.call { callee := Callee.builtin Builtin.append, args := #[s, x], argTypes := #[t, t] })
    (base : Nat) (e : TypeId) (i : TypeInfo) (z : Value) (size bytes : Nat) (h1 : P.underlying t = some (.slice e)) (h2 : P.info? e = some i) (h3 : i.zero = some z) (h4 : i.size = size) (h5 : i.bytes = bytes) (h6 : z.cells.size = size) (h7 : 0 < size)
    (v : Value) (k : Nat) (xs : List Value) (hs : a.eval s = v) (hown : w.ownsRow base e size v k xs) (ad : Addr) (m c : Nat) (news : List Value) (hx : a.eval x = .slice (some ad) m c) (hn : news.length = m * size)
    (hc : ∀ j u, news[j]? = some u → w.cell? (ad.add j) = some u) (h1c : ∀ u ∈ news, u.oneCell' = true) (b1 : k + m ≤ maxLen) (b2 : (k + m) * bytes ≤ 140737488355328) (b3 : base ≤ w.heap.size)
    (hK : ∀ v' w', w'.ownsRow base e size v' (k + m) (xs ++ news) → w.grownBy w' v.ownBlock → (v'.ownBlock = v.ownBlock ∨ v'.ownBlock = some w.heap.size) → K (a.put o.dst v') w') :
    if Region.wanted o (yielded ops a.tmps) = true then Oper.wp P o a w K Q else E := by
  have hw : Region.wanted o (yielded ops a.tmps) = true := by simp [Region.wanted, hg]
  rw [if_pos hw]
  obtain ⟨v', w', hrun, r1, r2, _, r3⟩ := run_append_own_at (P := P) w base t o.type e i z size bytes h1 h2 h3 h4 h5 h6 h7 _ k xs hown ad m c news hn hc h1c b1 b2 b3
  unfold Oper.wp
  simp [execOp, hop, resolve, invoke, builtin, hs, hx, hrun, Result.andThen]
  exact hK v' w' r1 r2 r3

/-- As 'Nest', and no slice of an element lies in the last one's row. -/
def NestA {α : Type} (e ie isz : Nat) (hd : α → Int) (il : α → Nat) (iv : α → List Value) (B : Nat) (w : World) (v : Value) (xs : List α) : Prop :=
  ∃ cs, w.ownsRow B e 2 v xs.length cs ∧ (∀ j (hj : j < xs.length), ∃ va, cs[j * 2]? = some (.int .i64 (hd xs[j])) ∧ cs[j * 2 + 1]? = some va ∧ w.ownsRow B ie isz va (il xs[j]) (iv xs[j])) ∧
    ∀ j va vl, j + 1 < xs.length → cs[j * 2 + 1]? = some va → cs[(xs.length - 1) * 2 + 1]? = some vl → va.ownBlock = none ∨ va.ownBlock ≠ vl.ownBlock
section
variable {α : Type} {e ie isz : Nat} {hd : α → Int} {il : α → Nat} {iv : α → List Value} {B : Nat} {w : World} {v : Value} {xs : List α}
theorem NestA.nest (h : NestA e ie isz hd il iv B w v xs) : Nest e ie isz hd il iv B w v xs := by
  obtain ⟨cs, h1, h2, _⟩ := h
  exact ⟨cs, h1, h2⟩
theorem NestA.nil : NestA e ie isz hd il iv B w (.slice none 0 0) ([] : List α) := ⟨[], World.ownsRow_nil _ _ _ _, ⟨fun j hj => absurd hj (Nat.not_lt_zero j), fun j _ _ hj => absurd hj (Nat.not_lt_zero _)⟩⟩
theorem NestA.later {W : World} (h : NestA e ie isz hd il iv B w v xs) (hb : Below w.heap.size w W) : NestA e ie isz hd il iv B W v xs := by
  obtain ⟨cs, h1, h2, h3⟩ := h
  refine ⟨cs, own_later h1 hb, fun j hj => ?_, h3⟩
  obtain ⟨va, a, b, c⟩ := h2 j hj
  exact ⟨va, a, b, own_later c hb⟩
/-- One element more, with a slice of no row. -/
theorem NestA.snoc {w' : World} {cs : List Value} {v' : Value} {x : α} (hne : ie ≠ e) (h1 : w.ownsRow B e 2 v xs.length cs) (h2 : ∀ j (hj : j < xs.length), ∃ va, cs[j * 2]? = some (.int .i64 (hd xs[j])) ∧ cs[j * 2 + 1]? = some va ∧ w.ownsRow B ie isz va (il xs[j]) (iv xs[j]))
    (hx : il x = 0) (hv : iv x = []) (hg : w.grownBy w' v.ownBlock) (h' : w'.ownsRow B e 2 v' (xs.length + 1) (cs ++ [.int .i64 (hd x), .slice none 0 0])) : NestA e ie isz hd il iv B w' v' (xs ++ [x]) := by
  have hx' : w.ownsRow B ie isz (.slice none 0 0) (il x) (iv x) := by rw [hx, hv]; exact World.ownsRow_nil _ _ _ _
  obtain ⟨cs', q1, q2⟩ := Nest.snoc hne h1 h2 hx' hg h'
  have hl := h1.1
  refine ⟨cs ++ [.int .i64 (hd x), .slice none 0 0], by rw [List.length_append]; exact h', ⟨fun j hj => ?_, fun j va vl hj ha hb => ?_⟩⟩
  · rw [List.length_append, List.length_singleton] at hj
    by_cases hlt : j < xs.length
    · obtain ⟨u, a, b, c⟩ := h2 j hlt
      refine ⟨u, ?_, ?_, ?_⟩
      · rw [List.getElem?_append_left (by omega), a, List.getElem_append_left hlt]
      · rw [List.getElem?_append_left (by omega), b]
      · rw [List.getElem_append_left hlt]
        exact c.kept hg (own_apart c h1 hne)
    · obtain rfl : j = xs.length := by omega
      refine ⟨.slice none 0 0, ?_, ?_, ?_⟩
      · rw [List.getElem?_append_right (by omega), hl]; simp
      · rw [List.getElem?_append_right (by omega), hl]; simp
      · simp only [List.getElem_append_right (Nat.le_refl _), Nat.sub_self, List.getElem_cons_zero]
        rw [hx, hv]; exact World.ownsRow_nil _ _ _ _
  · rw [List.length_append, List.length_singleton, Nat.add_sub_cancel] at hb
    rw [List.getElem?_append_right (by omega), hl] at hb
    simp at hb
    subst hb
    cases hva : va.ownBlock with
    | none => exact .inl rfl
    | some q => exact .inr (by simp [Value.ownBlock])
theorem ownsRow_set {g n c : Nat} {cs : List Value} (h : w.ownsRow B e 2 (.slice (some ⟨g, 0, none⟩) n c) n cs) (j : Nat) (hj : j < n * 2) (u : Value) : (w.setCell ⟨g, j, none⟩ u).ownsRow B e 2 (.slice (some ⟨g, 0, none⟩) n c) n (cs.set j u) := by
  refine ⟨by rw [List.length_set]; exact h.1, ?_⟩
  rcases h.2 with ⟨h1, _⟩ | ⟨g', cap, cur, h1, hb, hk, h3, h4, h5, h6⟩
  · cases h1
  · injection h1 with e1 e2 e3
    injection e1 with e1
    injection e1 with e1
    subst e1 e3
    refine .inr ⟨g, c, cur.setIfInBounds j u, rfl, hb, ?_, h3, h4, by rw [Array.size_setIfInBounds]; exact h5, ?_⟩
    · exact block_set hk j u
    · rw [Array.toList_setIfInBounds, List.take_set, h6]
theorem NestA.grow {w1 : World} {n gb gc : Nat} {va va' : Value} {ys : List α} {x x' : α} (h : NestA e ie isz hd il iv B w (.slice (some ⟨gb, 0, none⟩) n gc) (ys ++ [x])) (hne : ie ≠ e) (hva : w.cell? ⟨gb, ys.length * 2 + 1, none⟩ = some va)
    (hg : w.grownBy w1 va.ownBlock) (hv' : w1.ownsRow B ie isz va' (il x') (iv x')) (hloc : va'.ownBlock = va.ownBlock ∨ va'.ownBlock = some w.heap.size) (hhd : hd x' = hd x) :
    NestA e ie isz hd il iv B (w1.setCell ⟨gb, ys.length * 2 + 1, none⟩ va') (.slice (some ⟨gb, 0, none⟩) n gc) (ys ++ [x']) := by
  obtain ⟨cs, h1, h2, h3⟩ := h
  have hlen : (ys ++ [x]).length = ys.length + 1 := by simp
  have hlen' : (ys ++ [x']).length = ys.length + 1 := by simp
  rw [hlen] at h1 h3
  have hn : n = ys.length + 1 := by
    rcases h1.2 with ⟨q, _⟩ | ⟨_, _, _, q, _⟩
    · cases q
    · injection q
  subst hn
  have hcl := h1.1
  have hcs : cs[ys.length * 2 + 1]? = some va := by rw [← hva, ← h1.cellAt (ys.length * 2 + 1) (by omega)]
  obtain ⟨vx, x1, x2, x3⟩ := h2 ys.length (by omega)
  rw [hcs] at x2
  injection x2 with x2
  subst x2
  have hgb : gb ≠ w.heap.size := by have := (h1.lt gb rfl).2; omega
  have hrow1 := h1.kept hg (own_apart h1 x3 (Ne.symm hne))
  have hset := ownsRow_set hrow1 (ys.length * 2 + 1) (by omega) va'
  refine ⟨cs.set (ys.length * 2 + 1) va', by rw [hlen']; exact hset, ⟨fun j hj => ?_, fun j u vl hj hu hvl => ?_⟩⟩
  · rw [hlen'] at hj
    by_cases hlt : j < ys.length
    · obtain ⟨u, a, b, c⟩ := h2 j (by omega)
      refine ⟨u, ?_, ?_, ?_⟩
      · rw [List.getElem?_set_ne (by omega), a, List.getElem_append_left hlt, List.getElem_append_left hlt]
      · rw [List.getElem?_set_ne (by omega), b]
      · rw [List.getElem_append_left hlt] at c ⊢
        have c1 := c.kept hg (h3 j u va (by omega) b (by simpa using hcs))
        exact ownsRow_setCell_other c1 (fun e => (own_apart c1 hrow1 hne).elim (fun h => by rw [h] at e; cases e) (fun h => h (by rw [e]; rfl))) _
    · obtain rfl : j = ys.length := by omega
      refine ⟨va', ?_, ?_, ?_⟩
      · rw [List.getElem?_set_ne (by omega), x1]
        simp [hhd]
      · rw [List.getElem?_set_self (by omega)]
      · simp only [List.getElem_append_right (Nat.le_refl _), Nat.sub_self, List.getElem_cons_zero]
        exact ownsRow_setCell_other hv' (fun e => (own_apart hv' hrow1 hne).elim (fun h => by rw [h] at e; cases e) (fun h => h (by rw [e]; rfl))) _
  · rw [hlen'] at hj hvl
    rw [List.getElem?_set_ne (by omega)] at hu
    rw [Nat.add_sub_cancel, List.getElem?_set_self (by omega)] at hvl
    injection hvl with hvl
    subst hvl
    have h4 := h3 j u va (by omega) hu (by simpa using hcs)
    rcases hloc with hl | hl
    · rw [hl]; exact h4
    · rw [hl]
      obtain ⟨u', _, b, c⟩ := h2 j (by omega)
      rw [hu] at b
      injection b with b
      subst b
      cases hub : u.ownBlock with
      | none => exact .inl rfl
      | some q =>
        refine .inr fun heq => ?_
        injection heq with heq
        have := (c.lt q hub).2
        omega
end
end Go.Proofs.YtjmhpfedglindaaGreatDoor
