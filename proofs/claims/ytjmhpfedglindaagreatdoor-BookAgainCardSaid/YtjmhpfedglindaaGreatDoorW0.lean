/- W0: append, where the old cells stay to be read: a step of a drawn region. -/
import Derived.Test.YtjmhpfedglindaaGreatDoorX1
import Derived.Deep.RegionLaw
import Derived.Deep.RegionLawGrows
set_option linter.unusedVariables false
set_option linter.unusedSimpArgs false
namespace Go.Proofs.YtjmhpfedglindaaGreatDoor
open Go.RowKit

theorem cell_of_block' {w : World} {b : Nat} {cs : Array Value} {e : TypeId} {fz : Nat × Nat} (h : w.heap[b]? = some (.cells cs e fz)) {j : Nat} : w.cell? ⟨b, j, none⟩ = cs[j]? := by simp [World.cell?, h]
theorem step_append_kept {P : Program} (w : World) {ops : Array Oper} {o : Oper} {a : Act} {Q : Exit → Act → World → Prop} {K : Act → World → Prop} {E : Prop}
    (hg : o.guard = none) (s x : Operand) (t : TypeId) (hop : o.op = Op.call { callee := Callee.builtin Builtin.append, args := #[s, x], argTypes := #[t, t] })
    (base : Nat) (e : TypeId) (i : TypeInfo) (z : Value) (size bytes : Nat) (h1 : P.underlying t = some (.slice e)) (h2 : P.info? e = some i) (h3 : i.zero = some z) (h4 : i.size = size) (h5 : i.bytes = bytes) (h6 : z.cells.size = size) (h7 : 0 < size)
    (gb k gc : Nat) (xs : List Value) (hs : a.eval s = .slice (some ⟨gb, 0, none⟩) k gc) (hown : w.ownsRow base e size (.slice (some ⟨gb, 0, none⟩) k gc) k xs) (ad : Addr) (m c : Nat) (news : List Value) (hx : a.eval x = .slice (some ad) m c) (hn : news.length = m * size)
    (hc : ∀ j u, news[j]? = some u → w.cell? (ad.add j) = some u) (h1c : ∀ u ∈ news, u.oneCell' = true) (b1 : k + m ≤ maxLen) (b2 : (k + m) * bytes ≤ 140737488355328) (b3 : base ≤ w.heap.size)
    (hK : ∀ v' w', w'.ownsRow base e size v' (k + m) (xs ++ news) → w.grownBy w' (some gb) → (∀ j, j < k * size → w'.cell? ⟨gb, j, none⟩ = w.cell? ⟨gb, j, none⟩) → K (a.put o.dst v') w') :
    if Region.wanted o (yielded ops a.tmps) = true then Oper.wp P o a w K Q else E := by
  have hw : Region.wanted o (yielded ops a.tmps) = true := by simp [Region.wanted, hg]
  rw [if_pos hw]
  obtain ⟨v', w', hrun, r1, r2, r3⟩ := run_append_own (P := P) w base t o.type e i z size bytes h1 h2 h3 h4 h5 h6 h7 _ k xs hown ad m c news hn hc h1c b1 b2 b3
  have hkeep : ∀ j, j < k * size → w'.cell? ⟨gb, j, none⟩ = w.cell? ⟨gb, j, none⟩ := by
    intro j hj
    have hown' := hown
    rcases hown'.2 with ⟨h, _⟩ | ⟨g, cap, cur, hv, hb, hgk, hkc, hcm, hcs, htk⟩
    · cases h
    · injection hv with hv1 hv2 hv3
      injection hv1 with hv1
      injection hv1 with hv1
      subst hv1 hv3
      by_cases hroom : k + m ≤ gc
      · subst h4
        have hsp : ∀ j, j < news.length → (w.cell? ⟨gb, 0 + k * i.size + j, none⟩).isSome = true := by
          intro j hj
          have h8 : (k + m) * i.size ≤ gc * i.size := Nat.mul_le_mul_right _ hroom
          rw [Nat.add_mul] at h8
          rw [cell_of_block' hgk, Array.getElem?_eq_getElem (by omega)]
          rfl
        have hfr : ∀ j, j < news.length → w.frozen? ⟨gb, 0 + k * i.size + j, none⟩ = false := fun j _ => hown.frozenAt _
        have hr2 := run_append_room_cells (P := P) w t o.type e i h1 h2 gb 0 k gc ad m c news hn hc h1c hroom hsp hfr
        rw [hr2] at hrun
        injection hrun with _ hw'
        subst hw'
        exact World.cell?_setCells_out gb news _ w ⟨gb, j, none⟩ (fun _ _ => .inl (by show j < _; omega))
      · obtain ⟨v2, w2, hr2, _, hg2⟩ := run_append_arg_grows (P := P) w t o.type e i z size bytes h1 h2 h3 h4 h5 h6 h7 ⟨gb, 0, none⟩ k gc xs hown.1 (hown.cells rfl) ad m c news hn hc (by omega) b1 b2
        rw [hr2] at hrun
        injection hrun with _ hw'
        subst hw'
        exact World.cell?_of_block (a := ⟨gb, j, none⟩) (hg2.block gb (hown.lt gb rfl).2 (by simp))
  unfold Oper.wp
  simp [execOp, hop, resolve, invoke, builtin, hs, hx, hrun, Result.andThen]
  exact hK v' w' r1 r2 hkeep
end Go.Proofs.YtjmhpfedglindaaGreatDoor
