/- V1: lines; growths; what ReadPages answers, plainly; what is written is read, what is read was written (pages). -/
import Derived.Test.YtjmhpfedglindaaGreatDoorV0
set_option linter.unusedVariables false
set_option linter.unusedSimpArgs false
namespace Go.Proofs.YtjmhpfedglindaaGreatDoor

/-- The lines of a file, if each of them ends. -/
def linesP (t : List UInt8) : Option (List (List UInt8)) := if t = [] then some [] else if t.getLast? = some 10 then some (partsL 10 t.dropLast) else none
def unlines (ls : List (List UInt8)) : List UInt8 := (ls.map (· ++ [10])).flatten
theorem unlines_glue : ∀ (ls : List (List UInt8)), ls ≠ [] → unlines ls = glueL 10 ls ++ [10] := by
  intro ls
  induction ls with
  | nil => intro h; exact absurd rfl h
  | cons p ls ih =>
    intro _
    cases ls with
    | nil => simp [unlines, glueL]
    | cons q ls =>
      have := ih (by simp)
      rw [unlines, List.map_cons, List.flatten_cons, ← unlines, this, glueL]; simp
theorem linesP_read {t : List UInt8} {ls : List (List UInt8)} (h : linesP t = some ls) : unlines ls = t ∧ ∀ p ∈ ls, (10 : UInt8) ∉ p := by
  unfold linesP at h
  split at h
  · rename_i h0
    simp only [Option.some.injEq] at h
    subst h h0; exact ⟨rfl, by simp⟩
  · split at h
    · rename_i h0 h1
      simp only [Option.some.injEq] at h
      subst h
      refine ⟨?_, parts_mem 10 _ _ (Nat.le_refl _)⟩
      rw [unlines_glue _ (partsL_ne _ _), glue_parts 10 _ _ (Nat.le_refl _)]
      obtain ⟨h2, h3⟩ := List.getLast?_eq_some_iff.1 h1
      rw [h3]; simp
    · cases h
theorem linesP_write (ls : List (List UInt8)) (h : ∀ p ∈ ls, (10 : UInt8) ∉ p) : linesP (unlines ls) = some ls := by
  by_cases h0 : ls = []
  · subst h0; rfl
  · rw [unlines_glue ls h0, linesP, if_neg (by simp), if_pos (by simp), List.dropLast_concat, parts_glue 10 ls h0 h]
theorem joinL_glue : ∀ (ws : List (List UInt8)), joinL ws = glueL 32 ws := by
  intro ws
  induction ws with
  | nil => rfl
  | cons p ws ih =>
    cases ws with
    | nil => simp [joinL, Lib.join, glueL, List.intercalate]
    | cons q ws =>
      rw [glueL, ← ih]
      simp [joinL, Lib.join, List.intercalate]

/-! ### Growths -/
def growthP (w : List UInt8) : Option Growth :=
  match Lib.cut w [120] with
  | (_, _, false) => match figureP w with | none => none | some d => some ⟨1, d⟩
  | (a, b, true) => match figureP a with | none => none | some m => match figureP b with | none => none | some d => if 2 ≤ m ∧ m ≤ 16 then some ⟨m, d⟩ else none
theorem cut_form (w : List UInt8) (c : UInt8) : (c ∉ w ∧ Lib.cut w [c] = (w, [], false)) ∨ ∃ p r, w = p ++ c :: r ∧ c ∉ p ∧ Lib.cut w [c] = (p, r, true) := by
  rcases split_at c w with h | ⟨p, r, rfl, h⟩
  · exact .inl ⟨h, cut_none c w h⟩
  · exact .inr ⟨p, r, rfl, h, cut_some c p r h⟩
/-- A growth as it can be written. -/
def GFine (g : Growth) : Prop := 1 ≤ g.many ∧ g.many ≤ 16 ∧ 0 ≤ g.by_ ∧ g.by_ < 1000000000000
theorem growthP_read {w : List UInt8} {g : Growth} (h : growthP w = some g) : wordL g = w ∧ GFine g := by
  unfold growthP at h
  rcases cut_form w 120 with ⟨h0, e⟩ | ⟨p, r, rfl, h0, e⟩
  · rw [e] at h
    simp only at h
    split at h
    · cases h
    · rename_i d hd
      simp only [Option.some.injEq] at h
      subst h
      obtain ⟨f1, f2⟩ := figure_some hd
      exact ⟨by rw [wordL, if_pos rfl]; exact f1, by unfold GFine; dsimp only; omega⟩
  · rw [e] at h
    simp only at h
    split at h
    · cases h
    · rename_i m hm
      split at h
      · cases h
      · rename_i d hd
        split at h
        · rename_i hb
          simp only [Option.some.injEq] at h
          subst h
          obtain ⟨f1, f2⟩ := figure_some hd
          obtain ⟨g1, g2⟩ := figure_some hm
          refine ⟨?_, by unfold GFine; dsimp only; omega⟩
          rw [wordL, if_neg (by dsimp only; omega)]
          dsimp only
          rw [f1, g1]
        · cases h
theorem x_not_dig : isDig 120 = false := by decide
theorem growthP_write {g : Growth} (h : GFine g) : growthP (wordL g) = some g := by
  obtain ⟨m, d⟩ := g
  obtain ⟨h1, h2, h3, h4⟩ := h
  dsimp only at h1 h2 h3 h4
  obtain ⟨d', rfl⟩ := Int.eq_ofNat_of_zero_le h3
  obtain ⟨m', rfl⟩ := Int.eq_ofNat_of_zero_le (show 0 ≤ m by omega)
  have hd := figure_itoa (d' : Int) (by omega) h4
  have hm := figure_itoa (m' : Int) (by omega) (by omega)
  have nd := notDig_mem x_not_dig (itoa_digs (d' : Int) (by omega)).1
  have nm := notDig_mem x_not_dig (itoa_digs (m' : Int) (by omega)).1
  unfold wordL growthP
  by_cases hm1 : (m' : Int) = 1
  · rw [if_pos hm1, cut_none _ _ nd]
    dsimp only
    rw [hd]
    dsimp only
    rw [hm1]; simp
  · rw [if_neg hm1, cut_some _ _ _ nm]
    dsimp only
    rw [hd, hm]
    dsimp only
    rw [if_pos (by omega)]; simp
/-- The numbers that growths lead to, one by one. -/
def sumsL : Int → List Int → List Int
  | _, [] => []
  | a, d :: ds => (a + d) :: sumsL (a + d) ds
theorem sumsL_append (a : Int) (x y : List Int) : sumsL a (x ++ y) = sumsL a x ++ sumsL (a + x.sum) y := by
  induction x generalizing a with
  | nil => simp [sumsL]
  | cons d x ih => rw [List.cons_append, sumsL, ih, sumsL, List.sum_cons, List.cons_append, Int.add_assoc]
theorem sumsL_length (a : Int) (x : List Int) : (sumsL a x).length = x.length := by
  induction x generalizing a with
  | nil => rfl
  | cons d x ih => simp [sumsL, ih]
theorem diffs_sums (a : Int) (ds : List Int) : diffs (a :: sumsL a ds) = ds := by
  induction ds generalizing a with
  | nil => rfl
  | cons d ds ih => rw [sumsL, diffs, ih]; congr 1; omega
theorem sums_diffs (a : Int) (l : List Int) : a :: sumsL a (diffs (a :: l)) = a :: l := by
  induction l generalizing a with
  | nil => rfl
  | cons b l ih =>
    rw [diffs, sumsL]
    have : a + (b - a) = b := by omega
    rw [this, ih]
def lastD (l : List Int) : Int := match l.getLast? with | some a => a | none => 0
theorem lastD_snoc (l : List Int) (a : Int) : lastD (l ++ [a]) = a := by simp [lastD]
theorem lastD_sums (l : List Int) (ds : List Int) : lastD (l ++ sumsL (lastD l) ds) = lastD l + ds.sum := by
  induction ds generalizing l with
  | nil => simp [sumsL]
  | cons d ds ih =>
    have h := ih (l ++ [lastD l + d])
    rw [lastD_snoc] at h
    rw [sumsL, List.sum_cons, show l ++ (lastD l + d) :: sumsL (lastD l + d) ds = l ++ [lastD l + d] ++ sumsL (lastD l + d) ds by simp, h]; omega
def expand (gs : List Growth) : List Int := gs.flatMap fun g => List.replicate g.many.toNat g.by_
def chainNe : Growth → List Growth → Prop
  | _, [] => True
  | last, g :: gs => (last.many = 0 ∨ last.by_ ≠ g.by_) ∧ chainNe g gs
def growAll : List Int → Growth → List (List UInt8) → Option (List Int)
  | rs, _, [] => some rs
  | rs, last, w :: ws => match growthP w with
    | none => none
    | some g => if last.many = 0 ∨ last.by_ ≠ g.by_ then (if rs.length + g.many.toNat ≤ 16 then growAll (rs ++ sumsL (lastD rs) (List.replicate g.many.toNat g.by_)) g ws else none) else none
theorem growAll_read : ∀ (ws : List (List UInt8)) (rs : List Int) (last : Growth) (out : List Int), growAll rs last ws = some out →
    ∃ gs, ws = gs.map wordL ∧ (∀ g ∈ gs, GFine g) ∧ chainNe last gs ∧ out = rs ++ sumsL (lastD rs) (expand gs) := by
  intro ws
  induction ws with
  | nil =>
    intro rs last out h
    simp only [growAll, Option.some.injEq] at h
    subst h
    exact ⟨[], rfl, by simp, trivial, by simp [expand, sumsL]⟩
  | cons w ws ih =>
    intro rs last out h
    simp only [growAll] at h
    split at h
    · cases h
    · rename_i g hg
      split at h
      · rename_i hne
        split at h
        · rename_i hl
          obtain ⟨gs, rfl, h2, h3, rfl⟩ := ih _ _ _ h
          obtain ⟨w1, w2⟩ := growthP_read hg
          refine ⟨g :: gs, by rw [List.map_cons, w1], ?_, ⟨hne, h3⟩, ?_⟩
          · intro x hx
            rcases List.mem_cons.1 hx with rfl | hx
            · exact w2
            · exact h2 x hx
          · have e : expand (g :: gs) = List.replicate g.many.toNat g.by_ ++ expand gs := by simp [expand]
            rw [lastD_sums, e, sumsL_append, List.append_assoc]
        · cases h
      · cases h
theorem growAll_write : ∀ (gs : List Growth) (rs : List Int) (last : Growth), (∀ g ∈ gs, GFine g) → chainNe last gs → rs.length + (expand gs).length ≤ 16 →
    growAll rs last (gs.map wordL) = some (rs ++ sumsL (lastD rs) (expand gs)) := by
  intro gs
  induction gs with
  | nil => intro rs last _ _ _; simp [growAll, expand, sumsL]
  | cons g gs ih =>
    intro rs last hf hc hl
    have e : expand (g :: gs) = List.replicate g.many.toNat g.by_ ++ expand gs := by simp [expand]
    rw [e, List.length_append, List.length_replicate] at hl
    rw [List.map_cons, growAll, growthP_write (hf g (by simp))]
    dsimp only
    rw [if_pos hc.1, if_pos (by omega), ih _ g (fun x hx => hf x (by simp [hx])) hc.2 (by rw [List.length_append, sumsL_length, List.length_replicate]; omega)]
    rw [lastD_sums, e, sumsL_append, List.append_assoc]
/-- Like growths taken together, from the front. -/
def rleC : List Int → List Growth
  | [] => []
  | d :: ds => match rleC ds with
    | [] => [⟨1, d⟩]
    | g :: gs => if g.by_ = d then ⟨g.many + 1, d⟩ :: gs else ⟨1, d⟩ :: g :: gs
theorem rleC_facts : ∀ (ds : List Int), expand (rleC ds) = ds ∧ (∀ g ∈ rleC ds, 1 ≤ g.many) ∧ chainNe ⟨0, 0⟩ (rleC ds) := by
  intro ds
  induction ds with
  | nil => exact ⟨rfl, by simp [rleC], trivial⟩
  | cons d ds ih =>
    obtain ⟨h1, h2, h3⟩ := ih
    cases hr : rleC ds with
    | nil =>
      rw [hr] at h1
      rw [rleC, hr]
      have : ds = [] := by rw [← h1]; rfl
      subst this
      exact ⟨by simp [expand], by simp, ⟨.inl rfl, trivial⟩⟩
    | cons g gs =>
      rw [hr] at h1 h2 h3
      rw [rleC, hr]
      dsimp only
      have hg := h2 g (by simp)
      have e : expand (g :: gs) = List.replicate g.many.toNat g.by_ ++ expand gs := by simp [expand]
      rw [e] at h1
      split
      · rename_i hb
        refine ⟨?_, ?_, ⟨.inl rfl, ?_⟩⟩
        · have e2 : expand (⟨g.many + 1, d⟩ :: gs) = List.replicate (g.many + 1).toNat d ++ expand gs := by simp [expand]
          have e3 : (g.many + 1).toNat = g.many.toNat + 1 := by omega
          rw [e2, e3, List.replicate_succ, List.cons_append, ← h1, hb]
        · intro x hx
          rcases List.mem_cons.1 hx with rfl | hx
          · dsimp only; omega
          · exact h2 x (by simp [hx])
        · cases gs with
          | nil => trivial
          | cons y gs =>
            have := h3.2
            refine ⟨.inr ?_, this.2⟩
            dsimp only
            rcases this.1 with h | h
            · omega
            · rw [← hb]; exact h
      · rename_i hb
        refine ⟨?_, ?_, ⟨.inl rfl, .inr (fun e => hb e.symm), h3.2⟩⟩
        · have e2 : expand (⟨1, d⟩ :: g :: gs) = d :: expand (g :: gs) := by simp [expand]
          rw [e2, e, h1]
        · intro x hx
          rcases List.mem_cons.1 hx with rfl | hx
          · dsimp only; omega
          · exact h2 x hx
theorem gstep_many (acc : List Growth) (b : Int) : ∀ (k : Nat) (m : Int), (List.replicate k b).foldl gstep (acc ++ [⟨m, b⟩]) = acc ++ [⟨m + k, b⟩] := by
  intro k
  induction k with
  | zero => intro m; simp
  | succ k ih =>
    intro m
    have e : m + 1 + (k : Int) = m + ((k + 1 : Nat) : Int) := by omega
    rw [List.replicate_succ, List.foldl_cons, gstep_snoc, if_pos rfl, ih, e]
theorem rle_fold : ∀ (gs : List Growth) (acc : List Growth), (∀ g ∈ gs, 1 ≤ g.many) → (∀ g h, gs.head? = some g → acc.getLast? = some h → h.by_ ≠ g.by_) → chainNe ⟨0, 0⟩ gs → (expand gs).foldl gstep acc = acc ++ gs := by
  intro gs
  induction gs with
  | nil => intro acc _ _ _; simp [expand]
  | cons g gs ih =>
    intro acc h1 h2 h3
    have e : expand (g :: gs) = List.replicate g.many.toNat g.by_ ++ expand gs := by simp [expand]
    have hg := h1 g (by simp)
    have e3 : g.many.toNat = (g.many.toNat - 1) + 1 := by omega
    have hs : gstep acc g.by_ = acc ++ [⟨1, g.by_⟩] := by
      unfold gstep
      cases hl : acc.getLast? with
      | none =>
        have : acc = [] := List.getLast?_eq_none_iff.1 hl
        subst this; rfl
      | some h =>
        dsimp only
        rw [if_neg (h2 g h rfl hl)]
    rw [e, List.foldl_append, e3, List.replicate_succ, List.foldl_cons, hs, gstep_many]
    have eg : (⟨1 + ((g.many.toNat - 1 : Nat) : Int), g.by_⟩ : Growth) = g := by
      have e4 : 1 + ((g.many.toNat - 1 : Nat) : Int) = g.many := by omega
      rw [e4]
    rw [eg, ih (acc ++ [g]) (fun x hx => h1 x (by simp [hx])) ?_ ?_, List.append_assoc]; rfl
    · intro x y hx hy
      rw [List.getLast?_concat] at hy
      injection hy with hy
      subst hy
      cases gs with
      | nil => cases hx
      | cons z gs =>
        injection hx with hx
        subst hx
        rcases h3.2.1 with h | h
        · omega
        · exact h
    · cases gs with
      | nil => trivial
      | cons z gs => exact ⟨.inl rfl, h3.2.2⟩
theorem growths_of {gs : List Growth} {ds : List Int} (h : expand gs = ds) (h1 : ∀ g ∈ gs, 1 ≤ g.many) (h2 : chainNe ⟨0, 0⟩ gs) : ds.foldl gstep [] = gs := by
  subst h
  have := rle_fold gs [] h1 (fun _ _ _ h => by cases h) h2
  simpa using this
theorem growthsL_rle (l : List Int) : growthsL l = rleC (diffs l) := by
  obtain ⟨h1, h2, h3⟩ := rleC_facts (diffs l)
  exact growths_of h1 h2 h3

/-! ### Pages -/
def pageP (l : List UInt8) : Option Page :=
  match partsL 32 l with
  | [] => none
  | h :: ws => match figureP h with
    | none => none
    | some n => match ws with
      | [] => some ⟨n, []⟩
      | r :: gs => match figureP r with
        | none => none
        | some a => match growAll [(a : Int)] ⟨0, 0⟩ gs with | none => none | some rs => some ⟨n, rs⟩
def pagesA : List Page → List (List UInt8) → Option (List Page)
  | acc, [] => some acc
  | acc, w :: ws => match pageP w with | none => none | some x => pagesA (acc ++ [x]) ws
/-- The pages of a file. -/
def readPg (t : List UInt8) : Option (List Page) :=
  match linesP t with
  | none => none
  | some ls => match pagesA [] ls with | none => none | some xs => if pagesErr xs = 0 then some xs else none

theorem pageP_read {l : List UInt8} {x : Page} (h : pageP l = some x) : joinL (pageWords x) = l := by
  unfold pageP at h
  split at h
  · cases h
  · rename_i hd ws hp
    have hg := glue_parts 32 _ l (Nat.le_refl _)
    rw [hp] at hg
    rw [joinL_glue, ← hg]
    split at h
    · cases h
    · rename_i n hn
      obtain ⟨f1, _⟩ := figure_some hn
      split at h
      · simp only [Option.some.injEq] at h
        subst h
        have : growthsL [] = [] := rfl
        rw [pageWords, f1]; simp only [firstL, this, List.map_nil, List.append_nil]
      · rename_i r gs
        split at h
        · cases h
        · rename_i a ha
          obtain ⟨f2, _⟩ := figure_some ha
          split at h
          · cases h
          · rename_i rs hrs
            simp only [Option.some.injEq] at h
            subst h
            obtain ⟨gg, rfl, g1, g2, rfl⟩ := growAll_read _ _ _ _ hrs
            have el : lastD [(a : Int)] = a := rfl
            have eg : growthsL ([(a : Int)] ++ sumsL (lastD [(a : Int)]) (expand gg)) = gg := by
              rw [el, growthsL, List.singleton_append, diffs_sums]
              exact growths_of rfl (fun g hg => (g1 g hg).1) g2
            rw [pageWords, f1, eg]
            simp only [List.singleton_append, firstL, f2]
theorem diffs_mem : ∀ (l : List Int) (B : Int), (∀ n ∈ l, 0 ≤ n ∧ n ≤ B) → sortedB l = true → ∀ d ∈ diffs l, 0 ≤ d ∧ d ≤ B := by
  intro l
  induction l with
  | nil => intro B _ _ d hd; cases hd
  | cons a l ih =>
    intro B hb hs d hd
    cases l with
    | nil => cases hd
    | cons b l =>
      simp only [sortedB, Bool.and_eq_true, decide_eq_true_eq] at hs
      rcases List.mem_cons.1 hd with rfl | hd
      · have h1 := hb a (by simp)
        have h2 := hb b (by simp)
        omega
      · exact ih B (fun n hn => hb n (by simp [hn])) hs.2 d hd
theorem diffs_length (l : List Int) : (diffs l).length = l.length - 1 := by
  induction l with
  | nil => rfl
  | cons a l ih =>
    cases l with
    | nil => rfl
    | cons b l => rw [diffs, List.length_cons, ih]; simp
theorem Page.parts {x : Page} (h : x.okB = true) : 0 ≤ x.house ∧ x.house ≤ 9999 ∧ x.readings.length ≤ 16 ∧ (∀ n ∈ x.readings, 0 ≤ n ∧ n ≤ 1073741824) ∧ sortedB x.readings = true := by
  have hb := Page.bounds h
  simp only [Page.okB, Bool.and_eq_true] at h
  exact ⟨hb.1, hb.2.1, hb.2.2.1, hb.2.2.2, h.2⟩
theorem growths_fine {x : Page} (h : x.okB = true) : ∀ g ∈ growthsL x.readings, GFine g := by
  obtain ⟨h1, h2, h3, h4, h5⟩ := Page.parts h
  intro g hg
  rw [growthsL_rle] at hg
  obtain ⟨e1, e2, e3⟩ := rleC_facts (diffs x.readings)
  have hm := e2 g hg
  have hin : g.by_ ∈ diffs x.readings := by
    rw [← e1, expand, List.mem_flatMap]
    exact ⟨g, hg, by rw [List.mem_replicate]; exact ⟨by omega, rfl⟩⟩
  have hb := diffs_mem x.readings 1073741824 h4 h5 _ hin
  have hlen : g.many.toNat ≤ (expand (rleC (diffs x.readings))).length := by
    rw [expand, List.length_flatMap]
    have hall : ∀ (gs : List Growth), g ∈ gs → g.many.toNat ≤ (gs.map fun a => (List.replicate a.many.toNat a.by_).length).sum := by
      intro gs
      induction gs with
      | nil => intro h; cases h
      | cons y gs ih =>
        intro h
        rw [List.map_cons, List.sum_cons, List.length_replicate]
        rcases List.mem_cons.1 h with rfl | h
        · omega
        · have := ih h; omega
    exact hall _ hg
  rw [e1, diffs_length] at hlen
  exact ⟨hm, by omega, hb.1, by omega⟩
theorem word_plain {g : Growth} (h : GFine g) : ∀ c ∈ wordL g, isDig c = true ∨ c = 120 := by
  obtain ⟨h1, h2, h3, h4⟩ := h
  unfold wordL
  split
  · intro c hc; exact .inl ((itoa_digs g.by_ h3).1 c hc)
  · intro c hc
    rcases List.mem_append.1 hc with hc | hc
    · exact .inl ((itoa_digs g.many (by omega)).1 c hc)
    · rcases List.mem_cons.1 hc with rfl | hc
      · exact .inr rfl
      · exact .inl ((itoa_digs g.by_ h3).1 c hc)
theorem pageWords_plain {x : Page} (h : x.okB = true) : ∀ w ∈ pageWords x, ∀ c ∈ w, isDig c = true ∨ c = 120 := by
  obtain ⟨h1, h2, h3, h4, h5⟩ := Page.parts h
  intro w hw
  simp only [pageWords, List.mem_cons, List.mem_append, List.mem_map] at hw
  rcases hw with rfl | hw | ⟨g, hg, rfl⟩
  · exact fun c hc => .inl ((itoa_digs x.house h1).1 c hc)
  · cases hr : x.readings with
    | nil => rw [hr] at hw; simp [firstL] at hw
    | cons a l =>
      rw [hr] at hw
      simp only [firstL, List.mem_singleton] at hw
      subst hw
      exact fun c hc => .inl ((itoa_digs a (h4 a (by simp [hr])).1).1 c hc)
  · exact word_plain (growths_fine h g hg)
theorem plain_not {w : List UInt8} {c : UInt8} (h : ∀ x ∈ w, isDig x = true ∨ x = 120) (h1 : isDig c = false) (h2 : c ≠ 120) : c ∉ w := by
  intro hc
  rcases h c hc with h | h
  · rw [h1] at h; cases h
  · exact h2 h
theorem pageP_write {x : Page} (h : x.okB = true) : pageP (joinL (pageWords x)) = some x := by
  obtain ⟨h1, h2, h3, h4, h5⟩ := Page.parts h
  have hp := pageWords_plain h
  unfold pageP
  rw [joinL_glue, parts_glue 32 _ (by simp [pageWords]) (fun p hp' => plain_not (hp p hp') (by decide) (by decide))]
  obtain ⟨hs, rs⟩ := x
  dsimp only at *
  simp only [pageWords]
  rw [figure_itoa hs h1 (by omega)]
  cases rs with
  | nil =>
    have : growthsL [] = [] := rfl
    simp only [firstL, this, List.map_nil, List.append_nil, Option.some.injEq, Page.mk.injEq, and_true]
    omega
  | cons a l =>
    have ha := h4 a (by simp)
    simp only [firstL, List.singleton_append]
    rw [figure_itoa a ha.1 (by omega)]
    dsimp only
    obtain ⟨e1, e2, e3⟩ := rleC_facts (diffs (a :: l))
    rw [← growthsL_rle] at e1 e2 e3
    have ea : ((a.toNat : Nat) : Int) = a := by omega
    have hlen : [((a.toNat : Nat) : Int)].length + (expand (growthsL (a :: l))).length ≤ 16 := by
      rw [e1, diffs_length]; simp at h3 ⊢; omega
    rw [growAll_write _ _ _ (growths_fine (x := ⟨hs, a :: l⟩) h) e3 hlen, e1]
    have el : lastD [((a.toNat : Nat) : Int)] = ((a.toNat : Nat) : Int) := rfl
    rw [el, ea, List.singleton_append, sums_diffs]
    simp only [Option.some.injEq, Page.mk.injEq, and_true]
    omega
theorem pagesA_read : ∀ (ls : List (List UInt8)) (acc xs : List Page), pagesA acc ls = some xs → pagesL xs = pagesL acc ++ unlines ls := by
  intro ls
  induction ls with
  | nil => intro acc xs h; simp only [pagesA, Option.some.injEq] at h; subst h; simp [unlines]
  | cons w ls ih =>
    intro acc xs h
    simp only [pagesA] at h
    split at h
    · cases h
    · rename_i x hx
      have := ih _ _ h
      have e := pageP_read hx
      rw [this]
      simp [pagesL, unlines, pageL, lineL, e]
theorem pagesA_write : ∀ (xs acc : List Page), (∀ x ∈ xs, x.okB = true) → pagesA acc (xs.map fun x => joinL (pageWords x)) = some (acc ++ xs) := by
  intro xs
  induction xs with
  | nil => intro acc _; simp [pagesA]
  | cons x xs ih =>
    intro acc h
    rw [List.map_cons, pagesA, pageP_write (h x (by simp))]
    dsimp only
    rw [ih _ (fun y hy => h y (by simp [hy])), List.append_assoc]; rfl
theorem pages_lines (xs : List Page) : pagesL xs = unlines (xs.map fun x => joinL (pageWords x)) := by
  rw [pagesL, unlines, List.map_map]; rfl
theorem err_parts {α : Type} {most : Nat} {ok : α → Bool} {num : α → Int} {l : List α} (h : errOf most ok num l = 0) : l.length ≤ most ∧ (∀ x ∈ l, ok x = true) ∧ risesB (l.map num) = true := by
  unfold errOf at h
  split at h
  · omega
  · split at h
    · rename_i hall
      split at h
      · exact ⟨by omega, List.all_eq_true.1 hall, by assumption⟩
      · omega
    · omega
theorem glue_not {c b : UInt8} (hcb : c ≠ b) : ∀ (ps : List (List UInt8)), (∀ p ∈ ps, c ∉ p) → c ∉ glueL b ps := by
  intro ps
  induction ps with
  | nil => intro _; simp [glueL]
  | cons p ps ih =>
    intro h
    cases ps with
    | nil => exact h p (by simp)
    | cons q ps =>
      rw [glueL]
      simp only [List.mem_append, List.mem_cons, not_or]
      exact ⟨h p (by simp), hcb, ih (fun x hx => h x (by simp [hx]))⟩
/-- What was written is read. -/
theorem readPg_write (xs : List Page) (h : pagesErr xs = 0) : readPg (pagesL xs) = some xs := by
  obtain ⟨h1, h2, h3⟩ := err_parts h
  unfold readPg
  rw [pages_lines, linesP_write]
  · dsimp only
    rw [pagesA_write xs [] h2]
    dsimp only
    rw [List.nil_append, if_pos h]
  · intro p hp
    obtain ⟨x, hx, rfl⟩ := List.mem_map.1 hp
    rw [joinL_glue]
    exact glue_not (by decide) _ (fun q hq => plain_not (pageWords_plain (h2 x hx) q hq) (by decide) (by decide))
/-- What is read is what was written. -/
theorem readPg_read (t : List UInt8) (xs : List Page) (h : readPg t = some xs) : pagesErr xs = 0 ∧ pagesL xs = t := by
  unfold readPg at h
  split at h
  · cases h
  · rename_i ls hls
    split at h
    · cases h
    · rename_i ys hys
      split at h
      · rename_i he
        simp only [Option.some.injEq] at h
        subst h
        refine ⟨he, ?_⟩
        rw [pagesA_read _ _ _ hys]
        exact (linesP_read hls).1
      · cases h
end Go.Proofs.YtjmhpfedglindaaGreatDoor
