/- V2: what ReadSheets answers, plainly; what is written is read, what is read was written (sheets). -/
import Derived.Test.YtjmhpfedglindaaGreatDoorV1
set_option linter.unusedVariables false
set_option linter.unusedSimpArgs false
namespace Go.Proofs.YtjmhpfedglindaaGreatDoor

def meterP (h : List UInt8) : Option Int :=
  if h.length = 7 then match figureP (Lib.trimLeftB (h.drop 1) 48) with | none => none | some n => if wideL n 6 48 = h.drop 1 then some (n : Int) else none
  else none
def tryP (l : List UInt8) : Option Try :=
  if l.length = 22 ∧ l[6]? = some 32 ∧ l[14]? = some 32 then
    match figureP (Lib.trimLeftB (l.take 6) 32) with
    | none => none
    | some a => match figureP (Lib.trimLeftB ((l.drop 7).take 7) 32) with
      | none => none
      | some b => match figureP (Lib.trimLeftB ((l.drop 15).take 7) 32) with
        | none => none
        | some c => if rowL ⟨a, b, c⟩ = [l.take 6, (l.drop 7).take 7, (l.drop 15).take 7] then some ⟨a, b, c⟩ else none
  else none
def sheetStep (acc : List Sheet) (own : List UInt8) : Option (List Sheet) :=
  if 2 < own.length ∧ own[own.length - 2]? = some 32 ∧ [checkD (own.take (own.length - 2))] = own.drop (own.length - 1) then
    if own.head? = some 35 then match meterP (own.take (own.length - 2)) with | none => none | some m => some (acc ++ [⟨m, []⟩])
    else match acc.getLast? with
      | none => none
      | some x => match tryP (own.take (own.length - 2)) with | none => none | some t => some (acc.dropLast ++ [⟨x.meter, x.tries ++ [t]⟩])
  else none
def sheetsA : List Sheet → List (List UInt8) → Option (List Sheet)
  | acc, [] => some acc
  | acc, w :: ws => match sheetStep acc w with | none => none | some a => sheetsA a ws
/-- The sheets of a file. -/
def readSh (t : List UInt8) : Option (List Sheet) :=
  match linesP t with
  | none => none
  | some ls => match sheetsA [] ls with | none => none | some xs => if sheetsErr xs = 0 then some xs else none

/-- A line with its check digit. -/
def checkedL (l : List UInt8) : List UInt8 := l ++ [32, checkD l]
theorem checked_line (l : List UInt8) : lineL [l, [checkD l]] = checkedL l ++ [10] := by simp [lineL, joinL2, checkedL]
theorem tryL_checked (t : Try) : tryL t = checkedL (joinL (rowL t)) ++ [10] := by
  simp [tryL, lineL, rowL, joinL3, joinL4, checkedL]
def sheetLines (x : Sheet) : List (List UInt8) := checkedL (headL x.meter) :: x.tries.map fun t => checkedL (joinL (rowL t))
theorem sheetL_lines (x : Sheet) : sheetL x = unlines (sheetLines x) := by
  rw [sheetL, headLineL, checked_line, sheetLines, unlines, List.map_cons, List.flatten_cons, triesL, List.map_map]
  congr 2
  exact List.map_congr_left fun t _ => tryL_checked t
theorem unlines_append (a b : List (List UInt8)) : unlines (a ++ b) = unlines a ++ unlines b := by simp [unlines]
theorem sheets_lines (xs : List Sheet) : sheetsL xs = unlines (xs.flatMap sheetLines) := by
  induction xs with
  | nil => rfl
  | cons x xs ih =>
    rw [List.flatMap_cons, unlines_append, ← ih, sheetsL, List.map_cons, List.flatten_cons, sheetL_lines]; rfl

theorem wideL_len {n : Int} {k : Nat} {c : UInt8} (h : (Lib.itoa n).length ≤ k) : (wideL n k c).length = k := by simp [wideL]; omega
theorem itoa_len {n : Int} {k : Nat} (h0 : 0 ≤ n) (hk : 1 ≤ k) (h : n.toNat < 10 ^ k) : (Lib.itoa n).length ≤ k := by
  obtain ⟨u, rfl⟩ := Int.eq_ofNat_of_zero_le h0
  rw [itoa_nat]
  exact dec_len k u hk (by simpa using h)
theorem trim_wide {n : Int} {k : Nat} {c : UInt8} (h : (Lib.itoa n).head? ≠ some c) : Lib.trimLeftB (wideL n k c) c = Lib.itoa n := by
  unfold Lib.trimLeftB wideL
  have h1 : ∀ (j : Nat) (l : List UInt8), l.head? ≠ some c → (List.replicate j c ++ l).dropWhile (· == c) = l := by
    intro j
    induction j with
    | zero =>
      intro l hl
      cases l with
      | nil => rfl
      | cons x l =>
        have hx : x ≠ c := by intro e; subst e; exact hl rfl
        simp [List.dropWhile, hx]
    | succ j ih =>
      intro l hl
      rw [List.replicate_succ, List.cons_append, List.dropWhile_cons_of_pos (by simp), ih l hl]
  exact h1 _ _ h
theorem itoa_head {n : Int} (h : 0 ≤ n) {c : UInt8} (hc : isDig c = false) : (Lib.itoa n).head? ≠ some c := by
  intro e
  have := (itoa_digs n h).1 c (List.mem_of_mem_head? e)
  rw [hc] at this; cases this
theorem itoa_head0 {n : Int} (h : 1 ≤ n) : (Lib.itoa n).head? ≠ some 48 := by
  obtain ⟨u, rfl⟩ := Int.eq_ofNat_of_zero_le (show 0 ≤ n by omega)
  rw [itoa_nat]
  exact (dec_facts u u (Nat.le_refl _)).2.2.2 (by omega)
theorem wide_chars {n : Int} (h : 0 ≤ n) (k : Nat) (c : UInt8) : ∀ x ∈ wideL n k c, x = c ∨ isDig x = true := by
  intro x hx
  rcases List.mem_append.1 hx with hx | hx
  · exact .inl (List.mem_replicate.1 hx).2
  · exact .inr ((itoa_digs n h).1 x hx)
theorem meterP_write {m : Int} (h0 : 1 ≤ m) (h1 : m ≤ 999999) : meterP (headL m) = some m := by
  have hl := itoa_len (n := m) (k := 6) (by omega) (by omega) (by omega)
  have hw := wideL_len (c := 48) hl
  unfold meterP headL
  rw [List.length_cons, hw, if_pos rfl, List.drop_succ_cons, List.drop_zero, trim_wide (itoa_head0 h0), figure_itoa m (by omega) (by omega)]
  have e : ((m.toNat : Nat) : Int) = m := by omega
  dsimp only
  rw [e, if_pos rfl]
theorem meterP_read {h : List UInt8} {m : Int} (hm : meterP h = some m) (h35 : h.head? = some 35) : headL m = h := by
  unfold meterP at hm
  split at hm
  · split at hm
    · cases hm
    · split at hm
      · rename_i hw
        simp only [Option.some.injEq] at hm
        subst hm
        cases h with
        | nil => cases h35
        | cons x h =>
          simp only [List.head?_cons, Option.some.injEq] at h35
          subst h35
          rw [headL, hw]; rfl
      · cases hm
  · cases hm
theorem row_len {t : Try} (h : t.okB = true) : (wideL t.flow 6 32).length = 6 ∧ (wideL t.poured 7 32).length = 7 ∧ (wideL t.shown 7 32).length = 7 := by
  have hb := h
  simp only [Try.okB, inB, Bool.and_eq_true, decide_eq_true_eq] at hb
  exact ⟨wideL_len (itoa_len (by omega) (by omega) (by omega)), wideL_len (itoa_len (by omega) (by omega) (by omega)), wideL_len (itoa_len (by omega) (by omega) (by omega))⟩
theorem join3_parts (a b c : List UInt8) (ha : a.length = 6) (hb : b.length = 7) (hc : c.length = 7) :
    (a ++ 32 :: (b ++ 32 :: c)).length = 22 ∧ (a ++ 32 :: (b ++ 32 :: c))[6]? = some 32 ∧ (a ++ 32 :: (b ++ 32 :: c))[14]? = some 32 ∧ (a ++ 32 :: (b ++ 32 :: c)).take 6 = a ∧
    ((a ++ 32 :: (b ++ 32 :: c)).drop 7).take 7 = b ∧ ((a ++ 32 :: (b ++ 32 :: c)).drop 15).take 7 = c := by
  have d7 : (a ++ 32 :: (b ++ 32 :: c)).drop 7 = b ++ 32 :: c := by
    rw [List.drop_append, List.drop_of_length_le (by omega), ha]; rfl
  have d15 : (a ++ 32 :: (b ++ 32 :: c)).drop 15 = c := by
    have : (a ++ 32 :: (b ++ 32 :: c)).drop (7 + 8) = c := by
      rw [← List.drop_drop, d7, List.drop_append, List.drop_of_length_le (by omega), hb]; rfl
    exact this
  refine ⟨by simp [ha, hb, hc], ?_, ?_, by rw [← ha]; exact List.take_left, by rw [d7, ← hb]; exact List.take_left, by rw [d15, ← hc]; exact List.take_length⟩
  · rw [List.getElem?_append_right (by omega), ha]; rfl
  · rw [List.getElem?_append_right (by omega), ha]
    show (32 :: (b ++ 32 :: c))[7 + 1]? = _
    rw [List.getElem?_cons_succ, List.getElem?_append_right (by omega), hb]; rfl
theorem tryP_write {t : Try} (h : t.okB = true) : tryP (joinL (rowL t)) = some t := by
  obtain ⟨l1, l2, l3⟩ := row_len h
  have hb := h
  simp only [Try.okB, inB, Bool.and_eq_true, decide_eq_true_eq] at hb
  obtain ⟨p1, p2, p3, p4, p5, p6⟩ := join3_parts _ _ _ l1 l2 l3
  unfold tryP
  have e : joinL (rowL t) = wideL t.flow 6 32 ++ 32 :: (wideL t.poured 7 32 ++ 32 :: wideL t.shown 7 32) := by rw [rowL, joinL3]
  rw [e, if_pos ⟨p1, p2, p3⟩, p4, p5, p6, trim_wide (itoa_head (by omega) (by decide)), trim_wide (itoa_head (by omega) (by decide)), trim_wide (itoa_head (by omega) (by decide)),
    figure_itoa _ (by omega) (by omega), figure_itoa _ (by omega) (by omega), figure_itoa _ (by omega) (by omega)]
  have e1 : ((t.flow.toNat : Nat) : Int) = t.flow := by omega
  have e2 : ((t.poured.toNat : Nat) : Int) = t.poured := by omega
  have e3 : ((t.shown.toNat : Nat) : Int) = t.shown := by omega
  dsimp only
  rw [e1, e2, e3, if_pos (by rfl)]
theorem list22 (l : List UInt8) (h : l.length = 22) (h6 : l[6]? = some 32) (h14 : l[14]? = some 32) : l = l.take 6 ++ 32 :: ((l.drop 7).take 7 ++ 32 :: (l.drop 15).take 7) := by
  have a : l = l.take 6 ++ l.drop 6 := (List.take_append_drop 6 l).symm
  have b : l.drop 6 = 32 :: l.drop 7 := by
    rw [List.drop_eq_getElem_cons (by omega)]
    rw [List.getElem?_eq_getElem (by omega)] at h6
    injection h6 with h6
    rw [h6]
  have c : l.drop 7 = (l.drop 7).take 7 ++ l.drop 14 := by
    have := (List.take_append_drop 7 (l.drop 7)).symm
    rwa [List.drop_drop] at this
  have d : l.drop 14 = 32 :: l.drop 15 := by
    rw [List.drop_eq_getElem_cons (by omega)]
    rw [List.getElem?_eq_getElem (by omega)] at h14
    injection h14 with h14
    rw [h14]
  have e : (l.drop 15).take 7 = l.drop 15 := List.take_of_length_le (by rw [List.length_drop]; omega)
  rw [e, ← d, ← c, ← b, ← a]
theorem tryP_read {l : List UInt8} {t : Try} (h : tryP l = some t) : joinL (rowL t) = l := by
  unfold tryP at h
  split at h
  · rename_i hc
    obtain ⟨h1, h2, h3⟩ := hc
    split at h
    · cases h
    · split at h
      · cases h
      · split at h
        · cases h
        · split at h
          · rename_i hr
            simp only [Option.some.injEq] at h
            subst h
            rw [hr, joinL3]
            exact (list22 l h1 h2 h3).symm
          · cases h
  · cases h
theorem checked_parts (l : List UInt8) (h : l ≠ []) : 2 < (checkedL l).length ∧ (checkedL l)[(checkedL l).length - 2]? = some 32 ∧ (checkedL l).take ((checkedL l).length - 2) = l ∧ (checkedL l).drop ((checkedL l).length - 1) = [checkD l] ∧ (checkedL l).head? = l.head? := by
  have hl : 0 < l.length := List.length_pos_iff.2 h
  have e : (checkedL l).length = l.length + 2 := by simp [checkedL]
  have e2 : l.length + 2 - 2 = l.length := by omega
  have e1 : l.length + 2 - 1 = l.length + 1 := by omega
  rw [e, e1, e2]
  refine ⟨by omega, ?_, ?_, ?_, ?_⟩
  · rw [checkedL, List.getElem?_append_right (Nat.le_refl _), Nat.sub_self]; rfl
  · exact List.take_left
  · rw [checkedL, List.drop_append, List.drop_of_length_le (by omega)]; simp
  · exact head_app h
theorem checked_of {own : List UInt8} (h1 : 2 < own.length) (h2 : own[own.length - 2]? = some 32) (h3 : [checkD (own.take (own.length - 2))] = own.drop (own.length - 1)) : checkedL (own.take (own.length - 2)) = own := by
  have a : own = own.take (own.length - 2) ++ own.drop (own.length - 2) := (List.take_append_drop _ own).symm
  have b : own.drop (own.length - 2) = 32 :: own.drop (own.length - 1) := by
    rw [List.drop_eq_getElem_cons (by omega)]
    rw [List.getElem?_eq_getElem (by omega)] at h2
    injection h2 with h2
    have e : own.length - 2 + 1 = own.length - 1 := by omega
    rw [h2, e]
  rw [b, ← h3] at a
  exact a.symm
theorem head_facts (m : Int) : headL m ≠ [] ∧ (headL m).head? = some 35 := ⟨by simp [headL], rfl⟩
theorem rowline_head {t : Try} (h : t.okB = true) : joinL (rowL t) ≠ [] ∧ (joinL (rowL t)).head? ≠ some 35 := by
  obtain ⟨l1, l2, l3⟩ := row_len h
  have hb := h
  simp only [Try.okB, inB, Bool.and_eq_true, decide_eq_true_eq] at hb
  have e : joinL (rowL t) = wideL t.flow 6 32 ++ 32 :: (wideL t.poured 7 32 ++ 32 :: wideL t.shown 7 32) := by rw [rowL, joinL3]
  have hne : wideL t.flow 6 32 ≠ [] := by intro h; rw [h] at l1; simp at l1
  rw [e]
  refine ⟨by simp, ?_⟩
  rw [head_app hne]
  intro hh
  rcases wide_chars (n := t.flow) (by omega) 6 32 _ (List.mem_of_mem_head? hh) with h | h
  · cases h
  · revert h; decide
theorem sheetStep_head (acc : List Sheet) {m : Int} (h0 : 1 ≤ m) (h1 : m ≤ 999999) : sheetStep acc (checkedL (headL m)) = some (acc ++ [⟨m, []⟩]) := by
  obtain ⟨hn, hh⟩ := head_facts m
  obtain ⟨p1, p2, p3, p4, p5⟩ := checked_parts (headL m) hn
  unfold sheetStep
  rw [if_pos ⟨p1, p2, by rw [p3, p4]⟩, p5, if_pos hh, p3, meterP_write h0 h1]
theorem sheetStep_try (acc : List Sheet) (m : Int) (ts : List Try) {t : Try} (h : t.okB = true) : sheetStep (acc ++ [⟨m, ts⟩]) (checkedL (joinL (rowL t))) = some (acc ++ [⟨m, ts ++ [t]⟩]) := by
  obtain ⟨hn, hh⟩ := rowline_head h
  obtain ⟨p1, p2, p3, p4, p5⟩ := checked_parts _ hn
  unfold sheetStep
  rw [if_pos ⟨p1, p2, by rw [p3, p4]⟩, p5, if_neg hh, p3, List.getLast?_concat]
  dsimp only
  rw [tryP_write h, List.dropLast_concat]
theorem sheetsA_tries : ∀ (ts' ts : List Try) (acc : List Sheet) (m : Int) (rest : List (List UInt8)), (∀ t ∈ ts', t.okB = true) →
    sheetsA (acc ++ [⟨m, ts⟩]) (ts'.map (fun t => checkedL (joinL (rowL t))) ++ rest) = sheetsA (acc ++ [⟨m, ts ++ ts'⟩]) rest := by
  intro ts'
  induction ts' with
  | nil => intro ts acc m rest _; simp
  | cons t ts' ih =>
    intro ts acc m rest h
    rw [List.map_cons, List.cons_append, sheetsA, sheetStep_try acc m ts (h t (by simp))]
    dsimp only
    rw [ih _ _ _ _ (fun x hx => h x (by simp [hx]))]
    simp
theorem sheetsA_write : ∀ (xs acc : List Sheet), (∀ x ∈ xs, x.okB = true) → sheetsA acc (xs.flatMap sheetLines) = some (acc ++ xs) := by
  intro xs
  induction xs with
  | nil => intro acc _; simp [sheetsA]
  | cons x xs ih =>
    intro acc h
    have hx := h x (by simp)
    have hb := Sheet.bounds hx
    have h1 : 1 ≤ x.meter := by
      simp only [Sheet.okB, inB, Bool.and_eq_true, decide_eq_true_eq] at hx
      omega
    rw [List.flatMap_cons, sheetLines, List.cons_append, sheetsA, sheetStep_head acc h1 hb.2.1]
    dsimp only
    rw [sheetsA_tries x.tries [] acc x.meter _ hb.2.2.2, List.nil_append, ih _ (fun y hy => h y (by simp [hy])), List.append_assoc]; rfl
theorem sheetStep_read {acc acc' : List Sheet} {own : List UInt8} (h : sheetStep acc own = some acc') : sheetsL acc' = sheetsL acc ++ (own ++ [10]) := by
  unfold sheetStep at h
  split at h
  · rename_i hc
    obtain ⟨c1, c2, c3⟩ := hc
    have hchk := checked_of c1 c2 c3
    have hhead : (own.take (own.length - 2)).head? = own.head? := by
      cases own with
      | nil => simp at c1
      | cons x l =>
        have : (x :: l).length - 2 = (l.length - 2) + 1 := by simp at c1 ⊢; omega
        rw [this]; rfl
    split at h
    · rename_i h35
      split at h
      · cases h
      · rename_i m hm
        simp only [Option.some.injEq] at h
        subst h
        have := meterP_read hm (by rw [hhead]; exact h35)
        rw [sheetsL, List.map_append, List.flatten_append, ← sheetsL]
        congr 1
        simp only [List.map_cons, List.map_nil, List.flatten_cons, List.flatten_nil, List.append_nil]
        rw [sheetL_lines, sheetLines]
        simp only [List.map_nil, unlines, List.map_cons, List.flatten_cons, List.flatten_nil, List.append_nil]
        rw [this, hchk]
    · split at h
      · cases h
      · rename_i x hx
        split at h
        · cases h
        · rename_i t ht
          simp only [Option.some.injEq] at h
          subst h
          have hr := tryP_read ht
          have hd : acc = acc.dropLast ++ [x] := by
            obtain ⟨h2, h3⟩ := List.getLast?_eq_some_iff.1 hx
            rw [h3]; simp
          have e1 : sheetsL acc = sheetsL acc.dropLast ++ sheetL x := by
            conv => lhs; rw [hd]
            rw [sheetsL, List.map_append, List.flatten_append, ← sheetsL]; simp
          have e2 : sheetL ⟨x.meter, x.tries ++ [t]⟩ = sheetL x ++ (own ++ [10]) := by
            rw [sheetL, sheetL, triesL, List.map_append, List.flatten_append, ← triesL]
            simp only [List.map_cons, List.map_nil, List.flatten_cons, List.flatten_nil, List.append_nil]
            rw [tryL_checked, hr, hchk, List.append_assoc]
          rw [e1, sheetsL, List.map_append, List.flatten_append, ← sheetsL]
          simp only [List.map_cons, List.map_nil, List.flatten_cons, List.flatten_nil, List.append_nil]
          rw [e2, List.append_assoc]
  · cases h
theorem sheetsA_read : ∀ (ls : List (List UInt8)) (acc xs : List Sheet), sheetsA acc ls = some xs → sheetsL xs = sheetsL acc ++ unlines ls := by
  intro ls
  induction ls with
  | nil => intro acc xs h; simp only [sheetsA, Option.some.injEq] at h; subst h; simp [unlines]
  | cons w ls ih =>
    intro acc xs h
    simp only [sheetsA] at h
    split at h
    · cases h
    · rename_i a ha
      rw [ih _ _ h, sheetStep_read ha, show unlines (w :: ls) = (w ++ [10]) ++ unlines ls by simp [unlines], List.append_assoc]
theorem checkD_dig (l : List UInt8) : isDig (checkD l) = true := by
  have h := digSum_bd l
  have e : checkD l = UInt8.ofNat (48 + (digSum l % 10).toNat) := by simp [checkD]
  rw [e]
  exact (ofNat_dig (digSum l % 10).toNat (by omega)).1
/-- What bytes stand in a line. -/
theorem line_chars {x : Sheet} (h : x.okB = true) : ∀ l ∈ sheetLines x, ∀ c ∈ l, c = 35 ∨ c = 32 ∨ isDig c = true := by
  have hb := Sheet.bounds h
  intro l hl
  rw [sheetLines] at hl
  rcases List.mem_cons.1 hl with rfl | hl
  · intro c hc
    rw [checkedL] at hc
    rcases List.mem_append.1 hc with hc | hc
    · rw [headL] at hc
      rcases List.mem_cons.1 hc with rfl | hc
      · exact .inl rfl
      · rcases wide_chars hb.1 6 48 c hc with rfl | h
        · exact .inr (.inr (by decide))
        · exact .inr (.inr h)
    · simp only [List.mem_cons, List.not_mem_nil, or_false] at hc
      rcases hc with rfl | rfl
      · exact .inr (.inl rfl)
      · exact .inr (.inr (checkD_dig _))
  · obtain ⟨t, ht, rfl⟩ := List.mem_map.1 hl
    have htb := Try.bounds (hb.2.2.2 t ht)
    intro c hc
    rw [checkedL, rowL, joinL3] at hc
    simp only [List.mem_append, List.mem_cons, List.not_mem_nil, or_false] at hc
    rcases hc with (hc | rfl | hc | rfl | hc) | rfl | rfl
    · rcases wide_chars htb.1 6 32 c hc with rfl | h
      · exact .inr (.inl rfl)
      · exact .inr (.inr h)
    · exact .inr (.inl rfl)
    · rcases wide_chars htb.2.2.1 7 32 c hc with rfl | h
      · exact .inr (.inl rfl)
      · exact .inr (.inr h)
    · exact .inr (.inl rfl)
    · rcases wide_chars htb.2.2.2.2.1 7 32 c hc with rfl | h
      · exact .inr (.inl rfl)
      · exact .inr (.inr h)
    · exact .inr (.inl rfl)
    · exact .inr (.inr (checkD_dig _))
theorem readSh_write (xs : List Sheet) (h : sheetsErr xs = 0) : readSh (sheetsL xs) = some xs := by
  obtain ⟨h1, h2, h3⟩ := err_parts h
  unfold readSh
  rw [sheets_lines, linesP_write]
  · dsimp only
    rw [sheetsA_write xs [] h2]
    dsimp only
    rw [List.nil_append, if_pos h]
  · intro p hp hc
    obtain ⟨x, hx, hp⟩ := List.mem_flatMap.1 hp
    rcases line_chars (h2 x hx) p hp 10 hc with h | h | h
    · cases h
    · cases h
    · revert h; decide
theorem readSh_read (t : List UInt8) (xs : List Sheet) (h : readSh t = some xs) : sheetsErr xs = 0 ∧ sheetsL xs = t := by
  unfold readSh at h
  split at h
  · cases h
  · rename_i ls hls
    split at h
    · cases h
    · rename_i ys hys
      split at h
      · rename_i he
        simp only [Option.some.injEq] at h
        subst h
        refine ⟨he, ?_⟩
        rw [sheetsA_read _ _ _ hys]
        exact (linesP_read hls).1
      · cases h
end Go.Proofs.YtjmhpfedglindaaGreatDoor
