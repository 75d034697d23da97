/- Part FHeap of the proof of GensPins. -/
import Derived.Test.YtkhhpimjofkbiaaGreatDoorFast
set_option linter.unusedVariables false
set_option linter.unusedSimpArgs false
set_option linter.unusedVariables false
set_option linter.unusedSimpArgs false
namespace Go.Adm
open Go

theorem blt_iff {n m : Nat} : Nat.blt n m = true ↔ n < m := by rw [Nat.blt_eq]
theorem beq_iff {n m : Nat} : Nat.beq n m = true ↔ n = m := by rw [Nat.beq_eq]
theorem cond_none {α : Type} {b : Bool} {x : Option α} {z : α} (h : (bif b then x else none) = some z) : b = true ∧ x = some z := by cases b <;> simp_all

def FOK : FObj → Prop
  | .flat _ => True
  | .sec e n _ _ t => 0 < e.n ∧ n ≤ 2 ^ sdep ∧ ∀ i, i < n → (t.get [] (pth sdep i)).length = e.n

noncomputable def H.fat (h : H) (o : Nat) : FObj := h.t.get fdead (pth hdep o)

structure WF (h : H) : Prop where
  n : h.n ≤ 2 ^ hdep
  ok : ∀ o, o < h.n → FOK (h.fat o)

noncomputable def absH (h : H) : List AObj := (List.range h.n).map fun o => (h.fat o).view

theorem absH_len (h : H) : (absH h).length = h.n := by simp [absH]
theorem absH_get (h : H) (o : Nat) : (absH h)[o]? = h.get o := by
  unfold absH H.get H.fget
  by_cases ho : o < h.n
  · have : Nat.blt o h.n = true := blt_iff.2 ho
    simp [ho, this, H.fat]
  · have : Nat.blt o h.n = false := by rw [← Bool.not_eq_true, blt_iff]; exact ho
    simp [ho, this]
theorem fget_some {h : H} {o : Nat} {x : FObj} (e : h.fget o = some x) : o < h.n ∧ h.fat o = x := by
  unfold H.fget at e
  obtain ⟨h1, h2⟩ := cond_none e
  exact ⟨blt_iff.1 h1, by simpa [H.fat] using h2⟩
theorem get_some {h : H} {o : Nat} {x : AObj} (e : h.get o = some x) : o < h.n ∧ (h.fat o).view = x := by
  unfold H.get at e
  split at e
  · rename_i y hy
    obtain ⟨h1, h2⟩ := fget_some hy
    simp only [Option.some.injEq] at e
    exact ⟨h1, by rw [h2, e]⟩
  · cases e
theorem get_lt {h : H} {o : Nat} (ho : o < h.n) : h.get o = some (h.fat o).view := by
  unfold H.get H.fget
  rw [blt_iff.2 ho]
  rfl

theorem WF.fset {h : H} (hw : WF h) {o : Nat} {x : FObj} (ho : o < h.n) (hx : FOK x) : WF (h.fset o x) ∧ absH (h.fset o x) = (absH h).set o x.view := by
  have hfat : ∀ i, i < h.n → (h.fset o x).fat i = if i = o then x else h.fat i := by
    intro i hi
    show T.get fdead (pth hdep i) (T.set x (pth hdep o) h.t) = _
    split
    · rename_i e; subst e; exact T.at_same _ _ _ _ _
    · rename_i e
      exact T.at_other _ _ _ (Nat.lt_of_lt_of_le hi hw.n) (Nat.lt_of_lt_of_le ho hw.n) e
  refine ⟨⟨hw.n, fun i hi => ?_⟩, ?_⟩
  · have hi' : i < h.n := hi
    rw [hfat i hi']
    split
    · exact hx
    · exact hw.ok i hi'
  · apply List.ext_getElem
    · simp only [absH_len, List.length_set]; rfl
    · intro i h1 h2
      have hi : i < h.n := by rw [absH_len] at h1; exact h1
      rw [List.getElem_set]
      simp only [absH, List.getElem_map, List.getElem_range]
      rw [hfat i hi]
      by_cases e : i = o
      · subst e; simp
      · rw [if_neg e, if_neg (fun e2 => e e2.symm)]

theorem WF.set {h : H} (hw : WF h) {o : Nat} {x : AObj} (ho : o < h.n) : WF (h.set o x) ∧ absH (h.set o x) = (absH h).set o x :=
  hw.fset ho (x := .flat x) trivial

theorem WF.fpush {h : H} (hw : WF h) {x : FObj} (hr : h.room = true) (hx : FOK x) : WF (h.fpush x) ∧ absH (h.fpush x) = absH h ++ [x.view] := by
  have hn : h.n < 2 ^ hdep := blt_iff.1 hr
  have hfat : ∀ i, i < h.n + 1 → (h.fpush x).fat i = if i = h.n then x else h.fat i := by
    intro i hi
    show T.get fdead (pth hdep i) (T.set x (pth hdep h.n) h.t) = _
    split
    · rename_i e; subst e; exact T.at_same _ _ _ _ _
    · rename_i e
      exact T.at_other _ _ _ (by omega) hn e
  refine ⟨⟨hn, fun i hi => ?_⟩, ?_⟩
  · have hi' : i < h.n + 1 := hi
    rw [hfat i hi']
    split
    · exact hx
    · exact hw.ok i (by omega)
  · apply List.ext_getElem
    · simp only [absH_len, List.length_append, List.length_singleton]; rfl
    · intro i h1 h2
      have hi : i < h.n + 1 := by rw [absH_len] at h1; exact h1
      have : (absH (h.fpush x))[i] = ((h.fpush x).fat i).view := by simp only [absH, List.getElem_map, List.getElem_range]
      rw [this, hfat i hi]
      by_cases e : i = h.n
      · subst e
        rw [if_pos rfl, List.getElem_append_right (by rw [absH_len]; exact Nat.le_refl _)]
        simp [absH_len]
      · rw [if_neg e, List.getElem_append_left (by rw [absH_len]; omega)]
        simp only [absH, List.getElem_map, List.getElem_range]

theorem WF.push {h : H} (hw : WF h) {x : AObj} (hr : h.room = true) : WF (h.push x) ∧ absH (h.push x) = absH h ++ [x] :=
  hw.fpush hr (x := .flat x) trivial

theorem WF.empty : WF H.empty ∧ absH H.empty = [] := ⟨⟨Nat.zero_le _, fun o ho => absurd ho (Nat.not_lt_zero _)⟩, rfl⟩

/-! ### Sectors -/
theorem secCells_len {w n : Nat} {t : T (List AV)} (h : ∀ i, i < n → (t.get [] (pth sdep i)).length = w) : (secCells n t).length = n * w := by
  induction n with
  | zero => simp [secCells]
  | succ n ih =>
    have := ih fun i hi => h i (by omega)
    unfold secCells at this ⊢
    rw [List.range_succ, List.flatMap_append, List.length_append, this]
    simp [h n (by omega), Nat.succ_mul]

theorem secCells_succ (n : Nat) (t : T (List AV)) : secCells (n + 1) t = secCells n t ++ t.get [] (pth sdep n) := by
  unfold secCells
  rw [List.range_succ, List.flatMap_append]
  simp

theorem secCells_get {w n : Nat} {t : T (List AV)} (h : ∀ i, i < n → (t.get [] (pth sdep i)).length = w) (i : Nat) (hi : i < n) :
    ((secCells n t).drop (i * w)).take w = t.get [] (pth sdep i) := by
  induction n with
  | zero => omega
  | succ n ih =>
    rw [secCells_succ]
    have hl := secCells_len (w := w) (n := n) (t := t) fun i hi => h i (by omega)
    by_cases e : i = n
    · subst e
      rw [List.drop_append_of_le_length (by omega), List.drop_of_length_le (by omega), List.nil_append]
      exact List.take_of_length_le (by rw [h i hi]; exact Nat.le_refl _)
    · have hi' : i < n := by omega
      have : (i + 1) * w ≤ n * w := Nat.mul_le_mul_right w (by omega)
      rw [Nat.add_mul, Nat.one_mul] at this
      rw [List.drop_append_of_le_length (by omega), List.take_append_of_le_length (by rw [List.length_drop]; omega)]
      exact ih (fun i hi => h i (by omega)) hi'

theorem secCells_set {w n : Nat} {t : T (List AV)} (hn : n ≤ 2 ^ sdep) (h : ∀ i, i < n → (t.get [] (pth sdep i)).length = w) (i : Nat) (hi : i < n) (vs : List AV) (hv : vs.length = w) :
    secCells n (t.set vs (pth sdep i)) = (secCells n t).take (i * w) ++ vs ++ (secCells n t).drop (i * w + w) := by
  induction n with
  | zero => omega
  | succ n ih =>
    rw [secCells_succ, secCells_succ]
    have hl := secCells_len (w := w) (n := n) (t := t) fun i hi => h i (by omega)
    by_cases e : i = n
    · subst e
      have : secCells i (t.set vs (pth sdep i)) = secCells i t := by
        unfold secCells
        rw [List.flatMap_def, List.flatMap_def]
        congr 1
        apply List.map_congr_left
        intro j hj
        have hj : j < i := List.mem_range.1 hj
        exact T.at_other _ _ _ (by omega) (by omega) (by omega)
      rw [this, T.at_same, List.take_append_of_le_length (by omega), List.take_of_length_le (by omega)]
      rw [List.drop_of_length_le (by simp [hl, h i hi])]
      simp
    · have hi' : i < n := by omega
      have hle : (i + 1) * w ≤ n * w := Nat.mul_le_mul_right w (by omega)
      rw [Nat.add_mul, Nat.one_mul] at hle
      rw [ih (by omega) (fun i hi => h i (by omega)) hi', T.at_other _ _ _ (by omega) (by omega) (fun e2 => e e2.symm)]
      rw [List.take_append_of_le_length (by omega), List.drop_append_of_le_length (by omega)]
      simp

theorem flatMap_rep {n : Nat} {z : List AV} : (List.range n).flatMap (fun _ => z) = repl n z := by
  have : ∀ (k : Nat) (l : List Nat), l.length = k → l.flatMap (fun _ => z) = repl k z := by
    intro k
    induction k with
    | zero => intro l h; have := List.length_eq_zero_iff.1 h; subst this; rfl
    | succ k ih =>
      intro l h
      cases l with
      | nil => simp at h
      | cons x l =>
        simp only [List.flatMap_cons]
        rw [ih l (by simpa using h)]
        rfl
  exact this n _ (by simp)

/-! ### Environments -/
noncomputable def toEnv (nt dep : Nat) (t : T AV) : List AV := (List.range nt).map fun i => t.get .un (pth dep i)
theorem toEnv_len (nt dep : Nat) (t : T AV) : (toEnv nt dep t).length = nt := by simp [toEnv]
theorem toEnv_get (nt dep : Nat) (t : T AV) (i : Nat) : (toEnv nt dep t).getD i .un = (bif Nat.blt i nt then t.get .un (pth dep i) else .un) := by
  by_cases hi : i < nt
  · rw [blt_iff.2 hi]
    simp [toEnv, List.getD_eq_getElem?_getD, hi]
  · have : Nat.blt i nt = false := by rw [← Bool.not_eq_true, blt_iff]; exact hi
    rw [this]
    simp [toEnv, List.getD_eq_getElem?_getD, hi]
theorem toEnv_set {nt dep : Nat} (hd : nt ≤ 2 ^ dep) (t : T AV) (i : Nat) (v : AV) : (toEnv nt dep t).set i v = toEnv nt dep (bif Nat.blt i nt then t.set v (pth dep i) else t) := by
  by_cases hi : i < nt
  · rw [blt_iff.2 hi]
    apply List.ext_getElem
    · simp [toEnv]
    · intro j h1 h2
      have hj : j < nt := by simpa [toEnv] using h2
      rw [List.getElem_set]
      simp only [toEnv, List.getElem_map, List.getElem_range]
      by_cases e : i = j
      · subst e; rw [if_pos rfl]; exact (T.at_same _ _ _ _ _).symm
      · rw [if_neg e]; exact (T.at_other _ _ _ (by omega) (by omega) (fun e2 => e e2.symm)).symm
  · have : Nat.blt i nt = false := by rw [← Bool.not_eq_true, blt_iff]; exact hi
    rw [this]
    rw [List.set_eq_of_length_le (by rw [toEnv_len]; omega)]
    rfl
theorem fev_eq (nt dep : Nat) (t : T AV) : fev nt dep t = eval (toEnv nt dep t) := by
  funext x
  cases x with
  | tmp i => exact (toEnv_get nt dep t i).symm
  | const v => rfl
  | global g => rfl
  | func f => rfl
theorem putF_eq {nt dep : Nat} (hd : nt ≤ 2 ^ dep) (t : T AV) (d : Option Tmp) (v : AV) : toEnv nt dep (putF nt dep t d v) = put (toEnv nt dep t) d v := by
  cases d with
  | none => rfl
  | some i => exact (toEnv_set hd t i v).symm
theorem depOf_ok (n : Nat) : n ≤ 2 ^ depOf n := Nat.le_of_lt Nat.lt_log2_self

theorem argsF_eq {dep nt : Nat} (hd : nt ≤ 2 ^ dep) : ∀ (l : List AV) (i : Nat) (t : T AV), i + l.length ≤ nt → toEnv nt dep (argsF dep l i t) = (toEnv nt dep t).take i ++ l ++ (toEnv nt dep t).drop (i + l.length) := by
  intro l
  induction l with
  | nil => intro i t h; simp [argsF]
  | cons x l ih =>
    intro i t h
    have h' : i + (l.length + 1) ≤ nt := by simpa using h
    show toEnv nt dep (argsF dep l (i + 1) (t.set x (pth dep i))) = _
    rw [ih _ _ (by omega)]
    have := toEnv_set (nt := nt) hd t i x
    rw [blt_iff.2 (by omega)] at this
    simp only [cond_true] at this
    rw [← this]
    have hl := toEnv_len nt dep t
    rw [List.take_set, List.drop_set_of_lt (by omega), List.take_succ_eq_append_getElem (by omega), List.set_append_right _ _ (by simp; omega)]
    simp [show min i (toEnv nt dep t).length = i by omega, show i + 1 + l.length = i + (l.length + 1) by omega]
theorem args_eq {dep nt : Nat} (hd : nt ≤ 2 ^ dep) (l : List AV) (h : l.length ≤ nt) : toEnv nt dep (argsF dep l 0 (.lf .un)) = l ++ List.replicate (nt - l.length) .un := by
  rw [argsF_eq hd l 0 _ (by omega)]
  have : toEnv nt dep (.lf .un) = List.replicate nt .un := by
    apply List.ext_getElem
    · simp [toEnv]
    · intro i h1 h2; simp [toEnv, T.get_lf]
  rw [this]
  simp
end Go.Adm
