/- Part FMono of the proof of GensPins. -/
import Derived.Test.YtkhhpimjofkbiaaGreatDoorFAct
set_option linter.unusedVariables false
set_option linter.unusedSimpArgs false
set_option linter.unusedVariables false
set_option linter.unusedSimpArgs false
namespace Go.Adm
open Go

def SLe (s s' : Stp) : Prop := ∀ o env M r, s o env M = some r → s' o env M = some r

theorem traceL_mono {s s' : Stp} (h : SLe s s') (all : Array Oper) : ∀ (l : List Oper) (env : List AV) (M : List AObj) (rs : List Acted), traceL s all l env M = some rs → traceL s' all l env M = some rs := by
  intro l
  induction l with
  | nil => intro env M rs e; exact e
  | cons o l ih =>
    intro env M rs e
    simp only [traceL] at e ⊢
    split at e
    · cases e
    · rename_i hw
      try rw [hw]
      split at e
      · rename_i q hq
        rw [ih _ _ _ hq]
        exact e
      · cases e
    · rename_i hw
      try rw [hw]
      split at e
      · rename_i v M' D hs
        rw [h _ _ _ _ hs]
        simp only
        split at e
        · rename_i q hq
          rw [ih _ _ _ hq]
          exact e
        · cases e
      · cases e

theorem chk1_mono {s s' : Stp} (h : SLe s s') {all : Array Oper} {tab cs W : List Nat} {M : List AObj} {rs : List Acted} {i : Nat} {o : Oper} {r : Acted} {env : List AV}
    (e : chk1 s all tab cs W M rs i o r env = true) : chk1 s' all tab cs W M rs i o r env = true := by
  unfold chk1 at e ⊢
  rw [Bool.and_eq_true] at e ⊢
  refine ⟨e.1, ?_⟩
  have e2 := e.2
  split at e2
  · rename_i hc
    rw [if_pos hc]
    exact e2
  · rename_i hc
    rw [if_neg hc]
    rw [List.all_eq_true] at e2 ⊢
    intro p hp
    have := e2 p hp
    rw [Bool.or_eq_true] at this ⊢
    refine this.imp id fun h3 => ?_
    split at h3
    · rfl
    · split at h3
      · rename_i v M' D hs
        rw [h _ _ _ _ hs]
        exact h3
      · cases h3

theorem chkL_mono {s s' : Stp} (h : SLe s s') {all : Array Oper} {tab cs : List Nat} {M : List AObj} {rs : List Acted} : ∀ (l : List Oper) (i : Nat) (l' : List Acted) (env : List AV),
    chkL s all tab cs M rs i l l' env = true → chkL s' all tab cs M rs i l l' env = true := by
  intro l
  induction l with
  | nil => intro i l' env e; simp [chkL]
  | cons o l ih =>
    intro i l' env e
    cases l' with
    | nil => simp [chkL]
    | cons r l' =>
      simp only [chkL, Bool.and_eq_true] at e ⊢
      exact ⟨chk1_mono h e.1, ih _ _ _ e.2⟩

theorem drawn_mono {s s' : Stp} (h : SLe s s') {ops : Array Oper} {st st' : St} (e : drawn s ops st = some st') : drawn s' ops st = some st' := by
  unfold drawn at e ⊢
  split at e
  · cases e
  · rename_i rs hrs
    rw [traceL_mono h _ _ _ _ _ hrs]
    simp only
    split at e
    · rename_i hc
      rw [if_pos (chkL_mono h _ _ _ _ hc)]
      exact e
    · cases e

def MonoF (G : Prg) (pr : Prim) (n m : Nat) : Prop := (∀ c st r, exec G pr n c st = some r → exec G pr m c st = some r) ∧ (∀ all l st r, execOps G pr n all l st = some r → execOps G pr m all l st = some r) ∧
    (∀ o st r, step G pr n o st = some r → step G pr m o st = some r) ∧ (∀ f args M r, callF G pr n f args M = some r → callF G pr m f args M = some r) ∧ (∀ f args M r, body G pr n f args M = some r → body G pr m f args M = some r)

theorem mono_zero (G : Prg) (pr : Prim) (m : Nat) : MonoF G pr 0 m :=
  ⟨fun _ _ _ h => by simp [exec] at h, fun _ _ _ _ h => by simp [execOps] at h, fun _ _ _ h => by simp [step] at h, fun _ _ _ _ h => by simp [callF] at h, fun _ _ _ _ h => by simp [body] at h⟩

theorem mono_succ {G : Prg} {pr : Prim} {n m : Nat} (H : MonoF G pr n m) : MonoF G pr (n + 1) (m + 1) := by
  obtain ⟨i1, i2, i3, i4, i5⟩ := H
  refine ⟨?_, ?_, ?_, ?_, ?_⟩
  · intro c st r h
    cases c with
    | region id ops draw =>
      simp only [exec] at h ⊢
      cases draw
      · simp only [Bool.false_eq_true, if_false] at h ⊢
        split at h
        · rename_i st' hs
          rw [i2 _ _ _ _ hs]
          exact h
        · cases h
      · simp only [if_true] at h ⊢
        split at h
        · rename_i st' hs
          rw [drawn_mono (s' := fun o env M => step G pr m o (env, M, [])) (fun o env M r e => i3 _ _ _ e) hs]
          exact h
        · cases h
    | seq a b =>
      simp only [exec] at h ⊢
      cases ha : exec G pr n a st with
      | none => rw [ha] at h; cases h
      | some q =>
        rw [i1 _ _ _ ha]
        rw [ha] at h
        obtain ⟨x, st'⟩ := q
        cases x <;> simp only at h ⊢
        · exact i1 _ _ _ h
        · exact h
        · exact h
    | cond c a b =>
      simp only [exec] at h ⊢
      split at h
      · rename_i e; exact i1 _ _ _ h
      · rename_i e; exact i1 _ _ _ h
      · cases h
    | block id a =>
      simp only [exec] at h ⊢
      cases ha : exec G pr n a st with
      | none => rw [ha] at h; cases h
      | some q =>
        rw [i1 _ _ _ ha]
        rw [ha] at h
        exact h
    | loop a =>
      simp only [exec] at h ⊢
      cases ha : exec G pr n a st with
      | none => rw [ha] at h; cases h
      | some q =>
        rw [i1 _ _ _ ha]
        rw [ha] at h
        obtain ⟨x, st'⟩ := q
        cases x <;> simp only at h ⊢
        · exact i1 _ _ _ h
        · exact h
        · exact h
    | _ => exact h
  · intro all l st r h
    cases l with
    | nil => exact h
    | cons o l =>
      simp only [execOps] at h ⊢
      split at h
      · cases h
      · exact i2 _ _ _ _ h
      · split at h
        · rename_i v M D hs
          rw [i3 _ _ _ hs]
          exact i2 _ _ _ _ h
        · cases h
  · intro o st r h
    simp only [step] at h ⊢
    split at h
    · exact h
    · split at h
      · exact h
      · split at h
        · split at h
          · exact i4 _ _ _ _ h
          · cases h
        · cases h
  · intro f args M r h
    simp only [callF] at h ⊢
    split at h
    · cases h
    · split at h
      · rename_i r' M2 D2 hb
        rw [i5 _ _ _ _ hb]
        exact h
      · cases h
  · intro f args M r h
    simp only [body] at h ⊢
    split at h
    · exact h
    · split at h
      · cases h
      · rename_i fd hfd
        cases he : exec G pr n fd.body (args ++ List.replicate (fd.ntmps - args.length) .un, M, []) with
        | none => rw [he] at h; cases h
        | some q =>
          rw [i1 _ _ _ he]
          rw [he] at h
          exact h


theorem mono_le (G : Prg) (pr : Prim) : ∀ n m, n ≤ m → MonoF G pr n m
  | 0, m, _ => mono_zero G pr m
  | n + 1, 0, h => absurd h (by omega)
  | n + 1, m + 1, h => mono_succ (mono_le G pr n m (by omega))

section
variable {G : Prg} {pr : Prim} {n m : Nat}
theorem exec_le (hnm : n ≤ m) {c : Code} {st : St} {r : Out} (h : exec G pr n c st = some r) : exec G pr m c st = some r := (mono_le G pr n m hnm).1 _ _ _ h
theorem execOps_le (hnm : n ≤ m) {all : Array Oper} {l : List Oper} {st r : St} (h : execOps G pr n all l st = some r) : execOps G pr m all l st = some r := (mono_le G pr n m hnm).2.1 _ _ _ _ h
theorem step_le (hnm : n ≤ m) {o : Oper} {st : St} {r : Acted} (h : step G pr n o st = some r) : step G pr m o st = some r := (mono_le G pr n m hnm).2.2.1 _ _ _ h
theorem callF_le (hnm : n ≤ m) {f : FuncId} {args : List AV} {M : List AObj} {r : Acted} (h : callF G pr n f args M = some r) : callF G pr m f args M = some r := (mono_le G pr n m hnm).2.2.2.1 _ _ _ _ h
theorem body_le (hnm : n ≤ m) {f : FuncId} {args : List AV} {M : List AObj} {r : Acted} (h : body G pr n f args M = some r) : body G pr m f args M = some r := (mono_le G pr n m hnm).2.2.2.2 _ _ _ _ h
end
end Go.Adm
