/- Part GEx of the proof of GensPins. -/
import Derived.Test.YtkhhpimjofkbiaaGreatDoorGPrg
import Derived.Test.YtkhhpimjofkbiaaGreatDoorFMono
set_option linter.unusedVariables false
set_option linter.unusedSimpArgs false
set_option linter.unusedVariables false
namespace Go.Adm
open Go

/-- A run of a piece of code, with fuel enough. -/
def Ex (G : Prg) (pr : Prim) (c : Code) (st : St) (o : Out) : Prop := ∃ n, exec G pr n c st = some o
def ExO (G : Prg) (pr : Prim) (all : Array Oper) (l : List Oper) (st st' : St) : Prop := ∃ n, execOps G pr n all l st = some st'

section
variable {G : Prg} {pr : Prim}
theorem Ex.seq {a b : Code} {st st' : St} {o : Out} (h1 : Ex G pr a st (.normal, st')) (h2 : Ex G pr b st' o) : Ex G pr (.seq a b) st o := by
  obtain ⟨n, h1⟩ := h1
  obtain ⟨m, h2⟩ := h2
  refine ⟨max n m + 1, ?_⟩
  simp only [exec, exec_le (Nat.le_max_left n m) h1, exec_le (Nat.le_max_right n m) h2]
theorem Ex.seqX {a b : Code} {st st' : St} {x : X} (h1 : Ex G pr a st (x, st')) (hx : x ≠ .normal) : Ex G pr (.seq a b) st (x, st') := by
  obtain ⟨n, h1⟩ := h1
  refine ⟨n + 1, ?_⟩
  simp only [exec, h1]
  cases x <;> first | exact absurd rfl hx | rfl
theorem Ex.condT {c : Operand} {a b : Code} {st : St} {o : Out} (h : eval st.1 c = .b true) (h1 : Ex G pr a st o) : Ex G pr (.cond c a b) st o := by
  obtain ⟨n, h1⟩ := h1
  exact ⟨n + 1, by simp only [exec, h, h1]⟩
theorem Ex.condF {c : Operand} {a b : Code} {st : St} {o : Out} (h : eval st.1 c = .b false) (h1 : Ex G pr b st o) : Ex G pr (.cond c a b) st o := by
  obtain ⟨n, h1⟩ := h1
  exact ⟨n + 1, by simp only [exec, h, h1]⟩
theorem Ex.block {id : Nat} {a : Code} {st st' : St} (h1 : Ex G pr a st (.normal, st')) : Ex G pr (.block id a) st (.normal, st') := by
  obtain ⟨n, h1⟩ := h1
  exact ⟨n + 1, by simp only [exec, h1]⟩
theorem Ex.blockX {id : Nat} {a : Code} {st st' : St} (h1 : Ex G pr a st (.exit id, st')) : Ex G pr (.block id a) st (.normal, st') := by
  obtain ⟨n, h1⟩ := h1
  exact ⟨n + 1, by simp only [exec, h1, if_true]⟩
theorem Ex.loop {a : Code} {st st' : St} {o : Out} (h1 : Ex G pr a st (.normal, st')) (h2 : Ex G pr (.loop a) st' o) : Ex G pr (.loop a) st o := by
  obtain ⟨n, h1⟩ := h1
  obtain ⟨m, h2⟩ := h2
  refine ⟨max n m + 1, ?_⟩
  simp only [exec, exec_le (Nat.le_max_left n m) h1]
  exact exec_le (Nat.le_max_right n m) h2
theorem Ex.loopX {a : Code} {st st' : St} {x : X} (h1 : Ex G pr a st (x, st')) (hx : x ≠ .normal) : Ex G pr (.loop a) st (x, st') := by
  obtain ⟨n, h1⟩ := h1
  refine ⟨n + 1, ?_⟩
  simp only [exec, h1]
  cases x <;> first | exact absurd rfl hx | rfl
theorem Ex.skip (st : St) : Ex G pr .skip st (.normal, st) := ⟨1, by simp only [exec]⟩
theorem Ex.exit (i : Nat) (st : St) : Ex G pr (.exit i) st (.exit i, st) := ⟨1, by simp only [exec]⟩
theorem Ex.ret (st : St) : Ex G pr .ret st (.ret, st) := ⟨1, by simp only [exec]⟩
theorem Ex.region {id : Nat} {ops : Array Oper} {st st' : St} (h : ExO G pr ops ops.toList st st') : Ex G pr (.region id ops false) st (.normal, st') := by
  obtain ⟨n, h⟩ := h
  exact ⟨n + 1, by simp only [exec, Bool.false_eq_true, if_false, h]⟩
theorem ExO.app {all : Array Oper} : ∀ {l1 l2 : List Oper} {st st' st'' : St}, ExO G pr all l1 st st' → ExO G pr all l2 st' st'' → ExO G pr all (l1 ++ l2) st st''
  | [], l2, st, st', st'', ⟨n, h1⟩, h2 => by
    cases n with
    | zero => simp [execOps] at h1
    | succ n =>
      simp only [execOps, Option.some.injEq] at h1
      subst h1
      exact h2
  | o :: r, l2, st, st', st'', ⟨n, h1⟩, h2 => by
    cases n with
    | zero => simp [execOps] at h1
    | succ n =>
      simp only [execOps] at h1
      split at h1
      · cases h1
      · rename_i hw
        obtain ⟨m, h3⟩ := ExO.app (l1 := r) (l2 := l2) ⟨n, h1⟩ h2
        exact ⟨m + 1, by simp only [List.cons_append, execOps, hw, h3]⟩
      · rename_i hw
        split at h1
        · rename_i v M D hs
          obtain ⟨m, h3⟩ := ExO.app (l1 := r) (l2 := l2) ⟨n, h1⟩ h2
          exact ⟨max n m + 1, by simp only [List.cons_append, execOps, hw, step_le (Nat.le_max_left n m) hs]; exact execOps_le (Nat.le_max_right n m) h3⟩
        · cases h1
theorem ExO.nil {all : Array Oper} (st : St) : ExO G pr all [] st st := ⟨1, by simp only [execOps]⟩
/-- One operation that is wanted. -/
theorem ExO.one {all : Array Oper} {o : Oper} {st : St} {n : Nat} {v : AV} {M : List AObj} {D : List Nat} (hw : wanted o all st.1 = some true) (h : step G pr n o st = some (v, M, D)) : ExO G pr all [o] st (put st.1 o.dst v, M, D ++ st.2.2) := by
  refine ⟨n + 2, ?_⟩
  simp only [execOps, hw, step_le (Nat.le_succ n) h]
theorem ExO.one' {all : Array Oper} {o : Oper} {env env' : List AV} {M M' : List AObj} {D D' : List Nat} {n : Nat} {v : AV} (hw : wanted o all env = some true) (h : step G pr n o (env, M, D) = some (v, M', D')) (hp : put env o.dst v = env') : ExO G pr all [o] (env, M, D) (env', M', D' ++ D) := by
  subst hp
  exact ExO.one hw h
end
end Go.Adm
