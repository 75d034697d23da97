/- Part GExt of the proof of GensPins. -/
import Derived.Test.YtkhhpimjofkbiaaGreatDoorAdmG
import Derived.Test.YtkhhpimjofkbiaaGreatDoorFDrawn
set_option linter.unusedVariables false
set_option linter.unusedSimpArgs false
set_option linter.unusedVariables false
set_option linter.unusedSimpArgs false
namespace Go.Adm
open Go Go.Proofs

/-- abi.NoEscape. -/
def extSame : List AV → Option AV
  | [x] => some x
  | _ => none

/-- The first place of a byte: from a number on. -/
noncomputable def findB (l : List UInt8) (c : Nat) : Nat → Option Nat :=
  List.rec (fun _ => none) (fun b _ ih i => bif Nat.beq b.toNat c then some i else ih (Nat.succ i)) l

/-- bytealg.IndexByteString. -/
noncomputable def extIndexByte : List AV → Option AV
  | [.s x, .i .u8 (.ofNat c)] => bif Nat.blt c 256 then some (.i .i64 (match findB x c 0 with | some i => Int.ofNat i | none => -1)) else none
  | _ => none

theorem findB_eq (c : Nat) (hc : c < 256) : ∀ (l : List UInt8) (pre : List UInt8), (∀ b ∈ pre, b.toNat ≠ c) →
    findB l c pre.length = (List.range (pre ++ l).length).find? (fun i => (⟨(pre ++ l).toArray⟩ : ByteArray)[i]! == UInt8.ofNat c) := by
  intro l
  have hget : ∀ (m : List UInt8) (i : Nat), i < m.length → (⟨m.toArray⟩ : ByteArray)[i]! = m.getD i 0 := by
    intro m i hi
    have h1 : i < (⟨m.toArray⟩ : ByteArray).size := by simpa [ByteArray.size] using hi
    rw [getElem!_pos _ i h1]
    show m.toArray[i] = _
    simp [List.getD_eq_getElem?_getD, hi]
  have hne : ∀ b : UInt8, b.toNat ≠ c → (b == UInt8.ofNat c) = false := fun b hb => by
    rw [beq_eq_false_iff_ne]
    intro e
    subst e
    simp at hb
    omega
  induction l with
  | nil =>
    intro pre hpre
    symm
    show List.find? _ _ = none
    rw [List.find?_eq_none]
    intro i hi
    have hi : i < (pre ++ []).length := List.mem_range.1 hi
    rw [hget _ i hi]
    have hi' : i < pre.length := by simpa using hi
    have : (pre ++ []).getD i 0 = pre[i] := by simp [List.getD_eq_getElem?_getD, hi']
    rw [this, hne _ (hpre _ (List.getElem_mem hi'))]
    simp
  | cons b l ih =>
    intro pre hpre
    show (bif Nat.beq b.toNat c then some pre.length else findB l c (Nat.succ pre.length)) = _
    by_cases hb : b.toNat = c
    · rw [beq_iff.2 hb]
      symm
      rw [cond_true, List.find?_range_eq_some]
      have hlen : pre.length < (pre ++ b :: l).length := by simp
      refine ⟨?_, by simp, fun j hj => ?_⟩
      · rw [hget _ _ hlen]
        have : (pre ++ b :: l).getD pre.length 0 = b := by simp [List.getD_eq_getElem?_getD]
        rw [this]
        have : b = UInt8.ofNat c := by rw [← hb]; simp
        rw [this]
        simp
      · have hjl : j < (pre ++ b :: l).length := by omega
        rw [hget _ _ hjl]
        have : (pre ++ b :: l).getD j 0 = pre[j] := by simp [List.getD_eq_getElem?_getD, List.getElem?_append_left hj, hj]
        rw [this, hne _ (hpre _ (List.getElem_mem hj))]
        rfl
    · have hbf : Nat.beq b.toNat c = false := by rw [← Bool.not_eq_true, Nat.beq_eq]; exact hb
      rw [hbf, cond_false]
      have := ih (pre ++ [b]) (fun x hx => by
        rcases List.mem_append.1 hx with h | h
        · exact hpre x h
        · rw [List.mem_singleton] at h; subst h; exact hb)
      rw [List.append_assoc] at this
      have e : (pre ++ [b]).length = Nat.succ pre.length := by simp
      rw [e] at this
      exact this

/-- How a function without a body is called. -/
theorem run_extern {f : FuncId} {F : Func} {e : Array Value → Sem Value} (hF : Tryz.prog.funcs[f]? = some F) (h1 : (F.name == "runtime.NumGoroutine") = false) (h2 : F.body.isNone = true) (h3 : Extern.findNext F = none) (h4 : Extern.find F = some e) (vs : Array Value) (w : World) :
    (callFunc f vs).run Tryz.prog w = ((do pure (Next.value (← e vs))) : Sem Next).run Tryz.prog w := by
  simp only [callFunc, Sem.run_bind, run_program, Result.andThen_ok, hF, h1, h2, h3, h4, Bool.false_eq_true, if_false, if_true, run_mark]

theorem ext260 : ExtOK Tryz.prog 260 extSame := by
  intro K xs vs r hR h
  unfold extSame at h
  split at h
  · simp only [Option.some.injEq] at h
    subst h
    cases hR with | cons _ v _ vs' hx ht =>
    cases ht
    refine ⟨v, ?_, hx⟩
    rw [run_extern Tryz.func260 (by kernel_rfl) (by kernel_rfl) (by kernel_rfl) (e := Extern.AbiNoEscape.same) (by kernel_rfl)]
    rfl
  · cases h

theorem ext251 : ExtOK Tryz.prog 251 extIndexByte := by
  intro K xs vs r hR h
  unfold extIndexByte at h
  split at h
  · rename_i x c
    cases hR with | cons _ v _ vs' hx ht =>
    cases ht with | cons _ u _ vs2 hc ht2 =>
    cases ht2
    cases hx
    cases hc
    cases hlt : Nat.blt c 256
    · rw [hlt] at h; cases h
    · rw [hlt] at h
      have hc : c < 256 := by rwa [Nat.blt_eq] at hlt
      simp only [cond_true, Option.some.injEq] at h
      subst h
      have hfind := findB_eq c hc x [] (by simp)
      rw [run_extern Tryz.func251 (by kernel_rfl) (by kernel_rfl) (by kernel_rfl) (e := Extern.BytealgIndexByte.indexByte) (by kernel_rfl)]
      have hsz : (⟨x.toArray⟩ : ByteArray).size = x.length := by simp [ByteArray.size]
      have hcc : (Int.ofNat c).toNat.toUInt8 = UInt8.ofNat c := rfl
      cases hf : findB x c 0 with
      | none =>
        have h0 : List.find? (fun i => (⟨x.toArray⟩ : ByteArray)[i]! == UInt8.ofNat c) (List.range x.length) = none := by
          rw [← hf]; exact hfind.symm
        refine ⟨_, ?_, .i .i64 _⟩
        show (((do
          let r ← (match (List.range (⟨x.toArray⟩ : ByteArray).size).find? fun i => (⟨x.toArray⟩ : ByteArray)[i]! == (Int.ofNat c).toNat.toUInt8 with
            | some i => pure (goInt i)
            | none => pure (goInt (-1)) : Sem Value)
          pure (Next.value r)) : Sem Next)).run Tryz.prog K.w = _
        rw [hsz, hcc, h0]
        rfl
      | some i =>
        have h0 : List.find? (fun i => (⟨x.toArray⟩ : ByteArray)[i]! == UInt8.ofNat c) (List.range x.length) = some i := by
          rw [← hf]; exact hfind.symm
        refine ⟨_, ?_, .i .i64 _⟩
        show (((do
          let r ← (match (List.range (⟨x.toArray⟩ : ByteArray).size).find? fun i => (⟨x.toArray⟩ : ByteArray)[i]! == (Int.ofNat c).toNat.toUInt8 with
            | some i => pure (goInt i)
            | none => pure (goInt (-1)) : Sem Value)
          pure (Next.value r)) : Sem Next)).run Tryz.prog K.w = _
        rw [hsz, hcc, h0]
        rfl
  · cases h

noncomputable def gext (f : FuncId) : Option (List AV → Option AV) := bif Nat.beq f 260 then some extSame else bif Nat.beq f 251 then some extIndexByte else none
theorem gext_ok (f : FuncId) (p : List AV → Option AV) (h : gext f = some p) : ExtOK Tryz.prog f p := by
  unfold gext at h
  cases h1 : Nat.beq f 260
  · rw [h1] at h
    cases h2 : Nat.beq f 251
    · rw [h2] at h; cases h
    · rw [h2] at h
      cases h
      rw [Nat.beq_eq] at h2
      subst h2
      exact ext251
  · rw [h1] at h
    cases h
    rw [Nat.beq_eq] at h1
    subst h1
    exact ext260
end Go.Adm
