/- Part GOpen0 of the proof of GensPins. -/
import Derived.KernelRfl
import Derived.Test.YtkhhpimjofkbiaaGreatDoorGPins5
set_option linter.unusedVariables false
set_option linter.unusedSimpArgs false
set_option maxRecDepth 1000000
set_option linter.unusedVariables false
namespace Go.Adm
open Go Go.Proofs
noncomputable def isTp : AV → Bool
  | .tup [.ptr a b, .i .i64 c] => Nat.beq a 10 && Nat.beq b 0 && intEq c 0
  | _ => false
noncomputable def isZ : Option AV → Bool
  | some (.i .i64 c) => intEq c 0
  | _ => false
noncomputable def is10 : Option AObj → Bool
  | some (.box t [_, _, .i .i64 g, _, _, .mp a, .mp b]) => Nat.beq t 134 && intEq g 1 && Nat.beq a 8 && Nat.beq b 9
  | _ => false
noncomputable def is9 : Option AObj → Bool
  | some (.map [(.i .i64 a, _, b)] c) => intEq a 1 && Nat.beq b 1 && Nat.beq c 2
  | _ => false
noncomputable def is8 : Option AObj → Bool
  | some (.map [] c) => Nat.beq c 0
  | _ => false
noncomputable def chkOpen (cF : FCall) : Bool :=
  match cF 9 [.i .i64 164] H.empty with
  | some (d, h1, _) => match cF 13 [d] h1 with
    | some (t, h2, _) => isTp t && (match cF 19 [.ptr 10 0, site] h2 with
      | some (r, h3, _) => isZ (fieldOp GG 60 0 r) && Nat.beq h3.n 153 && is10 (h3.get 10) && is9 (h3.get 9) && is8 (h3.get 8)
      | none => false)
    | none => false
  | none => false
noncomputable def chkAnchor (cF : FCall) : Bool := match cF 8 [] H.empty with | some (.b true, h, m) => Nat.beq h.n 0 | _ => false

theorem isTp_ok {t : AV} (h : isTp t = true) : t = tp := by
  unfold isTp at h
  split at h
  · rename_i a b c
    simp only [Bool.and_eq_true, Nat.beq_eq, intEq_eq, beq_iff_eq] at h
    obtain ⟨⟨h1, h2⟩, h3⟩ := h
    subst h1; subst h2; subst h3
    rfl
  · cases h
theorem isZ_ok {t : Option AV} (h : isZ t = true) : t = some (.i .i64 0) := by
  unfold isZ at h
  split at h
  · rw [intEq_eq, beq_iff_eq] at h
    subst h
    rfl
  · cases h
theorem is10_ok {t : Option AObj} (h : is10 t = true) : ∃ c0 c1 c3 c4, t = some (.box 134 [c0, c1, .i .i64 1, c3, c4, .mp 8, .mp 9]) := by
  unfold is10 at h
  split at h
  · simp only [Bool.and_eq_true, Nat.beq_eq, intEq_eq, beq_iff_eq] at h
    obtain ⟨⟨⟨h1, h2⟩, h3⟩, h4⟩ := h
    subst h1; subst h2; subst h3; subst h4
    exact ⟨_, _, _, _, rfl⟩
  · cases h
theorem is9_ok {t : Option AObj} (h : is9 t = true) : ∃ v, t = some (.map [(.i .i64 1, v, 1)] 2) := by
  unfold is9 at h
  split at h
  · simp only [Bool.and_eq_true, Nat.beq_eq, intEq_eq, beq_iff_eq] at h
    obtain ⟨⟨h1, h2⟩, h3⟩ := h
    subst h1; subst h2; subst h3
    exact ⟨_, rfl⟩
  · cases h
theorem is8_ok {t : Option AObj} (h : is8 t = true) : t = some (.map [] 0) := by
  unfold is8 at h
  split at h
  · rw [Nat.beq_eq] at h
    subst h
    rfl
  · cases h

theorem cF_ok : CallSim GG prA cF := callFF_ok prF_sim prA_dirty 100000 40

theorem opened_of {cF : FCall} (cF_ok : CallSim GG prA cF) (hA : chkAnchor cF = true) (hO : chkOpen cF = true) : Opened := by
  constructor
  · unfold chkAnchor at hA
    split at hA
    · rename_i h m he
      obtain ⟨n, D, h1, _, hw, _⟩ := cF_ok 8 [] H.empty _ WF.empty.1 he
      rw [WF.empty.2] at h1
      rw [Nat.beq_eq] at hA
      have h2 : absH h = [] := List.length_eq_zero_iff.1 (by rw [absH_len]; exact hA)
      simp only [h2] at h1
      exact ⟨n, D, h1⟩
    · cases hA
  · unfold chkOpen at hO
    split at hO
    · rename_i d h1 m1 e1
      split at hO
      · rename_i t h2 m2 e2
        rw [Bool.and_eq_true] at hO
        obtain ⟨ht, hO⟩ := hO
        have ht := isTp_ok ht
        subst ht
        split at hO
        · rename_i r h3 m3 e3
          simp only [Bool.and_eq_true] at hO
          obtain ⟨⟨⟨⟨k1, k2⟩, k3⟩, k4⟩, k5⟩ := hO
          obtain ⟨n1, D1, a1, _, w1, _⟩ := cF_ok 9 _ H.empty _ WF.empty.1 e1
          obtain ⟨n2, D2, a2, _, w2, _⟩ := cF_ok 13 _ h1 _ w1 e2
          obtain ⟨n3, D3, a3, _, w3, _⟩ := cF_ok 19 _ h2 _ w2 e3
          rw [WF.empty.2] at a1
          obtain ⟨c0, c1, c3, c4, q10⟩ := is10_ok k3
          obtain ⟨v, q9⟩ := is9_ok k4
          have q8 := is8_ok k5
          rw [Nat.beq_eq] at k2
          refine ⟨max n1 (max n2 n3), d, absH h1, D1, absH h2, D2, r, absH h3, D3, c0, c1, c3, c4, v, callF_le (by omega) a1, callF_le (by omega) a2, callF_le (by omega) a3, isZ_ok k1, by rw [absH_len]; exact k2, ?_, ?_, ?_⟩
          · rw [absH_get]; exact q10
          · rw [absH_get]; exact q9
          · rw [absH_get]; exact q8
        · cases hO
      · cases hO
    · cases hO
end Go.Adm
