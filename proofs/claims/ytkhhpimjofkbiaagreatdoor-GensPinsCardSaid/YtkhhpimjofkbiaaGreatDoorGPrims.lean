/- Part GPrims of the proof of GensPins. -/
import Derived.Test.YtkhhpimjofkbiaaGreatDoorGSortedS
import Derived.Test.YtkhhpimjofkbiaaGreatDoorGRetP
import Derived.Test.YtkhhpimjofkbiaaGreatDoorGJoin
import Derived.Test.YtkhhpimjofkbiaaGreatDoorGExt
import Derived.Test.YtkhhpimjofkbiaaGreatDoorFDrawn
import Derived.Test.YtkhhpimjofkbiaaGreatDoorRoom3
set_option linter.unusedVariables false
set_option linter.unusedSimpArgs false
set_option linter.unusedVariables false
set_option linter.unusedSimpArgs false
namespace Go.Adm
open Go Go.RowKit Go.Proofs

noncomputable def sortedG (get : Nat → Option AObj) (q : Nat) : Option AV :=
  match get q with
  | some (.box _ [.mp o]) => match get o with
    | some (.map es clock) => match intKeysP es with
      | some l => if mapFitB es l clock = true then some (.sl ((isortI l).map fun n => .i .i64 n) es.length .any) else none
      | none => none
    | _ => none
  | _ => none
noncomputable def sortedSG (get : Nat → Option AObj) (q : Nat) : Option AV :=
  match get q with
  | some (.box _ [.mp o]) => match get o with
    | some (.map es clock) => match strKeysP es with
      | some l => if mapFitSB es l clock = true then some (.sl ((isortS l).map fun n => .s n) es.length .any) else none
      | none => none
    | _ => none
  | _ => none

noncomputable def fSorted : List AV → H → Option FActed := fun args h => match args with
  | [.fn g [.ptr q 0]] => if g = 87 ∨ g = 205 then match sortedG h.get q with | some v => some (v, h, 0) | none => none else none
  | _ => none
noncomputable def fSortedS : List AV → H → Option FActed := fun args h => match args with
  | [.fn g [.ptr q 0]] => if g = 223 then match sortedSG h.get q with | some v => some (v, h, 0) | none => none else none
  | _ => none
noncomputable def fJoin : List AV → H → Option FActed := fun args h => match args with
  | [.sl cs n _, .s sep] => match joinP cs n sep with | some v => some (v, h, 0) | none => none
  | _ => none
noncomputable def fRetire : List AV → H → Option FActed := fun args h => match args with
  | [.ptr q 0] => match retireG h.get q with | some (o, x) => some (.tup [], h.set o x, bit o) | none => none
  | _ => none

theorem fSorted_sim {args : List AV} {h : H} {r : FActed} (hw : WF h) (e : fSorted args h = some r) : Sim h (pSorted args (absH h)) r := by
  unfold fSorted at e
  split at e
  · rename_i g q
    split at e
    · rename_i hg
      split at e
      · rename_i v hv
        cases e
        have : sortedP (absH h) q = some v := by
          have h2 : (fun i => (absH h)[i]?) = h.get := by funext i; exact absH_get h i
          show sortedG (fun i => (absH h)[i]?) q = some v
          rw [h2]; exact hv
        unfold pSorted
        simp only [if_pos hg, this]
        exact Sim.same hw v
      · cases e
    · cases e
  · cases e
theorem fSortedS_sim {args : List AV} {h : H} {r : FActed} (hw : WF h) (e : fSortedS args h = some r) : Sim h (pSortedS args (absH h)) r := by
  unfold fSortedS at e
  split at e
  · rename_i g q
    split at e
    · rename_i hg
      split at e
      · rename_i v hv
        cases e
        have : sortedSP (absH h) q = some v := by
          have h2 : (fun i => (absH h)[i]?) = h.get := by funext i; exact absH_get h i
          show sortedSG (fun i => (absH h)[i]?) q = some v
          rw [h2]; exact hv
        unfold pSortedS
        simp only [if_pos hg, this]
        exact Sim.same hw v
      · cases e
    · cases e
  · cases e
theorem fJoin_sim {args : List AV} {h : H} {r : FActed} (hw : WF h) (e : fJoin args h = some r) : Sim h (pJoin args (absH h)) r := by
  unfold fJoin at e
  split at e
  · rename_i cs n k sep
    split at e
    · rename_i v hv
      cases e
      unfold pJoin
      simp only [hv]
      exact Sim.same hw v
    · cases e
  · cases e
theorem retireG_get {get : Nat → Option AObj} {q o : Nat} {x : AObj} (h : retireG get q = some (o, x)) : ∃ y, get o = some y := by
  unfold retireG at h
  split at h
  · split at h
    · split at h
      · rename_i hot _ _ _ _ _ _ _ _ _
        cases hb : (mapFitB _ _ _ && mapFitB _ _ _ && !(Nat.beq _ _) && intValsB _)
        · rw [hb] at h; cases h
        · rw [hb] at h
          simp only [cond_true, Option.some.injEq, Prod.mk.injEq] at h
          obtain ⟨rfl, _⟩ := h
          exact ⟨_, by assumption⟩
      · cases h
    · cases h
  · cases h
theorem fRetire_sim {args : List AV} {h : H} {r : FActed} (hw : WF h) (e : fRetire args h = some r) : Sim h (pRetire args (absH h)) r := by
  unfold fRetire at e
  split at e
  · rename_i q
    split at e
    · rename_i o x hv
      cases e
      have h2 : (fun i => (absH h)[i]?) = h.get := by funext i; exact absH_get h i
      obtain ⟨y, hy⟩ := retireG_get hv
      unfold pRetire
      simp only [h2, hv]
      exact Sim.set hw _ x hy
    · cases e
  · cases e

noncomputable def prA : Prim := fun f => bif Nat.beq f 54 then some pSorted else bif Nat.beq f 171 then some pSortedS else bif Nat.beq f 240 then some pJoin else bif Nat.beq f 53 then some pRetire else none
noncomputable def prF : FPrim := fun f => bif Nat.beq f 54 then some fSorted else bif Nat.beq f 171 then some fSortedS else bif Nat.beq f 240 then some fJoin else bif Nat.beq f 53 then some fRetire else none

theorem prA_cases {f : FuncId} {p : List AV → List AObj → Option Acted} (h : prA f = some p) : (f = 54 ∧ p = pSorted) ∨ (f = 171 ∧ p = pSortedS) ∨ (f = 240 ∧ p = pJoin) ∨ (f = 53 ∧ p = pRetire) := by
  unfold prA at h
  cases h1 : Nat.beq f 54
  · rw [h1] at h
    cases h2 : Nat.beq f 171
    · rw [h2] at h
      cases h3 : Nat.beq f 240
      · rw [h3] at h
        cases h4 : Nat.beq f 53
        · rw [h4] at h; cases h
        · rw [h4] at h
          cases h
          exact .inr (.inr (.inr ⟨Nat.beq_eq.mp h4, rfl⟩))
      · rw [h3] at h
        cases h
        exact .inr (.inr (.inl ⟨Nat.beq_eq.mp h3, rfl⟩))
    · rw [h2] at h
      cases h
      exact .inr (.inl ⟨Nat.beq_eq.mp h2, rfl⟩)
  · rw [h1] at h
    cases h
    exact .inl ⟨Nat.beq_eq.mp h1, rfl⟩

theorem prA_ok : PrimsOK Tryz.prog prA := fun f p h => by
  rcases prA_cases h with ⟨rfl, rfl⟩ | ⟨rfl, rfl⟩ | ⟨rfl, rfl⟩ | ⟨rfl, rfl⟩
  · exact sorted_ok
  · exact sortedS_ok
  · exact join_ok
  · exact retire_ok

theorem prA_dirty : PrimsDirty prA := fun f p h args M r e => by
  rcases prA_cases h with ⟨rfl, rfl⟩ | ⟨rfl, rfl⟩ | ⟨rfl, rfl⟩ | ⟨rfl, rfl⟩
  · unfold pSorted at e
    split at e
    · split at e
      · split at e
        · cases e; exact .same _ _
        · cases e
      · cases e
    · cases e
  · unfold pSortedS at e
    split at e
    · split at e
      · split at e
        · cases e; exact .same _ _
        · cases e
      · cases e
    · cases e
  · unfold pJoin at e
    split at e
    · split at e
      · cases e; exact .same _ _
      · cases e
    · cases e
  · unfold pRetire at e
    split at e
    · split at e
      · cases e; exact .set _ _ _ _
      · cases e
    · cases e

theorem prF_sim : FPrimsSim prF prA := fun f => by
  unfold prF prA
  cases h1 : Nat.beq f 54
  · cases h2 : Nat.beq f 171
    · cases h3 : Nat.beq f 240
      · cases h4 : Nat.beq f 53
        · exact ⟨fun _ => rfl, fun p h => by cases h⟩
        · exact ⟨fun h => (by cases h), fun p h => by cases h; exact ⟨_, rfl, fun args h r hw e => fRetire_sim hw e⟩⟩
      · exact ⟨fun h => (by cases h), fun p h => by cases h; exact ⟨_, rfl, fun args h r hw e => fJoin_sim hw e⟩⟩
    · exact ⟨fun h => (by cases h), fun p h => by cases h; exact ⟨_, rfl, fun args h r hw e => fSortedS_sim hw e⟩⟩
  · exact ⟨fun h => (by cases h), fun p h => by cases h; exact ⟨_, rfl, fun args h r hw e => fSorted_sim hw e⟩⟩
end Go.Adm
