/- Part GBelow of the proof of GensPins. -/
import Derived.Below
import Derived.Test.YtkhhpimjofkbiaaGreatDoorGExt
set_option linter.unusedVariables false
set_option linter.unusedSimpArgs false
set_option linter.unusedVariables false
set_option linter.unusedSimpArgs false
namespace Go.Adm
open Go Go.RowKit

section
variable {P : Program} {K : Ctx}

/-- A world in which all that lay stands: nothing of the objects turns. -/
theorem below_ok (hI : Inv K) {w' : World} (h : Below K.w.heap.size K.w w') : Ext K ⟨K.M, K.ι, K.F, w', K.B⟩ ∧ Inv ⟨K.M, K.ι, K.F, w', K.B⟩ := by
  have hext : Ext K ⟨K.M, K.ι, K.F, w', K.B⟩ := by
    refine ⟨⟨rfl, Nat.le_refl _, fun _ _ => rfl, fun _ _ => Nat.le_refl _, fun _ _ _ => rfl, fun _ _ _ => rfl, fun b off hf => ?_, fun b m hm => ?_, h.size, h.os, h.tape, h.output⟩, fun i hi => .inl ⟨i, hi, rfl⟩, fun b hb _ => .inl (h.block b hb), fun b hb _ => rfl⟩
    · exact ⟨hf, cell_of_block (h.block b (hI.F b (by omega))) off⟩
    · have hlt := bsize_lt hm
      unfold bsize
      rw [h.block b hlt]
      exact hm
  refine ⟨hext, ⟨hI.len, hI.inj, fun i hi => Nat.lt_of_lt_of_le (hI.lt i hi) h.size, hI.base, fun i hi => ?_, fun b hb => Nat.lt_of_lt_of_le (hI.F b hb) h.size, Nat.le_trans hI.baseH h.size, fun b m hm hF => ?_, hI.glob.ext hext hI.base hI.baseH⟩⟩
  · exact (hI.obj i hi).mono hext.toExt0 (h.block _ (hI.at_lt hi)) rfl
  · have hF' : m < K.F b := hF
    have hlt := hI.F b (by omega)
    have hm' : bsize K.w b = some m := by
      have : bsize w' b = some m := hm
      unfold bsize at this ⊢
      rw [← h.block b hlt]
      exact this
    obtain ⟨c, t, h1⟩ := hI.mark b m hm' hF
    exact ⟨c, t, by show w'.heap[b]? = _ ∨ w'.heap[b]? = _; rw [h.block b hlt]; exact h1⟩

/-- A summary whose answer holds no references, and whose call lets all stand. -/
theorem callPost_below (hI : Inv K) {w' : World} (h : Below K.w.heap.size K.w w') {x : AV} {v : Value} (hx : ∀ K' : Ctx, Rep K' x v) : CallPost K (x, K.M, []) (.returned v) w' := by
  obtain ⟨h1, h2⟩ := below_ok hI h
  exact ⟨v, ⟨K.M, K.ι, K.F, w', K.B⟩, rfl, rfl, rfl, h1, h2, hx _⟩

/-- A list of strings, read off a slice. -/
noncomputable def strsOf : List AV → Option (List (List UInt8))
  | [] => some []
  | .s x :: r => match strsOf r with | some l => some (x :: l) | none => none
  | _ => none

theorem strsOf_ok : ∀ {cs : List AV} {l : List (List UInt8)}, strsOf cs = some l → cs = l.map AV.s
  | [], l, h => by simp only [strsOf, Option.some.injEq] at h; subst h; rfl
  | x :: r, l, h => by
    unfold strsOf at h
    split at h
    · rename_i heq; cases heq
    · rename_i y r' heq
      cases heq
      cases hr : strsOf r with
      | none => simp [hr] at h
      | some q =>
        simp only [hr, Option.some.injEq] at h
        subst h
        rw [strsOf_ok hr]
        rfl
    · cases h

theorem RepL.strs : ∀ {l : List (List UInt8)} {vs : List Value}, RepL K (l.map AV.s) vs → vs = l.map fun x => Value.string ⟨x.toArray⟩
  | [], _, h => by cases h; rfl
  | x :: l, _, h => by
    cases h with | cons _ _ _ _ h t =>
    cases h
    rw [List.map_cons, ← RepL.strs t]
end
end Go.Adm
