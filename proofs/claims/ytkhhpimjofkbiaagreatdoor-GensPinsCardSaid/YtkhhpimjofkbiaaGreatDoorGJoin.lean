/- Part GJoin of the proof of GensPins. -/
import Derived.Test.YtkhhpimjofkbiaaGreatDoorGBelow
import Derived.Test.YtkhhpimjofkbiaaGreatDoorGShelf
set_option linter.unusedVariables false
set_option linter.unusedSimpArgs false
set_option linter.unusedVariables false
set_option linter.unusedSimpArgs false
namespace Go.Adm
open Go Go.RowKit Go.Proofs

noncomputable def joinP (cs : List AV) (n : Nat) (sep : List UInt8) : Option AV :=
  match strsOf cs with
  | some l => if l.length = n ∧ l.length ≤ 1000000 ∧ (Lib.join l sep).length ≤ 1000000 then some (.s (Lib.join l sep)) else none
  | none => none

noncomputable def pJoin : List AV → List AObj → Option Acted := fun args M => match args with
  | [.sl cs n _, .s sep] => match joinP cs n sep with | some v => some (v, M, []) | none => none
  | _ => none

theorem join_ok : PrimOK Tryz.prog 240 pJoin := {
  fn := ⟨Tryz.f240, Tryz.func240, by kernel_rfl, by kernel_rfl⟩
  ok K xs vs r hI hR h := by
    unfold pJoin at h
    split at h
    · rename_i cs n k sep
      split at h
      · rename_i v hv
        simp only [Option.some.injEq] at h
        subst h
        unfold joinP at hv
        split at hv
        · rename_i l hl
          split at hv
          · rename_i hc
            obtain ⟨hn, hl1, hl2⟩ := hc
            simp only [Option.some.injEq] at hv
            subst hv
            cases hR with | cons _ u _ us hx ht =>
            cases ht with | cons _ u2 _ us2 hs ht2 =>
            cases ht2
            cases hs
            have hcs := strsOf_ok hl
            cases hx with | sl _ _ _ a c b off ws hr ha hf hcell hk hlc =>
            rw [hcs] at hr
            have hws := hr.strs
            show Calls Tryz.prog 240 _ K.w _
            cases l with
            | nil =>
              simp only [List.length_nil] at hn
              subst hn
              exact (Any.strings_Join_none Tryz.lays156 Tryz.Builder_Extra_156 a c ⟨sep.toArray⟩ K.w).mono fun e w' ⟨he, hw⟩ => by
                subst he; subst hw
                exact callPost_below hI (Below.refl _ _) (fun K' => by rw [show Lib.join [] sep = [] from rfl]; exact .s [])
            | cons x0 l0 =>
              have hne : cs ≠ [] := by rw [hcs]; simp
              have ha' := ha hne
              subst ha'
              have hcells : ∀ (j : Nat) y, ((x0 :: l0).map fun x => (⟨x.toArray⟩ : ByteArray))[j]? = some y → K.w.cell? ⟨b, off + j, none⟩ = some (.string y) := fun j y hy => by
                have hj : j < ws.length := by
                  rw [hws, List.length_map]
                  have := (List.getElem?_eq_some_iff.1 hy).1
                  simpa using this
                have h1 := hcell j hj
                rw [show ((⟨b, off + j, none⟩ : Addr)) = ad b (off + j) from rfl, h1]
                have h2 : ws[j]? = some (.string y) := by
                  rw [hws]
                  rw [List.getElem?_map] at hy ⊢
                  cases hq : (x0 :: l0)[j]? with
                  | none => rw [hq] at hy; cases hy
                  | some q =>
                    rw [hq] at hy
                    simp only [Option.map_some, Option.some.injEq] at hy ⊢
                    rw [hy]
                rw [List.getElem?_eq_getElem hj] at h2
                exact h2
              have hb : b < K.w.heap.size := by
                have h0 := hcells 0 ⟨x0.toArray⟩ (by simp)
                rcases Nat.lt_or_ge b K.w.heap.size with hlt | hge
                · exact hlt
                · simp [World.cell?, Array.getElem?_eq_none hge] at h0
              have hmm : ((x0 :: l0).map fun x => (⟨x.toArray⟩ : ByteArray)).map (·.data.toList) = x0 :: l0 := by
                rw [List.map_map]
                have : ((fun y : ByteArray => y.data.toList) ∘ fun x : List UInt8 => (⟨x.toArray⟩ : ByteArray)) = id := by
                  funext x; simp
                rw [this, List.map_id]
              have hcall := Any.strings_Join Tryz.lays156 Tryz.Builder_Extra_156 b off c ((x0 :: l0).map fun x => (⟨x.toArray⟩ : ByteArray)) ⟨sep.toArray⟩ K.w hcells hb (by simp at hl1 ⊢; omega) (by rw [List.length_map]; omega) (by rw [hmm]; simp only [List.toList_toArray]; omega)
              rw [hmm] at hcall
              simp only [List.toList_toArray] at hcall
              rw [List.length_map, hn] at hcall
              exact hcall.mono fun e w' ⟨he, hw⟩ => by
                subst he
                exact callPost_below hI hw (fun K' => .s _)
          · cases hv
        · cases hv
      · cases h
    · cases h }
end Go.Adm
