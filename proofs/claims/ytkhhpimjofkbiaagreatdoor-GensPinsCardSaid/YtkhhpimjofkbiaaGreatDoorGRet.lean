/- Part GRet of the proof of GensPins. -/
import Derived.Test.YtkhhpimjofkbiaaGreatDoorGRetW
set_option linter.unusedVariables false
set_option linter.unusedSimpArgs false
set_option linter.unusedVariables false
set_option linter.unusedSimpArgs false
namespace Go.Adm
open Go Go.RowKit Go.Proofs Go.Maps
open Go.ChangeMaps (setBlock heap_setBlock_same heap_setBlock_other)
open Go.MapKept (heap_set)

def goneK (gen : Int) (ps : List MapEntry) : Value → Bool
  | .int .i64 n => (n != gen) && (pinOf ps n == 0)
  | _ => false

set_option maxRecDepth 100000 in
set_option maxHeartbeats 2000000 in
theorem retire_walk {w : World} {B bt bp clock pc : Nat} {gen : Int} {es ps : Array MapEntry} {row : Array Value} {rt : TypeId} {fr : Nat × Nat}
    (hB : w.heap[B]? = some (.cells row rt fr)) (r2 : row[2]? = some (.int .i64 gen)) (r5 : row[5]? = some (.map (some bp))) (r6 : row[6]? = some (.map (some bt)))
    (hbt : w.heap[bt]? = some (.map es clock)) (hbp : w.heap[bp]? = some (.map ps pc)) (hne : bp ≠ bt)
    (he : IntEnts es.toList) (hn : (es.toList.map (·.born)).Nodup) (hold : ∀ x ∈ es.toList, x.born < clock) (hp : IntEnts ps.toList) (hv : ∀ x ∈ ps.toList, ∃ m, x.val = .int .i64 m) :
    Calls Tryz.prog 53 #[.pointer (some ⟨B, 0, none⟩)] w fun e w' => e = .returned (.tuple #[]) ∧ w.grownBy w' (some bt) ∧ w'.heap[bt]? = some (.map (es.toList.filter fun x => !goneK gen ps.toList x.key).toArray clock) := by
  have hBl : B < w.heap.size := (Array.getElem?_eq_some_iff.1 hB).1
  have hbtl : bt < w.heap.size := (Array.getElem?_eq_some_iff.1 hbt).1
  have hbpl : bp < w.heap.size := (Array.getElem?_eq_some_iff.1 hbp).1
  have hBt : B ≠ bt := fun e => by subst e; rw [hB] at hbt; cases hbt
  have cell : ∀ {wr : World}, w.grownBy wr (some bt) → ∀ off v, row[off]? = some v → wr.cell? ⟨B, off, none⟩ = some v := fun hg off v h => by
    have := hg.block B hBl (fun e => hBt (by cases e; rfl))
    simp only [World.cell?, this, hB]
    simpa using h
  have c6 := cell (wr := w) (World.grownBy.refl w _) 6 _ r6
  have hrg := run_range_map (P := Tryz.prog) w 132 3 53 bt es clock Tryz.underlying132 hbt
  go_enter Tryz.func53, Tryz.ntmps53
  go_wp2
  go_loopw [2] (fun _ wr => Ret w bt w.heap.size es.toList clock (goneK gen ps.toList) wr) (fun _ wr => wr.rangeLeft bt w.heap.size)
  case atStart =>
    have ha := MapKept.heap_alloc w (.mapIter (some bt) clock #[] clock)
    refine ⟨#[], clock, ?_, ha.1, Nat.le_refl _, (World.grownBy_alloc w _ none).but _⟩
    rw [ha.2 bt hbtl, hbt]
    congr 2
    apply Array.ext'
    unfold live
    simp
    exact (List.filter_eq_self.2 fun _ _ => rfl).symm
  case round =>
    have hgr : w.grownBy wr (some bt) := by obtain ⟨_, _, _, _, _, h⟩ := hrel; exact h
    rcases ret_next he hn hold (by omega) (Nat.le_refl _) hrel with ⟨h1, h2, hnx⟩ | ⟨n, v, w1, hwf, hg1, hnx, hen, hstay, hgo⟩
    · go_wp2
      go_end0
      exact ⟨rfl, h2, h1⟩
    · have d2 := cell hg1 2 _ r2
      have d5 := cell hg1 5 _ r5
      have d6 := cell hg1 6 _ r6
      have hbp1 : w1.heap[bp]? = some (.map ps pc) := (hg1.block bp hbpl (fun e => hne (by cases e; rfl))).trans hbp
      have hlk := look_at hbp1 hp hv hwf
      cases hgk : goneK gen ps.toList (.int .i64 n)
      · obtain ⟨s1, s2⟩ := hstay hgk
        go_wp2
        all_goals first
          | exact ⟨s1, s2⟩
          | (exfalso; rename_i hx; unfold goneK at hgk; simp only [Bool.and_eq_true, Bool.and_eq_false_iff] at hgk hx; simp_all)
          | (exfalso; rename_i hx _ _; unfold goneK at hgk; simp only [Bool.and_eq_true, Bool.and_eq_false_iff] at hgk hx; simp_all)
      · obtain ⟨w2, hdel, s1, s2⟩ := hgo hgk
        go_wp2
        all_goals first
          | exact ⟨s1, s2⟩
          | (exfalso; rename_i hx; unfold goneK at hgk; simp only [Bool.and_eq_true, Bool.and_eq_false_iff] at hgk hx; simp_all)
          | (exfalso; rename_i hx _ _; unfold goneK at hgk; simp only [Bool.and_eq_true, Bool.and_eq_false_iff] at hgk hx; simp_all)
end Go.Adm
