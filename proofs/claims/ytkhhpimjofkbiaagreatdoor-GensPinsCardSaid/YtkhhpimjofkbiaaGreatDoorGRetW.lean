/- Part GRetW of the proof of GensPins. -/
import Derived.Maps.Range
import Derived.WalkKit
import Derived.Test.YtkhhpimjofkbiaaGreatDoorGSorted
set_option linter.unusedVariables false
set_option linter.unusedSimpArgs false
set_option linter.unusedVariables false
set_option linter.unusedSimpArgs false
namespace Go.Adm
open Go Go.RowKit Go.Proofs Go.Maps
open Go.ChangeMaps (setBlock heap_setBlock_same heap_setBlock_other)
open Go.MapKept (heap_set)

theorem keyed3 : Keyed Tryz.prog 3 := int_keyed Tryz.underlying3
theorem key_int {n : Int} (h : (Lit.int .i64 n).wf = true) : keyOf Tryz.prog 3 (.int .i64 n) = some (.int .i64 n) := keyOf_int_mk Tryz.underlying3 h
theorem zero3 (w : World) : (zeroValue 3).run Tryz.prog w = .ok (.int .i64 0) w := by kernel_rfl

def pinOf : List MapEntry → Int → Int
  | [], _ => 0
  | x :: r, n => match x.key, x.val with
    | .int .i64 m, .int .i64 c => if m = n then c else pinOf r n
    | _, _ => pinOf r n

structure IntEnts (l : List MapEntry) : Prop where
  key : ∀ x ∈ l, ∃ n, x.key = .int .i64 n ∧ (Lit.int .i64 n).wf = true
  nodup : (l.map (·.key)).Nodup

theorem pinOf_none : ∀ {l : List MapEntry} {n : Int}, (∀ e ∈ l, e.key ≠ .int .i64 n) → pinOf l n = 0
  | [], _, _ => rfl
  | x :: r, n, h => by
    have ih := pinOf_none (l := r) (n := n) fun e he => h e (List.mem_cons_of_mem _ he)
    have hx := h x (List.mem_cons_self ..)
    unfold pinOf
    split
    · rename_i m c hk hv
      rw [if_neg (fun e => hx (by rw [hk, e])), ih]
    · exact ih
theorem pinOf_some : ∀ {l : List MapEntry} {n c : Int} {e : MapEntry}, (l.map (·.key)).Nodup → e ∈ l → e.key = .int .i64 n → e.val = .int .i64 c → pinOf l n = c
  | x :: r, n, c, e, hn, he, hk, hv => by
    rw [List.map_cons, List.nodup_cons] at hn
    unfold pinOf
    rcases List.mem_cons.1 he with rfl | he
    · simp [hk, hv]
    · have ih := pinOf_some hn.2 he hk hv
      have hx : x.key ≠ .int .i64 n := fun e1 => hn.1 (by rw [e1, ← hk]; exact List.mem_map_of_mem he)
      split
      · rename_i m c' hk' hv'
        rw [if_neg (fun e1 => hx (by rw [hk', e1])), ih]
      · exact ih

theorem look_at {w : World} {bp c : Nat} {ps : Array MapEntry} (hb : w.heap[bp]? = some (.map ps c)) (hp : IntEnts ps.toList) (hv : ∀ x ∈ ps.toList, ∃ m, x.val = .int .i64 m) {n : Int} (hn : (Lit.int .i64 n).wf = true) :
    (Instr.lookup 81 (.map (some bp)) (.int .i64 n) false).run Tryz.prog w = .ok (.int .i64 (pinOf ps.toList n)) w := by
  have hck := keyed3.check w false (key_int hn)
  have hgo : (getObj bp).run Tryz.prog w = .ok (.map ps c) w := MapKept.run_getObj_map hb
  rcases keyed3.find w (key_int hn) ps.toList (fun e he => by obtain ⟨m, h1, h2⟩ := hp.key e he; exact ⟨_, by rw [h1]; exact key_int h2⟩) with ⟨h1, h2⟩ | ⟨j, e, h1, h2, h3⟩
  · rw [pinOf_none h2]
    simp [Instr.lookup, run_underlying Tryz.underlying81, hgo, keyed3.check w _ (key_int hn), h1, zero3, Result.andThen]
  · have hm : e ∈ ps.toList := List.mem_of_getElem? h2
    obtain ⟨m, hm'⟩ := hv e hm
    rw [pinOf_some hp.nodup hm h3 hm']
    simp [Instr.lookup, run_underlying Tryz.underlying81, hgo, keyed3.check w _ (key_int hn), h1, hm', Result.andThen]

theorem del_at {W : World} {bt clock j : Nat} {es : Array MapEntry} {v : Value} (hb : W.heap[bt]? = some (.map es clock)) {n : Int} (hn : (Lit.int .i64 n).wf = true) (h1 : (Instr.findKey 3 (.int .i64 n) es.toList).run Tryz.prog W = .ok (some (j, v)) W) :
    (Builtin.delete_ #[132, 3] 0 #[.map (some bt), .int .i64 n]).run Tryz.prog W = .ok (.tuple #[]) (setBlock W bt (.map (es.eraseIdxIfInBounds j) clock)) := by
  simp [Builtin.delete_, run_underlying Tryz.underlying132, MapKept.run_getObj_map hb, keyed3.check _ _ (key_int hn), h1, MapKept.run_setObj_map _ hb, Result.andThen, setBlock]

theorem erase_filter : ∀ {l : List MapEntry} {j : Nat} {e : MapEntry}, l[j]? = some e → (l.map (·.born)).Nodup → l.eraseIdx j = l.filter (fun x => x.born != e.born)
  | [], _, _, h, _ => by simp at h
  | x :: r, 0, e, h, hn => by
    rw [List.map_cons, List.nodup_cons] at hn
    simp only [List.getElem?_cons_zero, Option.some.injEq] at h
    subst h
    rw [List.eraseIdx_cons_zero, List.filter_cons_of_neg (by simp)]
    symm
    rw [List.filter_eq_self]
    intro y hy
    have : y.born ≠ x.born := fun e1 => hn.1 (by rw [← e1]; exact List.mem_map_of_mem hy)
    simpa using this
  | x :: r, j + 1, e, h, hn => by
    rw [List.map_cons, List.nodup_cons] at hn
    rw [List.getElem?_cons_succ] at h
    have he := List.mem_of_getElem? h
    have : x.born ≠ e.born := fun e1 => hn.1 (by rw [e1]; exact List.mem_map_of_mem he)
    rw [List.eraseIdx_cons_succ, List.filter_cons_of_pos (by simpa using this), erase_filter h hn.2]

def live (l : List MapEntry) (gone : Value → Bool) (seen : Array Nat) : List MapEntry := l.filter fun x => !(seen.contains x.born && gone x.key)

def Ret (w0 : World) (bt r : Nat) (l : List MapEntry) (clock : Nat) (gone : Value → Bool) (wr : World) : Prop :=
  ∃ seen c0, wr.heap[bt]? = some (.map (live l gone seen).toArray clock) ∧ wr.heap[r]? = some (.mapIter (some bt) clock seen c0) ∧ clock ≤ c0 ∧ w0.grownBy wr (some bt)

theorem contains_push' (seen : Array Nat) (a b : Nat) : (seen.push a).contains b = (seen.contains b || b == a) := by
  rw [Bool.eq_iff_iff]
  simp [Array.contains_iff_mem, Array.mem_push]

theorem born_one {l : List MapEntry} (hn : (l.map (·.born)).Nodup) {x e : MapEntry} (hx : x ∈ l) (he : e ∈ l) (h : x.born = e.born) : x = e := by
  induction l with
  | nil => cases hx
  | cons a r ih =>
    rw [List.map_cons, List.nodup_cons] at hn
    rcases List.mem_cons.1 hx with rfl | hx'
    · rcases List.mem_cons.1 he with rfl | he'
      · rfl
      · exact absurd (by rw [h]; exact List.mem_map_of_mem he') hn.1
    · rcases List.mem_cons.1 he with rfl | he'
      · exact absurd (by rw [← h]; exact List.mem_map_of_mem (f := fun y : MapEntry => y.born) hx') hn.1
      · exact ih hn.2 hx' he'

theorem live_stays {l : List MapEntry} {gone : Value → Bool} {seen : Array Nat} {e : MapEntry} (hn : (l.map (·.born)).Nodup) (he : e ∈ l) (hg : gone e.key = false) : live l gone (seen.push e.born) = live l gone seen := by
  refine List.filter_congr fun x hx => ?_
  rw [contains_push']
  by_cases hb : x.born = e.born
  · rw [born_one hn hx he hb, hg]; simp
  · have hb' : (x.born == e.born) = false := by simpa using hb
    simp [hb', bne]
theorem live_struck {l : List MapEntry} {gone : Value → Bool} {seen : Array Nat} {e : MapEntry} (hn : (l.map (·.born)).Nodup) (he : e ∈ l) (hg : gone e.key = true) : live l gone (seen.push e.born) = (live l gone seen).filter fun x => x.born != e.born := by
  unfold live
  rw [List.filter_filter]
  refine List.filter_congr fun x hx => ?_
  rw [contains_push']
  by_cases hb : x.born = e.born
  · rw [born_one hn hx he hb, hg]; simp
  · have hb' : (x.born == e.born) = false := by simpa using hb
    simp [hb', bne]

theorem ret_next {w0 wr : World} {bt r : Nat} {l : List MapEntry} {clock : Nat} {gone : Value → Bool} (hp : IntEnts l) (hn : (l.map (·.born)).Nodup) (hold : ∀ x ∈ l, x.born < clock) (hne : r ≠ bt) (hr0 : w0.heap.size ≤ r) (h : Ret w0 bt r l clock gone wr) :
    (wr.heap[bt]? = some (.map (l.filter fun x => !gone x.key).toArray clock) ∧ w0.grownBy wr (some bt) ∧ (Instr.next (.pointer (some ⟨r, 0, none⟩)) false 0).run Tryz.prog wr = .ok (.tuple #[.bool false]) wr) ∨
    ∃ (n : Int) (v : Value) (w1 : World), (Lit.int .i64 n).wf = true ∧ w0.grownBy w1 (some bt) ∧
      (Instr.next (.pointer (some ⟨r, 0, none⟩)) false 0).run Tryz.prog wr = .ok (.tuple #[.bool true, .int .i64 n, v]) w1 ∧
      (Instr.entry (.pointer (some ⟨r, 0, none⟩))).run Tryz.prog w1 = .ok (.tuple #[.int .i64 n, v]) w1 ∧
      (gone (.int .i64 n) = false → Ret w0 bt r l clock gone w1 ∧ w1.rangeLeft bt r < wr.rangeLeft bt r) ∧
      (gone (.int .i64 n) = true → ∃ w2, (Builtin.delete_ #[132, 3] 0 #[.map (some bt), .int .i64 n]).run Tryz.prog w1 = .ok (.tuple #[]) w2 ∧ Ret w0 bt r l clock gone w2 ∧ w2.rangeLeft bt r < wr.rangeLeft bt r) := by
  obtain ⟨seen, c0, hb, hr, hc0, hg⟩ := h
  have hsub : ∀ {s x}, x ∈ live l gone s → x ∈ l := fun hx => (List.mem_filter.1 hx).1
  have hnl : ((live l gone seen).map (·.born)).Nodup := hn.sublist ((List.filter_sublist).map _)
  have hnk : ((live l gone seen).map (·.key)).Nodup := hp.nodup.sublist ((List.filter_sublist).map _)
  have hml : ∀ x, x ∈ (leftOf (live l gone seen).toArray seen).toList ↔ x ∈ l ∧ seen.contains x.born = false := fun x => by
    simp only [leftOf, Array.toList_filter, List.mem_filter, live]
    constructor
    · rintro ⟨⟨h1, _⟩, h2⟩
      exact ⟨h1, by simpa using h2⟩
    · rintro ⟨h1, h2⟩
      exact ⟨⟨h1, by rw [h2]; rfl⟩, by rw [h2]; rfl⟩
  rcases run_next_at (P := Tryz.prog) wr 0 r bt clock c0 seen _ clock hr hb (fun x hx => hold x (hsub hx)) hc0 with ⟨h0, h1⟩ | ⟨e, he, w1, hw1, hrun⟩
  · left
    refine ⟨?_, hg, h1⟩
    rw [hb]
    congr 3
    refine List.filter_congr fun x hx => ?_
    cases hs : seen.contains x.born
    · exfalso
      have hm := (hml x).2 ⟨hx, hs⟩
      have : (leftOf (live l gone seen).toArray seen).toList.length = 0 := by simpa using h0
      rw [List.length_eq_zero_iff] at this
      rw [this] at hm
      cases hm
    · simp
  · right
    obtain ⟨hel, hes⟩ := (hml e).1 he
    obtain ⟨n, hk, hwf⟩ := hp.key e hel
    have hlive : e ∈ live l gone seen := List.mem_filter.2 ⟨hel, by rw [hes]; rfl⟩
    have hr1 : w1.heap[r]? = some (.mapIter (some bt) clock seen c0) := by rcases hw1 with rfl | rfl <;> exact hr
    have hb1 : w1.heap[bt]? = some (.map (live l gone seen).toArray clock) := by rcases hw1 with rfl | rfl <;> exact hb
    have hset := heap_set (o' := .mapIter (some bt) clock (seen.push e.born) clock) hr1
    have hset1 : (setBlock w1 r (.mapIter (some bt) clock (seen.push e.born) clock)).heap[r]? = some (.mapIter (some bt) clock (seen.push e.born) clock) := hset.1
    have hb' : (setBlock w1 r (.mapIter (some bt) clock (seen.push e.born) clock)).heap[bt]? = some (.map (live l gone seen).toArray clock) := (hset.2 bt (fun e1 => hne e1.symm)).trans hb1
    have hg1 : w0.grownBy (setBlock w1 r (.mapIter (some bt) clock (seen.push e.born) clock)) (some bt) := by
      have h1 : w0.grownBy w1 (some bt) := by rcases hw1 with rfl | rfl; exact hg; exact ⟨hg.os, hg.tape, hg.output, hg.size, hg.block⟩
      have h2 : w1.grownBy (setBlock w1 r (.mapIter (some bt) clock (seen.push e.born) clock)) (some r) := ⟨rfl, rfl, rfl, by simp [setBlock], fun i _ hi => hset.2 i (fun e1 => hi (by rw [e1]))⟩
      exact h1.andThen h2 (fun j hj => by cases hj; exact .inl hr0)
    have hen := run_entry_at (P := Tryz.prog) (setBlock w1 r (.mapIter (some bt) clock (seen.push e.born) clock)) r bt clock seen _ clock e hset.1 hb' (by simpa using hlive) (by simpa using hnl)
    have hshr := left_shrinks (live l gone seen).toArray seen e he
    have hrl : wr.rangeLeft bt r = (leftOf (live l gone seen).toArray seen).size := by simp only [World.rangeLeft, hb, hr]
    rw [hk] at hrun hen
    refine ⟨n, e.val, _, hwf, hg1, hrun, hen, fun hgn => ⟨⟨seen.push e.born, clock, ?_, hset.1, Nat.le_refl _, hg1⟩, ?_⟩, fun hgn => ?_⟩
    · rw [hb', live_stays hn hel (by rw [hk]; exact hgn)]
    · rw [hrl]
      simp only [World.rangeLeft, hb', hset1]
      exact hshr
    · have hst := live_struck (seen := seen) hn hel (by rw [hk]; exact hgn)
      rcases keyed3.find (setBlock w1 r (.mapIter (some bt) clock (seen.push e.born) clock)) (key_int hwf) (live l gone seen) (fun x hx => by obtain ⟨m, h1, h2⟩ := hp.key x (hsub hx); exact ⟨_, by rw [h1]; exact key_int h2⟩) with ⟨h1, h2⟩ | ⟨j, e0, h1, h2, h3⟩
      · exact absurd hk (h2 e hlive)
      · have hm0 : e0 ∈ live l gone seen := List.mem_of_getElem? h2
        have he0 : e0 = e := entry_eq_of_key (List.pairwise_map.1 hnk) hm0 hlive (by rw [h3, hk])
        subst he0
        have hjl : j < (live l gone seen).length := (List.getElem?_eq_some_iff.1 h2).1
        have hes' : ((live l gone seen).toArray.eraseIdxIfInBounds j) = (live l gone (seen.push e0.born)).toArray := by
          apply Array.ext'
          unfold Array.eraseIdxIfInBounds
          rw [dif_pos (by simpa using hjl)]
          simp only [Array.toList_eraseIdx]
          rw [hst]
          exact erase_filter h2 hnl
        have hb2 := heap_setBlock_same hb' (.map (live l gone (seen.push e0.born)).toArray clock)
        have hr2 := (heap_setBlock_other hb' (.map (live l gone (seen.push e0.born)).toArray clock) hne).trans hset1
        refine ⟨_, ?_, ⟨seen.push e0.born, clock, hb2, hr2, Nat.le_refl _, ?_⟩, ?_⟩
        · rw [← hes']
          exact del_at hb' hwf h1
        · refine hg1.andThen (row' := some bt) ⟨rfl, rfl, rfl, by simp [setBlock], fun i _ hi => ?_⟩ (fun j hj => .inr hj)
          exact heap_setBlock_other hb' _ (fun e1 => hi (by rw [e1]))
        · rw [hrl]
          simp only [World.rangeLeft, hb2, hr2]
          refine Nat.lt_of_le_of_lt ?_ hshr
          have e1 : ∀ (a : List MapEntry) (s : Array Nat), (leftOf a.toArray s).size = (a.filter fun e => !s.contains e.born).length := fun a s => by
            unfold leftOf
            rw [← Array.toList_filter, Array.length_toList]
          rw [e1, e1, hst]
          exact (List.filter_sublist.filter _).length_le
end Go.Adm
