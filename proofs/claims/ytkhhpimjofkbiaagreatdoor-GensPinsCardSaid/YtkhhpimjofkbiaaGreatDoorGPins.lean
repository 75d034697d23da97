/- Part GPins of the proof of GensPins. -/
import Derived.Test.YtkhhpimjofkbiaaGreatDoorGPinT
import Derived.Test.YtkhhpimjofkbiaaGreatDoorGPinT2
import Derived.Test.YtkhhpimjofkbiaaGreatDoorGEx
set_option linter.unusedVariables false
set_option linter.unusedSimpArgs false
set_option maxRecDepth 1000000
set_option linter.unusedVariables false
namespace Go.Adm
open Go Go.Proofs

def Code.fst' : Code → Code | .seq a _ => a | _ => .skip
def Code.snd' : Code → Code | .seq _ b => b | _ => .skip
def Code.tru' : Code → Code | .cond _ a _ => a | _ => .skip
def Code.in' : Code → Code | .block _ a => a | .loop a => a | _ => .skip
def Code.ops' : Code → Array Oper | .region _ ops _ => ops | _ => #[]
noncomputable def c4 : Code := bodyOf Tryz.f4
noncomputable def t1 := Code.snd' c4
noncomputable def t2 := Code.snd' t1
noncomputable def t3 := Code.snd' t2
noncomputable def t4 := Code.snd' t3
noncomputable def t5 := Code.snd' t4
noncomputable def t6 := Code.snd' t5
noncomputable def t7 := Code.snd' t6
noncomputable def r1 := Code.ops' (Code.fst' (Code.fst' t1))
noncomputable def r3 := Code.ops' (Code.fst' (Code.fst' t2))
noncomputable def r5 := Code.ops' (Code.fst' t3)
noncomputable def r6 := Code.ops' (Code.fst' (Code.fst' t4))
/-- A frame of function 4. -/
def env4 (n m : Int) : List AV := (List.range 84).map fun i => bif Nat.beq i 0 then .i .i64 n else bif Nat.beq i 1 then .i .i64 m else .un

theorem s1 : c4 = .seq (Code.fst' c4) t1 := by kernel_rfl
theorem s2 : t1 = .seq (.seq (.region 1 r1 false) (.cond (.tmp 10) (Code.tru' (Code.snd' (Code.fst' t1))) .skip)) t2 := by kernel_rfl
theorem s3 : t2 = .seq (.seq (.region 3 r3 false) (.cond (.tmp 24) (Code.tru' (Code.snd' (Code.fst' t2))) .skip)) t3 := by kernel_rfl
theorem s4 : t3 = .seq (.region 5 r5 false) t4 := by kernel_rfl
theorem s5 : t4 = .seq (.seq (.region 6 r6 false) (.cond (.tmp 41) (Code.tru' (Code.snd' (Code.fst' t4))) .skip)) t5 := by kernel_rfl

theorem step_call {G : Prg} {pr : Prim} {o : Oper} {env : List AV} {M : List AObj} {D : List Nat} {c : Call} {f : FuncId} {args : List AV} {n : Nat} {r : Acted} (ho : o.op = .call c) (hq : quietOp G M env o = none) (ha : actOp G M env o = none) (hc : callee env c = some (f, args)) (h : callF G pr n f args M = some r) : step G pr (n + 1) o (env, M, D) = some r := by
  simp only [step, hq, ha, ho, hc, h]

abbrev S (env : List AV) (l : List (Nat × AV)) : List AV := l.foldl (fun e p => e.set p.1 p.2) env

-- the guards
abbrev eA (n m : Int) : List AV := S (env4 n m) [(4, .b false), (9, .b true), (10, .b false)]
abbrev eB (n m : Int) (b : Bool) : List AV := S (eA n m) [(11, .i .i64 n), (12, .b b)]
theorem g1 (n m : Int) (M : List AObj) (D : List Nat) : ExO GG prA r3 (r3.toList.take 2) (eA n m, M, D) (eB n m (decide (n < 0)), M, D) := ⟨9, by kernel_rfl⟩
abbrev eC (n m : Int) (b : Bool) : List AV := S (eB n m false) [(13, .b false), (14, .i .i64 n), (15, .b b)]
theorem g2 (n m : Int) (M : List AObj) (D : List Nat) : ExO GG prA r3 ((r3.toList.drop 2).take 3) (eB n m false, M, D) (eC n m (decide (n > 50)), M, D) := ⟨9, by kernel_rfl⟩
abbrev eD (n m : Int) (b : Bool) : List AV := S (eC n m false) [(16, .b false), (17, .b false), (18, .i .i64 m), (19, .b b)]
theorem g3 (n m : Int) (M : List AObj) (D : List Nat) : ExO GG prA r3 ((r3.toList.drop 5).take 4) (eC n m false, M, D) (eD n m (decide (m < 0)), M, D) := ⟨9, by kernel_rfl⟩
abbrev eE (n m : Int) (b : Bool) : List AV := S (eD n m false) [(20, .b false), (21, .b false), (22, .i .i64 m), (23, .b b)]
theorem g4 (n m : Int) (M : List AObj) (D : List Nat) : ExO GG prA r3 ((r3.toList.drop 9).take 4) (eD n m false, M, D) (eE n m (decide (m > 60)), M, D) := ⟨9, by kernel_rfl⟩
abbrev eF (n m : Int) : List AV := S (eE n m false) [(24, .b false)]
theorem g5 (n m : Int) (M : List AObj) (D : List Nat) : ExO GG prA r3 (r3.toList.drop 13) (eE n m false, M, D) (eF n m, M, D) := ⟨9, by kernel_rfl⟩

theorem of_map {α β : Type} {x : Option α} {f : α → β} {y : β} (h : x.map f = some y) : ∃ a, x = some a ∧ f a = y := by
  cases x with
  | none => cases h
  | some a => exact ⟨a, rfl, by simpa using h⟩

abbrev bshp (st : St) : AV × Nat × List AObj × List Nat := (eval st.1 (.tmp 24), st.1.length, st.2)
theorem b1 (n m : Int) (M : List AObj) (D : List Nat) : (execOps GG prA 20 r3 (r3.toList.drop 2) (eB n m true, M, D)).map bshp = some (.b true, 84, M, D) := by kernel_rfl
theorem b2 (n m : Int) (M : List AObj) (D : List Nat) : (execOps GG prA 20 r3 (r3.toList.drop 5) (eC n m true, M, D)).map bshp = some (.b true, 84, M, D) := by kernel_rfl
theorem b3 (n m : Int) (M : List AObj) (D : List Nat) : (execOps GG prA 20 r3 (r3.toList.drop 9) (eD n m true, M, D)).map bshp = some (.b true, 84, M, D) := by kernel_rfl
theorem b4 (n m : Int) (M : List AObj) (D : List Nat) : (execOps GG prA 20 r3 (r3.toList.drop 13) (eE n m true, M, D)).map bshp = some (.b true, 84, M, D) := by kernel_rfl
theorem b5 (env : List AV) (M : List AObj) (D : List Nat) : exec GG prA 9 (Code.tru' (Code.snd' (Code.fst' t2))) (env, M, D) = some (.ret, env.set 4 (.b true), M, D) := by kernel_rfl

theorem ExO.cut {G : Prg} {pr : Prim} {all : Array Oper} {l : List Oper} (k : Nat) {st st' st'' : St} (h1 : ExO G pr all (l.take k) st st') (h2 : ExO G pr all (l.drop k) st' st'') : ExO G pr all l st st'' := by
  have := ExO.app h1 h2
  rwa [List.take_append_drop] at this
theorem ExO.cut' {G : Prg} {pr : Prim} {all : Array Oper} {l : List Oper} (a k : Nat) {st st' st'' : St} (h1 : ExO G pr all ((l.drop a).take k) st st') (h2 : ExO G pr all (l.drop (a + k)) st' st'') : ExO G pr all (l.drop a) st st'' := by
  have := ExO.app h1 h2
  rwa [← List.drop_drop, List.take_append_drop] at this

/-- The guards: out of bounds .. -/
theorem guard_bad {n m : Int} (h : ¬(0 ≤ n ∧ n ≤ 50 ∧ 0 ≤ m ∧ m ≤ 60)) (M : List AObj) (D : List Nat) : ∃ env, ExO GG prA r3 r3.toList (eA n m, M, D) (env, M, D) ∧ eval env (.tmp 24) = .b true ∧ env.length = 84 := by
  have fin : ∀ {k : Nat} {e0 : List AV}, (execOps GG prA 20 r3 (r3.toList.drop k) (e0, M, D)).map bshp = some (.b true, 84, M, D) → ExO GG prA r3 (r3.toList.take k) (eA n m, M, D) (e0, M, D) → ∃ env, ExO GG prA r3 r3.toList (eA n m, M, D) (env, M, D) ∧ eval env (.tmp 24) = .b true ∧ env.length = 84 := fun h h1 => by
    obtain ⟨⟨env, M', D'⟩, h2, h3⟩ := of_map h
    simp only [bshp, Prod.mk.injEq] at h3
    obtain ⟨h4, h5, rfl, rfl⟩ := h3
    exact ⟨env, h1.cut _ ⟨20, h2⟩, h4, h5⟩
  by_cases h1 : n < 0
  · refine fin (b1 n m M D) ?_
    have := g1 n m M D
    rwa [decide_eq_true h1] at this
  · have q1 := g1 n m M D
    rw [decide_eq_false h1] at q1
    have tk : ∀ {a k : Nat} {e0 e1 : List AV}, ExO GG prA r3 (r3.toList.take a) (eA n m, M, D) (e0, M, D) → ExO GG prA r3 ((r3.toList.drop a).take k) (e0, M, D) (e1, M, D) → ExO GG prA r3 (r3.toList.take (a + k)) (eA n m, M, D) (e1, M, D) := fun h1 h2 => by
      rw [List.take_add]
      exact ExO.app h1 h2
    by_cases h2 : n > 50
    · refine fin (b2 n m M D) ?_
      have := tk q1 (g2 n m M D)
      rwa [decide_eq_true h2] at this
    · have q2 := tk q1 (g2 n m M D)
      rw [decide_eq_false h2] at q2
      by_cases h3 : m < 0
      · refine fin (b3 n m M D) ?_
        have := tk q2 (g3 n m M D)
        rwa [decide_eq_true h3] at this
      · have q3 := tk q2 (g3 n m M D)
        rw [decide_eq_false h3] at q3
        by_cases h4 : m > 60
        · refine fin (b4 n m M D) ?_
          have := tk q3 (g4 n m M D)
          rwa [decide_eq_true h4] at this
        · exact absurd ⟨by omega, by omega, by omega, by omega⟩ h

/-- .. within. -/
theorem guard_ok {n m : Int} (h : 0 ≤ n ∧ n ≤ 50 ∧ 0 ≤ m ∧ m ≤ 60) (M : List AObj) (D : List Nat) : ExO GG prA r3 r3.toList (eA n m, M, D) (eF n m, M, D) := by
  obtain ⟨h1, h2, h3, h4⟩ := h
  have q1 := g1 n m M D
  have q2 := g2 n m M D
  have q3 := g3 n m M D
  have q4 := g4 n m M D
  rw [decide_eq_false (by omega)] at q1 q2 q3 q4
  exact q1.cut 2 (q2.cut' 2 3 (q3.cut' 5 4 (q4.cut' 9 4 (g5 n m M D))))
end Go.Adm
