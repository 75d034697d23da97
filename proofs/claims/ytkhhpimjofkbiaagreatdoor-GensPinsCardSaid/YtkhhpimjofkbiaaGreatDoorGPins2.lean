/- Part GPins2 of the proof of GensPins. -/
import Derived.Test.YtkhhpimjofkbiaaGreatDoorGPins
set_option linter.unusedVariables false
set_option linter.unusedSimpArgs false
set_option maxRecDepth 1000000
set_option linter.unusedVariables false
namespace Go.Adm
open Go Go.Proofs

-- region 1
abbrev e0 (n m : Int) : List AV := S (env4 n m) [(4, .b false)]
theorem h0 (n m : Int) (M : List AObj) (D : List Nat) : exec GG prA 9 (Code.fst' c4) (env4 n m, M, D) = some (.normal, e0 n m, M, D) := by kernel_rfl
theorem w1 (n m : Int) : wanted (r1.getD 0 default) r1 (e0 n m) = some true := by kernel_rfl
noncomputable def op1 := r1.getD 0 default
def callOf (o : Oper) : Call := match o.op with | .call c => c | _ => ⟨.builtin .len, #[], #[]⟩
theorem o1 : op1.op = .call (callOf op1) := by kernel_rfl
theorem q1 (n m : Int) (M : List AObj) : quietOp GG M (e0 n m) op1 = none := by kernel_rfl
theorem a1 (n m : Int) (M : List AObj) : actOp GG M (e0 n m) op1 = none := by kernel_rfl
theorem c1 (n m : Int) : callee (e0 n m) (callOf op1) = some (8, []) := by kernel_rfl
theorem l1 : r1.toList = [op1] ++ r1.toList.drop 1 := by kernel_rfl
theorem d1 (n m : Int) : put (e0 n m) op1.dst (.b true) = S (e0 n m) [(9, .b true)] := by kernel_rfl
theorem f1 (n m : Int) (M : List AObj) (D : List Nat) : ExO GG prA r1 (r1.toList.drop 1) (S (e0 n m) [(9, .b true)], M, D) (eA n m, M, D) := ⟨9, by kernel_rfl⟩
theorem reg1 (n m : Int) {N : Nat} {M M' : List AObj} {D D' : List Nat} (h : callF GG prA N 8 [] M = some (.b true, M', D')) : ExO GG prA r1 r1.toList (e0 n m, M, D) (eA n m, M', D' ++ D) := by
  rw [l1]
  exact ExO.app (ExO.one' (w1 n m) (step_call o1 (q1 n m M) (a1 n m M) (c1 n m) h) (d1 n m)) (f1 n m M' (D' ++ D))

-- region 5
noncomputable def op5 := r5.getD 0 default
noncomputable def op6 := r5.getD 1 default
theorem l5 : r5.toList = [op5] ++ ([op6] ++ r5.toList.drop 2) := by kernel_rfl
theorem w5 (n m : Int) : wanted op5 r5 (eF n m) = some true := by kernel_rfl
theorem o5 : op5.op = .call (callOf op5) := by kernel_rfl
theorem q5 (n m : Int) (M : List AObj) : quietOp GG M (eF n m) op5 = none := by kernel_rfl
theorem a5 (n m : Int) (M : List AObj) : actOp GG M (eF n m) op5 = none := by kernel_rfl
theorem c5 (n m : Int) : callee (eF n m) (callOf op5) = some (9, [.i .i64 164]) := by kernel_rfl

abbrev eG (n m : Int) (d : AV) : List AV := S (eF n m) [(26, d)]
theorem d5 (n m : Int) (d : AV) : put (eF n m) op5.dst d = eG n m d := by kernel_rfl
theorem w6 (n m : Int) (d : AV) : wanted op6 r5 (eG n m d) = some true := by kernel_rfl
theorem o6 : op6.op = .call (callOf op6) := by kernel_rfl
theorem q6 (n m : Int) (d : AV) (M : List AObj) : quietOp GG M (eG n m d) op6 = none := by kernel_rfl
theorem a6 (n m : Int) (d : AV) (M : List AObj) : actOp GG M (eG n m d) op6 = none := by kernel_rfl
theorem c6 (n m : Int) (d : AV) : callee (eG n m d) (callOf op6) = some (13, [d]) := by kernel_rfl
abbrev tp : AV := .tup [.ptr 10 0, .i .i64 0]
theorem d6 (n m : Int) (d : AV) : put (eG n m d) op6.dst tp = S (eG n m d) [(27, tp)] := by kernel_rfl
abbrev eH (n m : Int) (d : AV) : List AV := S (eG n m d) [(27, tp), (25, tp), (28, .ptr 10 0), (29, .i .i64 0), (5, .ptr 10 0), (6, .i .i64 0)]
theorem f5 (n m : Int) (d : AV) (M : List AObj) (D : List Nat) : ExO GG prA r5 (r5.toList.drop 2) (S (eG n m d) [(27, tp)], M, D) (eH n m d, M, D) := ⟨12, by kernel_rfl⟩
theorem reg5 (n m : Int) {N : Nat} {d : AV} {M M1 M2 : List AObj} {D D1 D2 : List Nat} (h1 : callF GG prA N 9 [.i .i64 164] M = some (d, M1, D1)) (h2 : callF GG prA N 13 [d] M1 = some (tp, M2, D2)) : ExO GG prA r5 r5.toList (eF n m, M, D) (eH n m d, M2, D2 ++ (D1 ++ D)) := by
  rw [l5]
  exact ExO.app (ExO.one' (w5 n m) (step_call o5 (q5 n m M) (a5 n m M) (c5 n m) h1) (d5 n m d)) (ExO.app (ExO.one' (w6 n m d) (step_call o6 (q6 n m d M1) (a6 n m d M1) (c6 n m d) h2) (d6 n m d)) (f5 n m d M2 _))

-- region 6
noncomputable def op7 := r6.getD 8 default
noncomputable def op8 := r6.getD 9 default
abbrev site : AV := .s [115, 105, 116, 101, 32, 97, 32, 123, 125]
theorem l6 : r6.toList = r6.toList.take 8 ++ ([op7] ++ ([op8] ++ r6.toList.drop 10)) := by kernel_rfl
abbrev eI (n m : Int) (d : AV) : List AV := S (eH n m d) [(30, .i .i64 0), (31, .b false), (32, .b false), (33, .ptr 10 0), (34, .b false), (35, .b false), (36, .b false), (37, .ptr 10 0)]
theorem f6 (n m : Int) (d : AV) (M : List AObj) (D : List Nat) : ExO GG prA r6 (r6.toList.take 8) (eH n m d, M, D) (eI n m d, M, D) := ⟨12, by kernel_rfl⟩
theorem w7 (n m : Int) (d : AV) : wanted op7 r6 (eI n m d) = some true := by kernel_rfl
theorem o7 : op7.op = .call (callOf op7) := by kernel_rfl
theorem q7 (n m : Int) (d : AV) (M : List AObj) : quietOp GG M (eI n m d) op7 = none := by kernel_rfl
theorem a7 (n m : Int) (d : AV) (M : List AObj) : actOp GG M (eI n m d) op7 = none := by kernel_rfl
theorem c7 (n m : Int) (d : AV) : callee (eI n m d) (callOf op7) = some (19, [.ptr 10 0, site]) := by kernel_rfl
abbrev eJ (n m : Int) (d r : AV) : List AV := S (eI n m d) [(38, r)]
theorem d7 (n m : Int) (d r : AV) : put (eI n m d) op7.dst r = eJ n m d r := by kernel_rfl
theorem w8 (n m : Int) (d r : AV) : wanted op8 r6 (eJ n m d r) = some true := by kernel_rfl
theorem q8 (n m : Int) (d r : AV) (M : List AObj) : quietOp GG M (eJ n m d r) op8 = fieldOp GG 60 0 r := by kernel_rfl
theorem d8 (n m : Int) (d r : AV) : put (eJ n m d r) op8.dst (.i .i64 0) = S (eJ n m d r) [(39, .i .i64 0)] := by kernel_rfl
abbrev eK (n m : Int) (d r : AV) : List AV := S (eJ n m d r) [(39, .i .i64 0), (40, .b false), (41, .b false)]
theorem f8 (n m : Int) (d r : AV) (M : List AObj) (D : List Nat) : ExO GG prA r6 (r6.toList.drop 10) (S (eJ n m d r) [(39, .i .i64 0)], M, D) (eK n m d r, M, D) := ⟨12, by kernel_rfl⟩
theorem reg6 (n m : Int) {N : Nat} {d r : AV} {M M1 : List AObj} {D D1 : List Nat} (h1 : callF GG prA N 19 [.ptr 10 0, site] M = some (r, M1, D1)) (h2 : fieldOp GG 60 0 r = some (.i .i64 0)) : ExO GG prA r6 r6.toList (eH n m d, M, D) (eK n m d r, M1, D1 ++ D) := by
  rw [l6]
  have hs : step GG prA 1 op8 (eJ n m d r, M1, D1 ++ D) = some (.i .i64 0, M1, []) := by
    unfold step
    have := q8 n m d r M1
    rw [h2] at this
    simp only [this]
  exact ExO.app (f6 n m d M D) (ExO.app (ExO.one' (w7 n m d) (step_call o7 (q7 n m d M) (a7 n m d M) (c7 n m d) h1) (d7 n m d r)) (ExO.app (ExO.one' (w8 n m d r) hs (d8 n m d r)) (f8 n m d r M1 _)))
end Go.Adm
