/- Part GPins4 of the proof of GensPins. -/
import Derived.Test.YtkhhpimjofkbiaaGreatDoorGPins3
set_option linter.unusedVariables false
set_option linter.unusedSimpArgs false
set_option maxRecDepth 1000000
set_option linter.unusedVariables false
namespace Go.Adm
open Go Go.Proofs

theorem wrap_nat (k : Nat) (h : k ≤ 100) : IntKind.i64.wrap ((k : Int) + 1) = ((k + 1 : Nat) : Int) := by
  rw [wrap_small (by omega) (by omega)]; omega

theorem loop1 (x : Nat → AObj) (c0 c1' c3 c4' tv : AV) (n : Nat) (m : Int) (hn : n ≤ 100) : ∀ (rem k : Nat) (e : Nat → AV) (D : List Nat), k + rem = n →
    ∃ e' D', Ex GG prA (.loop lb) (envL e n m k, PM x c0 c1' c3 c4' tv k, D) (.exit 0, S (envL e' n m n) [(44, .b false)], PM x c0 c1' c3 c4' tv n, D')
  | 0, k, e, D, h => by
    have : k = n := by omega
    subst this
    exact ⟨e, D, Ex.loopX (leave1 e (by omega) _ D) (by simp)⟩
  | rem + 1, k, e, D, h => by
    have h1 := round1 (n := (n : Int)) (m := m) (i := (k : Int)) e (D := D) (by omega) (pin_step x c0 c1' c3 c4' tv k (by omega))
    rw [wrap_nat k (by omega)] at h1
    obtain ⟨e', D', h2⟩ := loop1 x c0 c1' c3 c4' tv n m hn rem (k + 1) (reE (x4 e n m k)) ([8] ++ D) (by omega)
    exact ⟨e', D', Ex.loop h1 h2⟩

/-- A frame within the second loop. -/
def envM (e : Nat → AV) (n m j : Int) : List AV := (List.range 84).map fun i => bif Nat.beq i 0 then .i .i64 n else bif Nat.beq i 1 then .i .i64 m else bif Nat.beq i 5 then .ptr 10 0 else bif Nat.beq i 49 then .i .i64 m else bif Nat.beq i 50 then .i .i64 j else e i
noncomputable def lc := Code.in' (Code.in' (Code.snd' (Code.fst' t6)))
noncomputable def lc2 := Code.snd' lc
noncomputable def lc3 := Code.snd' lc2
noncomputable def lc4 := Code.in' (Code.fst' lc3)
noncomputable def lc5 := Code.snd' lc4
noncomputable def r16 := Code.ops' (Code.fst' lc5)
theorem u6 : t6 = .seq (.seq (Code.fst' (Code.fst' t6)) (.block 2 (.loop lc))) t7 := by kernel_rfl
theorem u7 : lc = .seq (Code.fst' lc) lc2 := by kernel_rfl
theorem u8 : lc2 = .seq (.cond (.tmp 51) .skip (.exit 2)) lc3 := by kernel_rfl
theorem u9 : lc3 = .seq (.block 3 lc4) (Code.snd' lc3) := by kernel_rfl
theorem u10 : lc4 = .seq (Code.fst' lc4) lc5 := by kernel_rfl
theorem u11 : lc5 = .seq (.region 16 r16 false) (.cond (.tmp 59) (Code.tru' (Code.snd' lc5)) .skip) := by kernel_rfl
theorem v9 (e : Nat → AV) (n m i : Int) (M : List AObj) (D : List Nat) : exec GG prA 9 (Code.fst' (Code.fst' t6)) (S (envL e n m i) [(44, .b false)], M, D) = some (.normal, envM (reE (S (envL e n m i) [(44, .b false)])) n m 0, M, D) := by kernel_rfl
theorem v10 (e : Nat → AV) (n m j : Int) (M : List AObj) (D : List Nat) : exec GG prA 9 (Code.fst' lc) (envM e n m j, M, D) = some (.normal, S (envM e n m j) [(51, .b (decide (j < m)))], M, D) := by kernel_rfl
abbrev y0 (e : Nat → AV) (n m j : Int) : List AV := S (envM e n m j) [(51, .b true), (52, .i .i64 j), (7, .i .i64 j)]
theorem v11 (e : Nat → AV) (n m j : Int) (M : List AObj) (D : List Nat) : exec GG prA 9 (Code.fst' lc4) (S (envM e n m j) [(51, .b true)], M, D) = some (.normal, y0 e n m j, M, D) := by kernel_rfl
abbrev y1 (e : Nat → AV) (n m j : Int) : List AV := S (y0 e n m j) [(53, .ptr 10 0)]
theorem v12 (e : Nat → AV) (n m j : Int) (M : List AObj) (D : List Nat) : ExO GG prA r16 (r16.toList.take 1) (y0 e n m j, M, D) (y1 e n m j, M, D) := ⟨9, by kernel_rfl⟩
noncomputable def op16 := r16.getD 1 default
theorem l16 : r16.toList = r16.toList.take 1 ++ ([op16] ++ r16.toList.drop 2) := by kernel_rfl
theorem w16 (e : Nat → AV) (n m j : Int) : wanted op16 r16 (y1 e n m j) = some true := by kernel_rfl
theorem o16 : op16.op = .call (callOf op16) := by kernel_rfl
theorem q16 (e : Nat → AV) (n m j : Int) (M : List AObj) : quietOp GG M (y1 e n m j) op16 = none := by kernel_rfl
theorem a16 (e : Nat → AV) (n m j : Int) (M : List AObj) : actOp GG M (y1 e n m j) op16 = none := by kernel_rfl
theorem c16 (e : Nat → AV) (n m j : Int) : callee (y1 e n m j) (callOf op16) = some (21, [.ptr 10 0, .i .i64 1]) := by kernel_rfl
abbrev y2 (e : Nat → AV) (n m j r : Int) : List AV := S (y1 e n m j) [(54, .i .i64 r)]
theorem d16 (e : Nat → AV) (n m j r : Int) : put (y1 e n m j) op16.dst (.i .i64 r) = y2 e n m j r := by kernel_rfl
abbrev y3 (e : Nat → AV) (n m j r : Int) (b1 b2 : Bool) : List AV := S (y2 e n m j r) [(55, .b b1), (56, .i .i64 j), (57, .i .i64 n), (58, .b b2)]
theorem v13 (e : Nat → AV) (n m j : Int) (M : List AObj) (D : List Nat) : ExO GG prA r16 ((r16.toList.drop 2).take 4) (y2 e n m j 0, M, D) (y3 e n m j 0 true (decide (j < n)), M, D) := ⟨9, by kernel_rfl⟩
theorem v14 (e : Nat → AV) (n m j : Int) (M : List AObj) (D : List Nat) : ExO GG prA r16 ((r16.toList.drop 2).take 4) (y2 e n m j 43, M, D) (y3 e n m j 43 false (decide (j < n)), M, D) := ⟨9, by kernel_rfl⟩
abbrev y4 (e : Nat → AV) (n m j r : Int) (b1 b2 : Bool) : List AV := S (y3 e n m j r b1 b2) [(59, .b false)]
theorem v15 (e : Nat → AV) (n m j r : Int) (M : List AObj) (D : List Nat) : ExO GG prA r16 (r16.toList.drop 6) (y3 e n m j r true true, M, D) (y4 e n m j r true true, M, D) := ⟨9, by kernel_rfl⟩
theorem v16 (e : Nat → AV) (n m j r : Int) (M : List AObj) (D : List Nat) : ExO GG prA r16 (r16.toList.drop 6) (y3 e n m j r false false, M, D) (y4 e n m j r false false, M, D) := ⟨9, by kernel_rfl⟩
abbrev y5 (e : Nat → AV) (n m j r : Int) (b1 b2 : Bool) : List AV := S (y4 e n m j r b1 b2) [(60, .i .i64 (IntKind.i64.wrap (j + 1)))]
theorem v17 (e : Nat → AV) (n m j r : Int) (b1 b2 : Bool) (M : List AObj) (D : List Nat) : exec GG prA 9 (Code.snd' lc3) (y4 e n m j r b1 b2, M, D) = some (.normal, envM (reE (y5 e n m j r b1 b2)) n m (IntKind.i64.wrap (j + 1)), M, D) := by kernel_rfl

theorem round2 (e : Nat → AV) {n m j r : Int} {b : Bool} (hj : j < m) {N : Nat} {M M' : List AObj} {D D' : List Nat} (h : callF GG prA N 21 [.ptr 10 0, .i .i64 1] M = some (.i .i64 r, M', D'))
    (hb : (b = true ∧ r = 0 ∧ j < n) ∨ (b = false ∧ r = 43 ∧ ¬j < n)) :
    Ex GG prA lc (envM e n m j, M, D) (.normal, envM (reE (y5 e n m j r b b)) n m (IntKind.i64.wrap (j + 1)), M', D' ++ D) := by
  rw [u7]
  refine Ex.seq ⟨9, v10 e n m j M D⟩ ?_
  rw [u8, decide_eq_true hj]
  refine Ex.seq (Ex.condT (by kernel_rfl) (Ex.skip _)) ?_
  rw [u9]
  refine Ex.seq (Ex.block ?_) ⟨9, v17 e n m j r b b M' (D' ++ D)⟩
  rw [u10]
  refine Ex.seq ⟨9, v11 e n m j M D⟩ ?_
  rw [u11]
  refine Ex.seq (Ex.region ?_) (Ex.condF (by kernel_rfl) (Ex.skip _))
  rw [l16]
  refine ExO.app (v12 e n m j M D) (ExO.app (ExO.one' (w16 e n m j) (step_call o16 (q16 e n m j M) (a16 e n m j M) (c16 e n m j) h) (d16 e n m j r)) ?_)
  rcases hb with ⟨rfl, rfl, hlt⟩ | ⟨rfl, rfl, hlt⟩
  · have h1 := v13 e n m j M' (D' ++ D)
    rw [decide_eq_true hlt] at h1
    exact h1.cut' 2 4 (v15 e n m j 0 M' _)
  · have h1 := v14 e n m j M' (D' ++ D)
    rw [decide_eq_false hlt] at h1
    exact h1.cut' 2 4 (v16 e n m j 43 M' _)
theorem leave2 (e : Nat → AV) {n m j : Int} (hj : ¬j < m) (M : List AObj) (D : List Nat) : Ex GG prA lc (envM e n m j, M, D) (.exit 2, S (envM e n m j) [(51, .b false)], M, D) := by
  rw [u7]
  refine Ex.seq ⟨9, v10 e n m j M D⟩ ?_
  rw [u8, decide_eq_false hj]
  exact Ex.seqX (Ex.condF (by kernel_rfl) (Ex.exit 2 _)) (by simp)

theorem loop2 (x : Nat → AObj) (c0 c1' c3 c4' tv : AV) (n m : Nat) (hn : n ≤ 100) (hm : m ≤ 100) : ∀ (rem k : Nat) (e : Nat → AV) (D : List Nat), k + rem = m →
    ∃ e' D', Ex GG prA (.loop lc) (envM e n m k, UM x c0 c1' c3 c4' tv n k, D) (.exit 2, S (envM e' n m m) [(51, .b false)], UM x c0 c1' c3 c4' tv n m, D')
  | 0, k, e, D, h => by
    have : k = m := by omega
    subst this
    exact ⟨e, D, Ex.loopX (leave2 e (by omega) _ D) (by simp)⟩
  | rem + 1, k, e, D, h => by
    by_cases hk : k < n
    · have h1 := round2 (n := (n : Int)) (m := m) (j := (k : Int)) (b := true) e (D := D) (by omega) (unpin_lt x c0 c1' c3 c4' tv n k hn hk) (.inl ⟨rfl, rfl, by omega⟩)
      rw [wrap_nat k (by omega)] at h1
      obtain ⟨e', D', h2⟩ := loop2 x c0 c1' c3 c4' tv n m hn hm rem (k + 1) _ _ (by omega)
      exact ⟨e', D', Ex.loop h1 h2⟩
    · have h1 := round2 (n := (n : Int)) (m := m) (j := (k : Int)) (b := false) e (D := D) (by omega) (unpin_ge x c0 c1' c3 c4' tv n k (by omega)) (.inr ⟨rfl, rfl, by omega⟩)
      rw [wrap_nat k (by omega)] at h1
      obtain ⟨e', D', h2⟩ := loop2 x c0 c1' c3 c4' tv n m hn hm rem (k + 1) _ _ (by omega)
      exact ⟨e', D', Ex.loop h1 h2⟩
end Go.Adm
