/- Part GPins3 of the proof of GensPins. -/
import Derived.Test.YtkhhpimjofkbiaaGreatDoorGPins2
set_option linter.unusedVariables false
set_option linter.unusedSimpArgs false
set_option maxRecDepth 1000000
set_option linter.unusedVariables false
namespace Go.Adm
open Go Go.Proofs

theorem wrap_small {x : Int} (h0 : 0 ≤ x) (h1 : x ≤ 1000) : IntKind.i64.wrap x = x := by
  have p1 : (2 : Int) ^ 64 = 18446744073709551616 := by decide
  have p2 : (2 : Int) ^ (64 - 1) = 9223372036854775808 := by decide
  simp only [IntKind.wrap, IntKind.bits, IntKind.signed, Bool.true_and, decide_eq_true_eq, p1, p2]
  split <;> omega

section
variable (x : Nat → AObj) (c0 c1' c3 c4' tv : AV)
def PM : Nat → List AObj
  | 0 => mkM x c0 c1' c3 c4' tv [] 0
  | k + 1 => mkM x c0 c1' c3 c4' tv (pin1 (.ofNat (k + 1))) 1
def UM (n j : Nat) : List AObj := match n with
  | 0 => mkM x c0 c1' c3 c4' tv [] 0
  | k + 1 => mkM x c0 c1' c3 c4' tv (pin1 (.ofNat (k + 1 - j))) 1
theorem UM0 (n : Nat) : UM x c0 c1' c3 c4' tv n 0 = PM x c0 c1' c3 c4' tv n := by cases n <;> rfl

theorem pin_step (k : Nat) (hk : k ≤ 100) : callF GG prA 200 20 [.ptr 10 0] (PM x c0 c1' c3 c4' tv k) = some (.i .i64 1, PM x c0 c1' c3 c4' tv (k + 1), [8]) := by
  cases k with
  | zero => exact pin0 x c0 c1' c3 c4' tv
  | succ k =>
    have h1 := pinS x c0 c1' c3 c4' tv (k + 1)
    have h2 : IntKind.i64.wrap (.ofNat (k + 1) + 1) = .ofNat (k + 1 + 1) := by
      rw [wrap_small (by simp only [Int.ofNat_eq_natCast]; omega) (by simp only [Int.ofNat_eq_natCast]; omega)]
      simp only [Int.ofNat_eq_natCast]; omega
    rw [h2] at h1
    exact h1

theorem unpin_lt (n j : Nat) (hn : n ≤ 100) (hj : j < n) : callF GG prA 300 21 [.ptr 10 0, .i .i64 1] (UM x c0 c1' c3 c4' tv n j) = some (.i .i64 0, UM x c0 c1' c3 c4' tv n (j + 1), [9, 8]) := by
  cases n with
  | zero => omega
  | succ n =>
    obtain ⟨k, hk⟩ : ∃ k, n + 1 - j = k + 1 := ⟨n - j, by omega⟩
    have h1 := unpinS x c0 c1' c3 c4' tv k
    have h2 : IntKind.i64.wrap (.ofNat (k + 1) - 1) = .ofNat k := by
      rw [wrap_small (by simp only [Int.ofNat_eq_natCast]; omega) (by simp only [Int.ofNat_eq_natCast]; omega)]
      simp only [Int.ofNat_eq_natCast]; omega
    have h3 : n + 1 - (j + 1) = k := by omega
    rw [h2] at h1
    show callF GG prA 300 21 [.ptr 10 0, .i .i64 1] (mkM x c0 c1' c3 c4' tv (pin1 (.ofNat (n + 1 - j))) 1) = some (.i .i64 0, mkM x c0 c1' c3 c4' tv (pin1 (.ofNat (n + 1 - (j + 1)))) 1, [9, 8])
    rw [hk, h3]
    exact h1
theorem unpin_ge (n j : Nat) (hj : n ≤ j) : callF GG prA 200 21 [.ptr 10 0, .i .i64 1] (UM x c0 c1' c3 c4' tv n j) = some (.i .i64 43, UM x c0 c1' c3 c4' tv n (j + 1), []) := by
  cases n with
  | zero => exact unpinN x c0 c1' c3 c4' tv
  | succ n =>
    have h2 : n + 1 - j = 0 := by omega
    have h3 : n + 1 - (j + 1) = 0 := by omega
    show callF GG prA 200 21 [.ptr 10 0, .i .i64 1] (mkM x c0 c1' c3 c4' tv (pin1 (.ofNat (n + 1 - j))) 1) = some (.i .i64 43, mkM x c0 c1' c3 c4' tv (pin1 (.ofNat (n + 1 - (j + 1)))) 1, [])
    rw [h2, h3]
    exact unpin0 x c0 c1' c3 c4' tv
theorem live_0 : (callF GG prA 400 22 [.ptr 10 0] (mkM x c0 c1' c3 c4' tv [] 0)).map (·.1) = some (.sl [.i .i64 1, .i .i64 0] 1 .any) := by kernel_rfl
theorem live_p (p : Int) : (callF GG prA 400 22 [.ptr 10 0] (mkM x c0 c1' c3 c4' tv (pin1 p) 1)).map (·.1) = some (.sl [.i .i64 1, .i .i64 p] 1 .any) := by kernel_rfl
theorem liveU (n j : Nat) : ∃ M' D', callF GG prA 400 22 [.ptr 10 0] (UM x c0 c1' c3 c4' tv n j) = some (.sl [.i .i64 1, .i .i64 (.ofNat (n - j))] 1 .any, M', D') := by
  have key : ∀ {o : Option Acted} {v : AV}, o.map (·.1) = some v → ∃ M' D', o = some (v, M', D') := fun h => by
    obtain ⟨⟨a, b, c⟩, h1, h2⟩ := of_map h
    exact ⟨b, c, by rw [h1, ← h2]⟩
  cases n with
  | zero =>
    have := key (live_0 x c0 c1' c3 c4' tv)
    rwa [show (Int.ofNat (0 - j)) = 0 by rw [Nat.zero_sub]; rfl]
  | succ n => exact key (live_p x c0 c1' c3 c4' tv (.ofNat (n + 1 - j)))
end

/-- A frame within the loops. -/
def envL (e : Nat → AV) (n m i : Int) : List AV := (List.range 84).map fun j => bif Nat.beq j 0 then .i .i64 n else bif Nat.beq j 1 then .i .i64 m else bif Nat.beq j 5 then .ptr 10 0 else bif Nat.beq j 42 then .i .i64 n else bif Nat.beq j 43 then .i .i64 i else e j
abbrev reE (l : List AV) : Nat → AV := fun j => l.getD j .un
noncomputable def r9 := Code.ops' (Code.fst' (Code.in' (Code.in' (Code.snd' (Code.fst' t5)))))
noncomputable def lb := Code.in' (Code.in' (Code.snd' (Code.fst' t5)))
noncomputable def lb2 := Code.snd' lb
noncomputable def lb3 := Code.snd' lb2
noncomputable def lb4 := Code.in' (Code.fst' lb3)
noncomputable def r10 := Code.ops' (Code.fst' lb4)
theorem s6 : t5 = .seq (.seq (Code.fst' (Code.fst' t5)) (.block 0 (.loop lb))) t6 := by kernel_rfl
theorem s7 : lb = .seq (Code.fst' lb) lb2 := by kernel_rfl
theorem s8 : lb2 = .seq (.cond (.tmp 44) .skip (.exit 0)) lb3 := by kernel_rfl
theorem s9 : lb3 = .seq (.block 1 lb4) (Code.snd' lb3) := by kernel_rfl
theorem s10 : lb4 = .seq (.region 10 r10 false) (.cond (.tmp 47) (Code.tru' (Code.snd' lb4)) .skip) := by kernel_rfl
theorem f9 (n m : Int) (d r : AV) (M : List AObj) (D : List Nat) : exec GG prA 9 (Code.fst' (Code.fst' t5)) (eK n m d r, M, D) = some (.normal, envL (reE (eK n m d r)) n m 0, M, D) := by kernel_rfl
theorem f10 (e : Nat → AV) (n m i : Int) (M : List AObj) (D : List Nat) : exec GG prA 9 (Code.fst' lb) (envL e n m i, M, D) = some (.normal, S (envL e n m i) [(44, .b (decide (i < n)))], M, D) := by kernel_rfl
abbrev x1 (e : Nat → AV) (n m i : Int) : List AV := S (envL e n m i) [(44, .b true), (45, .ptr 10 0)]
theorem f11 (e : Nat → AV) (n m i : Int) (M : List AObj) (D : List Nat) : ExO GG prA r10 (r10.toList.take 1) (S (envL e n m i) [(44, .b true)], M, D) (x1 e n m i, M, D) := ⟨9, by kernel_rfl⟩
noncomputable def op10 := r10.getD 1 default
theorem l10 : r10.toList = r10.toList.take 1 ++ ([op10] ++ r10.toList.drop 2) := by kernel_rfl
theorem w10 (e : Nat → AV) (n m i : Int) : wanted op10 r10 (x1 e n m i) = some true := by kernel_rfl
theorem o10 : op10.op = .call (callOf op10) := by kernel_rfl
theorem q10 (e : Nat → AV) (n m i : Int) (M : List AObj) : quietOp GG M (x1 e n m i) op10 = none := by kernel_rfl
theorem a10 (e : Nat → AV) (n m i : Int) (M : List AObj) : actOp GG M (x1 e n m i) op10 = none := by kernel_rfl
theorem c10 (e : Nat → AV) (n m i : Int) : callee (x1 e n m i) (callOf op10) = some (20, [.ptr 10 0]) := by kernel_rfl
abbrev x2 (e : Nat → AV) (n m i : Int) : List AV := S (x1 e n m i) [(46, .i .i64 1)]
theorem d10 (e : Nat → AV) (n m i : Int) : put (x1 e n m i) op10.dst (.i .i64 1) = x2 e n m i := by kernel_rfl
abbrev x3 (e : Nat → AV) (n m i : Int) : List AV := S (x2 e n m i) [(47, .b false)]
theorem f12 (e : Nat → AV) (n m i : Int) (M : List AObj) (D : List Nat) : ExO GG prA r10 (r10.toList.drop 2) (x2 e n m i, M, D) (x3 e n m i, M, D) := ⟨9, by kernel_rfl⟩
abbrev x4 (e : Nat → AV) (n m i : Int) : List AV := S (x3 e n m i) [(48, .i .i64 (IntKind.i64.wrap (i + 1)))]
theorem f13 (e : Nat → AV) (n m i : Int) (M : List AObj) (D : List Nat) : exec GG prA 9 (Code.snd' lb3) (x3 e n m i, M, D) = some (.normal, envL (reE (x4 e n m i)) n m (IntKind.i64.wrap (i + 1)), M, D) := by kernel_rfl

/-- One round of the first loop. -/
theorem round1 (e : Nat → AV) {n m i : Int} (hi : i < n) {N : Nat} {M M' : List AObj} {D D' : List Nat} (h : callF GG prA N 20 [.ptr 10 0] M = some (.i .i64 1, M', D')) :
    Ex GG prA lb (envL e n m i, M, D) (.normal, envL (reE (x4 e n m i)) n m (IntKind.i64.wrap (i + 1)), M', D' ++ D) := by
  rw [s7]
  refine Ex.seq ⟨9, f10 e n m i M D⟩ ?_
  rw [s8, decide_eq_true hi]
  refine Ex.seq (Ex.condT (by kernel_rfl) (Ex.skip _)) ?_
  rw [s9]
  refine Ex.seq (Ex.block ?_) ⟨9, f13 e n m i M' (D' ++ D)⟩
  rw [s10]
  refine Ex.seq (Ex.region ?_) (Ex.condF (by kernel_rfl) (Ex.skip _))
  rw [l10]
  exact ExO.app (f11 e n m i M D) (ExO.app (ExO.one' (w10 e n m i) (step_call o10 (q10 e n m i M) (a10 e n m i M) (c10 e n m i) h) (d10 e n m i)) (f12 e n m i M' _))
theorem leave1 (e : Nat → AV) {n m i : Int} (hi : ¬i < n) (M : List AObj) (D : List Nat) : Ex GG prA lb (envL e n m i, M, D) (.exit 0, S (envL e n m i) [(44, .b false)], M, D) := by
  rw [s7]
  refine Ex.seq ⟨9, f10 e n m i M D⟩ ?_
  rw [s8, decide_eq_false hi]
  exact Ex.seqX (Ex.condF (by kernel_rfl) (Ex.exit 0 _)) (by simp)
end Go.Adm
