/- Part FNum of the proof of GensPins. -/
import Derived.Test.YtkhhpimjofkbiaaGreatDoorFHeap
set_option linter.unusedVariables false
set_option linter.unusedSimpArgs false
set_option linter.unusedVariables false
set_option linter.unusedSimpArgs false
namespace Go.Adm
open Go

theorem blt_dec (a b : Nat) : Nat.blt a b = decide (a < b) := by
  rw [Bool.eq_iff_iff]; simp [blt_iff]
theorem ble_dec (a b : Nat) : Nat.ble a b = decide (a ≤ b) := by
  rw [Bool.eq_iff_iff]; simp [Nat.ble_eq]
theorem beq_dec (a b : Nat) : Nat.beq a b = decide (a = b) := by
  rw [Bool.eq_iff_iff]; simp [Nat.beq_eq]

theorem intLt_eq (x y : Int) : intLt x y = decide (x < y) := by
  cases x <;> cases y <;> simp only [intLt, blt_dec] <;> rw [Bool.eq_iff_iff] <;> simp <;> omega
theorem intLe_eq (x y : Int) : intLe x y = decide (x ≤ y) := by
  cases x <;> cases y <;> simp only [intLe, ble_dec] <;> rw [Bool.eq_iff_iff] <;> simp <;> omega
theorem intEq_eq (x y : Int) : intEq x y = (x == y) := by
  cases x <;> cases y <;> simp only [intEq, beq_dec] <;> rw [Bool.eq_iff_iff] <;> simp <;> omega

theorem wrap_neg (b h : Int) (m : Nat) (hb : b = 2 * h) (hm : (m : Int) < h) :
    (let q := Int.negSucc m % b; if (true && decide (q ≥ h)) = true then q - b else q) = Int.negSucc m := by
  have e : Int.negSucc m % b = Int.negSucc m + b := by
    rw [← Int.add_emod_right, Int.emod_eq_of_lt]
    · rw [Int.negSucc_eq]; omega
    · rw [Int.negSucc_eq]; omega
  simp only [e, Bool.true_and, decide_eq_true_eq]
  have : Int.negSucc m = -((m : Int) + 1) := Int.negSucc_eq m
  rw [if_pos (by omega)]
  omega

set_option maxRecDepth 100000 in
theorem wrapF_eq (k : IntKind) (z : Int) : wrapF k z = k.wrap z := by
  cases z with
  | ofNat m =>
    simp only [wrapF]
    by_cases h : m < halfOf k
    · rw [blt_iff.2 h]
      simp only [cond_true]
      cases k <;> simp only [halfOf] at h <;> simp [IntKind.wrap, IntKind.bits, IntKind.signed] <;> omega
    · have : Nat.blt m (halfOf k) = false := by rw [← Bool.not_eq_true, blt_iff]; exact h
      rw [this]
      simp only [cond_false]
      cases k <;> simp only [isSig, cond_true, cond_false, halfOf] <;> first
        | rfl
        | (simp only [IntKind.wrap, IntKind.bits, IntKind.signed, Bool.false_and, Bool.false_eq_true, if_false]; rfl)
  | negSucc m =>
    simp only [wrapF]
    by_cases h : (isSig k && Nat.blt m (halfOf k)) = true
    · rw [h]
      simp only [cond_true]
      rw [Bool.and_eq_true, blt_iff] at h
      obtain ⟨h1, h⟩ := h
      cases k with
      | i8 => exact (wrap_neg 256 128 m (by decide) (by simp only [halfOf] at h; omega)).symm
      | i16 => exact (wrap_neg 65536 32768 m (by decide) (by simp only [halfOf] at h; omega)).symm
      | i32 => exact (wrap_neg 4294967296 2147483648 m (by decide) (by simp only [halfOf] at h; omega)).symm
      | i64 => exact (wrap_neg 18446744073709551616 9223372036854775808 m (by decide) (by simp only [halfOf] at h; omega)).symm
      | u8 => exact absurd h1 (by decide)
      | u16 => exact absurd h1 (by decide)
      | u32 => exact absurd h1 (by decide)
      | u64 => exact absurd h1 (by decide)
    · rw [Bool.not_eq_true] at h
      rw [h]
      rfl

theorem kindB_iff {k k' : IntKind} : kindB k k' = true ↔ k = k' := by cases k <;> cases k' <;> simp [kindB]

theorem intBinF_eq (op : BinOp) (k : IntKind) (x y : Int) : intBinF op k x y = intBin op k x y := by
  cases op <;> simp only [intBinF, intBin, wrapF_eq, intLt_eq, intLe_eq, intEq_eq] <;> try rfl
  · cases x with
    | ofNat a => cases y with
      | ofNat b =>
        simp only
        cases hs : isSig k
        · simp only [cond_false, Option.some.injEq, AV.i.injEq, true_and]
          have hb : halfOf k = 2 ^ k.bits := by cases k <;> simp [isSig] at hs <;> rfl
          have e1 : (BitVec.ofInt k.bits (Int.ofNat a) ^^^ BitVec.ofInt k.bits (Int.ofNat b)).toNat = (a ^^^ b) % 2 ^ k.bits := by
            simp only [Int.ofNat_eq_natCast, BitVec.ofInt_natCast, BitVec.toNat_xor, BitVec.toNat_ofNat]
            exact (Nat.xor_mod_two_pow).symm
          rw [e1, hb]
          have : k.signed = false := by cases k <;> simp [isSig] at hs <;> rfl
          simp only [IntKind.wrap, this, Bool.false_and, Bool.false_eq_true, if_false]
          have hlt : (a ^^^ b) % 2 ^ k.bits < 2 ^ k.bits := Nat.mod_lt _ (Nat.two_pow_pos _)
          show Int.ofNat ((a ^^^ b) % 2 ^ k.bits) = _
          rw [show ((2 : Int) ^ k.bits) = ((2 ^ k.bits : Nat) : Int) by simp]
          show _ = Int.ofNat ((a ^^^ b) % 2 ^ k.bits) % ((2 ^ k.bits : Nat) : Int)
          rw [Int.ofNat_eq_natCast, ← Int.natCast_emod, Nat.mod_mod]
        · rfl
      | negSucc b => rfl
    | negSucc a => rfl

theorem eqBytes_eq : ∀ a b : List UInt8, eqBytes a b = (a == b)
  | [], [] => rfl
  | [], _ :: _ => rfl
  | _ :: _, [] => rfl
  | x :: a, y :: b => by
    show (bif Nat.beq x.toNat y.toNat then eqBytes a b else false) = (x :: a == y :: b)
    rw [eqBytes_eq a b, beq_dec, List.cons_beq_cons]
    by_cases h : x.toNat = y.toNat
    · have : x = y := UInt8.toNat_inj.1 h
      subst this
      simp
    · have : (x == y) = false := by
        rw [beq_eq_false_iff_ne]
        exact fun e => h (by rw [e])
      simp [h, this]

theorem strBinF_eq (op : BinOp) (x y : List UInt8) : strBinF op x y = strBin op x y := by
  cases op <;> simp only [strBinF, strBin, eqBytes_eq]

theorem kcond {α : Type} (k k' : IntKind) (x : Option α) : (bif kindB k k' then x else none) = if k = k' then x else none := by
  by_cases e : k = k'
  · rw [kindB_iff.2 e, if_pos e]; rfl
  · have : kindB k k' = false := by rw [← Bool.not_eq_true, kindB_iff]; exact e
    rw [this, if_neg e]; rfl

theorem binopF_eq (d : TyD) (lit : Bool) (op : BinOp) (x y : AV) : binopF d lit op x y = binop d lit op x y := by
  unfold binopF
  split
  · split
    · cases op <;> simp only [binop, kcond, intBinF_eq]
    · rfl
  · split
    · rw [strBinF_eq]; rfl
    · rfl
  · rfl
end Go.Adm
