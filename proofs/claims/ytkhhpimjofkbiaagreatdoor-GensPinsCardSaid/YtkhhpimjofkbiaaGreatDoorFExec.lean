/- Part FExec of the proof of GensPins. -/
import Derived.Test.YtkhhpimjofkbiaaGreatDoorFMono
set_option linter.unusedVariables false
set_option linter.unusedSimpArgs false
set_option linter.unusedVariables false
set_option linter.unusedSimpArgs false
namespace Go.Adm
open Go

/-! ### Freezing -/
def FzOK (fz : H → AV → Option FActed) (fzA : List AObj → AV → Option Acted) : Prop := ∀ h x r, WF h → fz h x = some r → Sim h (fzA (absH h) x) r

def SimL (h : H) (a : Option (List AV × List AObj × List Nat)) (r : List AV × H × Nat) : Prop := ∃ D, a = some (r.1, absH r.2.1, D) ∧ Mask D r.2.2 ∧ WF r.2.1 ∧ h.n ≤ r.2.1.n

theorem freezeLF_ok {fz : H → AV → Option FActed} {fzA : List AObj → AV → Option Acted} (hz : FzOK fz fzA) : ∀ (l : List AV) (h : H) (r : List AV × H × Nat), WF h → freezeLF fz l h = some r → SimL h (freezeL fzA (absH h) l) r ∧ r.1.length = l.length := by
  intro l
  induction l with
  | nil =>
    intro h r hw e
    have e' : some ([], h, 0) = some r := e
    cases e'
    exact ⟨⟨[], rfl, Mask.nil, hw, Nat.le_refl _⟩, rfl⟩
  | cons x l ih =>
    intro h r hw e
    have e' : (match fz h x with
      | some (x, h, m) => match freezeLF fz l h with
        | some (r, h, m') => some (x :: r, h, Nat.lor m m')
        | none => none
      | none => none) = some r := e
    split at e'
    · rename_i y h1 m1 hx
      split at e'
      · rename_i q h2 m2 hl
        cases e'
        obtain ⟨D1, s1, s2, s3, s4⟩ := hz _ _ _ hw hx
        obtain ⟨⟨D2, t1, t2, t3, t4⟩, t5⟩ := ih _ _ s3 hl
        refine ⟨⟨D1 ++ D2, ?_, s2.app t2, t3, Nat.le_trans s4 t4⟩, by simp [t5]⟩
        simp only at s1 t1
        simp only [freezeL, s1, t1]
      · cases e'
    · cases e'

theorem freezeL_plain {n : Nat} (M : List AObj) : ∀ (l : List AV), l.all AV.plain = true → freezeL (freeze (n + 1)) M l = some (l, M, []) := by
  intro l
  induction l with
  | nil => intro _; rfl
  | cons x l ih =>
    intro h
    rw [List.all_cons, Bool.and_eq_true] at h
    have hx : freeze (n + 1) M x = some (x, M, []) := by
      have h1 := h.1
      cases x <;> first
        | rfl
        | cases h1
    simp only [freezeL, hx, ih h.2, List.append_nil]

theorem freezeCF_ok {n : Nat} (hz : FzOK (freezeF n) (freeze n)) {h : H} (hw : WF h) {cs : List AV} {r : List AV × H × Nat} (e : freezeCF (freezeF n) h cs = some r) : SimL h (freezeC (freeze n) (absH h) cs) r ∧ r.1.length = cs.length := by
  unfold freezeCF at e
  unfold freezeC
  rw [allB_eq] at e
  cases hb : cs.all AV.plain
  · rw [hb] at e
    simp only [Bool.false_eq_true, if_false]
    exact freezeLF_ok hz _ _ _ hw e
  · rw [hb] at e
    cases e
    rw [if_pos rfl]
    exact ⟨⟨[], rfl, Mask.nil, hw, Nat.le_refl _⟩, rfl⟩

theorem freezeF_ok : ∀ n, FzOK (freezeF n) (freeze n) := by
  intro n
  induction n with
  | zero => intro h x r _ e; cases e
  | succ n ih =>
    intro h x r hw e
    unfold freezeF at e
    split at e
    · rename_i cs
      split at e
      · rename_i q h1 m1 hq
        cases e
        by_cases hb : (Nat.blt 0 n && allB AV.plain cs) = true
        · rw [hb] at hq
          cases hq
          rw [Bool.and_eq_true, blt_iff, allB_eq] at hb
          obtain ⟨k, rfl⟩ : ∃ k, n = k + 1 := ⟨n - 1, by omega⟩
          refine ⟨[], ?_, Mask.nil, hw, Nat.le_refl _⟩
          show (match freezeL (freeze (k + 1)) (absH h) cs with | some (cs, M, D) => some (AV.agg cs, M, D) | none => none) = _
          rw [freezeL_plain (absH h) cs hb.2]
        · rw [Bool.not_eq_true] at hb
          rw [hb] at hq
          obtain ⟨⟨D, s1, s2, s3, s4⟩, _⟩ := freezeLF_ok ih _ _ _ hw hq
          refine ⟨D, ?_, s2, s3, s4⟩
          simp only [freeze]
          rw [s1]
      · cases e
    · rename_i cs
      split at e
      · rename_i q h1 m1 hq
        cases e
        obtain ⟨⟨D, s1, s2, s3, s4⟩, _⟩ := freezeLF_ok ih _ _ _ hw hq
        refine ⟨D, ?_, s2, s3, s4⟩
        simp only [freeze]
        rw [s1]
      · cases e
    · rename_i o ez ver off len
      split at e
      · rename_i ec cs v fzc hg
        split at e
        · rename_i hc
          split at e
          · rename_i cs' h1 m1 hq
            obtain ⟨⟨D, s1, s2, s3, s4⟩, s5⟩ := freezeCF_ok ih hw hq
            simp only at s1 s2 s3 s4 s5
            split at e
            · rename_i e' _ v' fz2 hg2
              split at e
              · rename_i hc2
                split at e
                · rename_i q hcut
                  cases e
                  obtain ⟨c1, c2⟩ := cutO_ok hcut
                  obtain ⟨w1, w2⟩ := s3.set (o := o) (x := .buf ec cs' v cs'.length) (get_some hg2).1
                  refine ⟨o :: D, ?_, (Mask.one o).app s2, w1, s4⟩
                  simp only [freeze, absH_get, hg]
                  rw [if_pos ⟨hc.1, hc.2, by omega⟩, s1]
                  simp only [absH_get, hg2]
                  rw [if_pos hc2, c2, w2]
                · cases e
              · cases e
            · cases e
          · cases e
        · cases e
      · cases e
    · rename_i h1 h2 h3
      cases e
      refine ⟨[], ?_, Mask.nil, hw, Nat.le_refl _⟩
      unfold freeze
      split
      · exact absurd rfl (h1 _)
      · exact absurd rfl (h2 _)
      · exact absurd rfl (h3 _ _ _ _ _)
      · rfl

/-! ### Operations -/
section
variable {G : Prg} {prA : Prim} {nt dep : Nat}

def CallSim (G : Prg) (prA : Prim) (call : FCall) : Prop := ∀ f args h r, WF h → call f args h = some r → ∃ n, Sim h (callF G prA n f args (absH h)) r

theorem stepF_ok (hd : nt ≤ 2 ^ dep) {call : FCall} (hc : CallSim G prA call) {o : Oper} {env : T AV} {h : H} {r : FActed} (hw : WF h) (e : stepF G nt dep call o env h = some r) :
    ∃ n, ∀ D0, Sim h (step G prA n o (toEnv nt dep env, absH h, D0)) r := by
  unfold stepF at e
  rw [fev_eq] at e
  split at e
  · rename_i v hq
    cases e
    refine ⟨1, fun D0 => ?_⟩
    simp only [step, quietF_ok hw hq]
    exact Sim.same hw v
  · rename_i hq
    split at e
    · rename_i r' ha
      cases e
      refine ⟨1, fun D0 => ?_⟩
      simp only [step, actF_quiet ha]
      obtain ⟨D, s1, s2⟩ := actF_ok hw ha
      rw [s1]
      exact ⟨D, rfl, s2⟩
    · split at e
      · rename_i c hop
        split at e
        · rename_i f hcal
          split at e
          · rename_i f' cap hf
            obtain ⟨n, hn⟩ := hc _ _ _ _ hw e
            refine ⟨n + 1, fun D0 => ?_⟩
            have hqn : quietOp G (absH h) (toEnv nt dep env) o = none := by
              simp only [quietF, hop, hcal, hf] at hq
              simp only [quietOp, hop, hcal, hf]
              exact hq
            have han : actOp G (absH h) (toEnv nt dep env) o = none := by simp only [actOp, hop, hcal]
            simp only [step, hqn, han, hop, callee, hcal, hf]
            exact hn
          · cases e
        · cases e
      · cases e

theorem wantedF_eq (o : Oper) (all : Array Oper) (env : T AV) : wantedF nt dep o all env = wanted o all (toEnv nt dep env) := by
  unfold wantedF wanted
  cases hg : o.guard with
  | none => rfl
  | some p =>
    obtain ⟨j, want⟩ := p
    simp only
    rw [nth_eq, Array.getElem?_toList]
    cases hj : all[j]? with
    | none => rfl
    | some o' =>
      simp only [Option.bind_some]
      cases hd : o'.dst with
      | none => rfl
      | some d =>
        simp only [toEnv_len]
        have := toEnv_get nt dep env d
        by_cases hlt : d < nt
        · rw [blt_iff.2 hlt] at this ⊢
          rw [if_pos hlt, this]
          rfl
        · have hb : Nat.blt d nt = false := by rw [← Bool.not_eq_true, blt_iff]; exact hlt
          rw [hb, if_neg hlt]
          rfl

/-- The fast machine's state and the plain one's. -/
structure RelSt (nt dep : Nat) (s : FSt) (a : St) : Prop where
  env : a.1 = toEnv nt dep s.1
  mem : a.2.1 = absH s.2.1
  mask : Mask a.2.2 s.2.2
  wf : WF s.2.1

theorem opsF_ok (hd : nt ≤ 2 ^ dep) {call : FCall} (hc : CallSim G prA call) (all : Array Oper) : ∀ (l : List Oper) (s s' : FSt) (a : St), RelSt nt dep s a → opsF G nt dep call all l s = some s' →
    ∃ n a', execOps G prA n all l a = some a' ∧ RelSt nt dep s' a' ∧ s.2.1.n ≤ s'.2.1.n := by
  intro l
  induction l with
  | nil =>
    intro s s' a hr e
    have e' : some s = some s' := e
    cases e'
    exact ⟨1, a, rfl, hr, Nat.le_refl _⟩
  | cons o l ih =>
    intro s s' a hr e
    obtain ⟨env, h, m⟩ := s
    obtain ⟨aenv, aM, aD⟩ := a
    have hre := hr.env; have hrm := hr.mem; have hrk := hr.mask; have hrw := hr.wf
    simp only at hre hrm hrk hrw
    subst hre; subst hrm
    have e' : (match wantedF nt dep o all env with
      | none => none
      | some false => opsF G nt dep call all l (putF nt dep env o.dst .un, h, m)
      | some true => match stepF G nt dep call o env h with
        | some (v, h, m') => opsF G nt dep call all l (putF nt dep env o.dst v, h, Nat.lor m' m)
        | none => none) = some s' := e
    rw [wantedF_eq] at e'
    split at e'
    · cases e'
    · rename_i hwt
      obtain ⟨n, a', h1, h2, h3⟩ := ih (putF nt dep env o.dst .un, h, m) s' (put (toEnv nt dep env) o.dst .un, absH h, aD) ⟨(putF_eq hd _ _ _).symm, rfl, hrk, hrw⟩ e'
      refine ⟨n + 1, a', ?_, h2, h3⟩
      simp only [execOps, hwt]
      exact h1
    · rename_i hwt
      split at e'
      · rename_i v h1 m1 hs
        obtain ⟨n1, hn1⟩ := stepF_ok hd hc hrw hs
        obtain ⟨D, s1, s2, s3, s4⟩ := hn1 aD
        simp only at s1 s2 s3 s4
        obtain ⟨n, a', q1, q2, q3⟩ := ih (putF nt dep env o.dst v, h1, Nat.lor m1 m) s' (put (toEnv nt dep env) o.dst v, absH h1, D ++ aD) ⟨(putF_eq hd _ _ _).symm, rfl, s2.app hrk, s3⟩ e'
        refine ⟨max n n1 + 1, a', ?_, q2, Nat.le_trans s4 q3⟩
        simp only [execOps, hwt, step_le (Nat.le_max_right n n1) s1]
        exact execOps_le (Nat.le_max_left n n1) q1
      · cases e'
end
end Go.Adm
