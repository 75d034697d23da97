/- Part FDrawn of the proof of GensPins. -/
import Derived.Test.YtkhhpimjofkbiaaGreatDoorFExec
set_option linter.unusedVariables false
set_option linter.unusedSimpArgs false
set_option linter.unusedVariables false
set_option linter.unusedSimpArgs false
namespace Go.Adm
open Go

section
variable {G : Prg} {prA : Prim} {nt dep : Nat}

abbrev stpA (G : Prg) (prA : Prim) (n : Nat) : Stp := fun o env M => step G prA n o (env, M, [])
theorem stpA_le {n m : Nat} (h : n ≤ m) : SLe (stpA G prA n) (stpA G prA m) := fun o env M r e => step_le h e

structure Rel1 (r : FActed) (a : Acted) : Prop where
  val : a.1 = r.1
  mem : a.2.1 = absH r.2.1
  mask : Mask a.2.2 r.2.2
  wf : WF r.2.1

theorem Sim.rel {h : H} {a : Acted} {r : FActed} (s : Sim h (some a) r) : Rel1 r a ∧ h.n ≤ r.2.1.n := by
  obtain ⟨D, s1, s2, s3, s4⟩ := s
  cases s1
  exact ⟨⟨rfl, rfl, s2, s3⟩, s4⟩

inductive RelR : List FActed → List Acted → Prop
  | nil : RelR [] []
  | cons {r : FActed} {a : Acted} {rs : List FActed} {as : List Acted} (h : Rel1 r a) (t : RelR rs as) : RelR (r :: rs) (a :: as)

theorem RelR.len {rs : List FActed} {as : List Acted} (h : RelR rs as) : rs.length = as.length := by
  induction h with
  | nil => rfl
  | cons _ _ ih => simp [ih]

theorem traceF_ok (hd : nt ≤ 2 ^ dep) {call : FCall} (hc : CallSim G prA call) (all : Array Oper) : ∀ (l : List Oper) (env : T AV) (h : H) (rs : List FActed), WF h → traceF G nt dep call all l env h = some rs →
    ∃ n as, traceL (stpA G prA n) all l (toEnv nt dep env) (absH h) = some as ∧ RelR rs as := by
  intro l
  induction l with
  | nil =>
    intro env h rs hw e
    have e' : some ([] : List FActed) = some rs := e
    cases e'
    exact ⟨0, [], rfl, .nil⟩
  | cons o l ih =>
    intro env h rs hw e
    have e' : (match wantedF nt dep o all env with
      | none => none
      | some false => match traceF G nt dep call all l (putF nt dep env o.dst .un) h with
        | some l => some ((.un, h, 0) :: l)
        | none => none
      | some true => match stepF G nt dep call o env h with
        | some (v, h', m) => match traceF G nt dep call all l (putF nt dep env o.dst v) h' with
          | some l => some ((v, h', m) :: l)
          | none => none
        | none => none) = some rs := e
    rw [wantedF_eq] at e'
    split at e'
    · cases e'
    · rename_i hwt
      split at e'
      · rename_i q hq
        cases e'
        obtain ⟨n, as, h1, h2⟩ := ih _ _ _ hw hq
        rw [putF_eq hd] at h1
        refine ⟨n, (.un, absH h, []) :: as, ?_, .cons ⟨rfl, rfl, Mask.nil, hw⟩ h2⟩
        simp only [traceL, hwt, h1]
      · cases e'
    · rename_i hwt
      split at e'
      · rename_i v h' m hs
        split at e'
        · rename_i q hq
          cases e'
          obtain ⟨n1, hn1⟩ := stepF_ok hd hc hw hs
          obtain ⟨D, s1, s2, s3, s4⟩ := hn1 []
          simp only at s1 s2 s3 s4
          obtain ⟨n, as, h1, h2⟩ := ih _ _ _ s3 hq
          rw [putF_eq hd] at h1
          refine ⟨max n n1, (v, absH h', D) :: as, ?_, .cons ⟨rfl, rfl, s2, s3⟩ h2⟩
          have e1 : stpA G prA (max n n1) o (toEnv nt dep env) (absH h) = some (v, absH h', D) := step_le (Nat.le_max_right n n1) s1
          simp only [traceL, hwt, e1]
          rw [traceL_mono (stpA_le (Nat.le_max_left n n1)) _ _ _ _ _ h1]
        · cases e'
      · cases e'

theorem chainsF_eq : ∀ {rs : List FActed} {as : List Acted} (hr : RelR rs as) (i : Nat) (h : H), chainsF rs i h = chainsL i (absH h) as := by
  intro rs as hr
  induction hr with
  | nil => intro i h; rfl
  | cons h1 _ ih =>
    rename_i r a rs as t
    intro i h
    show (bif staysF h r then chainsF rs (i + 1) r.2.1 else i :: chainsF rs (i + 1) r.2.1) = _
    have hs : staysF h r = stays (absH h) a := by
      unfold staysF stays
      rw [h1.mask.empty, h1.mem, absH_len, absH_len, beq_dec, beq_dec, Bool.eq_iff_iff]
      simp
    simp only [chainsL]
    rw [hs, ih, ← h1.mem]
    cases stays (absH h) a <;> rfl

theorem RelR.get {rs : List FActed} {as : List Acted} (hr : RelR rs as) : ∀ p : Nat, (rs[p]? = none ∧ as[p]? = none) ∨ ∃ r a, rs[p]? = some r ∧ as[p]? = some a ∧ Rel1 r a := by
  induction hr with
  | nil => intro p; exact .inl ⟨by simp, by simp⟩
  | cons h _ ih =>
    intro p
    cases p with
    | zero => exact .inr ⟨_, _, rfl, rfl, h⟩
    | succ p => simpa using ih p

theorem heapAt_ok {rs : List FActed} {as : List Acted} (hr : RelR rs as) {h : H} (hw : WF h) (p : Nat) : absH (heapAt h rs p) = matAt (absH h) as p ∧ WF (heapAt h rs p) := by
  cases p with
  | zero => exact ⟨rfl, hw⟩
  | succ p =>
    simp only [heapAt, matAt, nth_eq]
    rcases hr.get p with ⟨h1, h2⟩ | ⟨r, a, h1, h2, h3⟩
    · rw [h1, h2]; exact ⟨rfl, hw⟩
    · rw [h1, h2]; exact ⟨h3.mem.symm, h3.wf⟩

theorem all_ex {α : Type} {P : Nat → α → Prop} (hm : ∀ n m x, n ≤ m → P n x → P m x) : ∀ l : List α, (∀ x ∈ l, ∃ n, P n x) → ∃ n, ∀ x ∈ l, P n x
  | [], _ => ⟨0, fun _ h => by cases h⟩
  | x :: l, h => by
    obtain ⟨n1, h1⟩ := h x (by simp)
    obtain ⟨n2, h2⟩ := all_ex hm l fun y hy => h y (by simp [hy])
    refine ⟨max n1 n2, fun y hy => ?_⟩
    rcases List.mem_cons.1 hy with rfl | hy
    · exact hm _ _ _ (Nat.le_max_left _ _) h1
    · exact hm _ _ _ (Nat.le_max_right _ _) (h2 y hy)

theorem chk1F_ok (hd : nt ≤ 2 ^ dep) {call : FCall} (hc : CallSim G prA call) {all : Array Oper} {tab cs W : List Nat} {h : H} (hw : WF h) {rs : List FActed} {as : List Acted} (hr : RelR rs as) {i : Nat} {o : Oper} {r : FActed} {a : Acted} (h1 : Rel1 r a) {env : T AV}
    (e : chk1F G nt dep call all tab cs W h rs i o r env = true) : ∃ n, chk1 (stpA G prA n) all tab cs W (absH h) as i o a (toEnv nt dep env) = true := by
  unfold chk1F at e
  rw [Bool.and_eq_true] at e
  obtain ⟨e1, e2⟩ := e
  have key : ∃ n, (if cs.contains i then isAlloc o || W.all fun p => p == i
   else W.all fun p => (cs.all fun c => !(decide (i ≤ c) && decide (c < p)) && !(decide (p ≤ c) && decide (c < i))) || pureOp o ||
    (match wanted o all (toEnv nt dep env) with
     | some false => true
     | _ => match stpA G prA n o (toEnv nt dep env) (matAt (absH h) as p) with
      | some (v, M', D) => AV.eqb v a.1 && D.isEmpty && M'.length == (matAt (absH h) as p).length
      | none => false)) = true := by
    split at e2
    · rename_i hcon
      refine ⟨0, ?_⟩
      rw [if_pos hcon]
      exact e2
    · rename_i hcon
      rw [List.all_eq_true] at e2
      obtain ⟨n, hn⟩ := all_ex (P := fun n p => ((cs.all fun c => !(decide (i ≤ c) && decide (c < p)) && !(decide (p ≤ c) && decide (c < i))) || pureOp o ||
        (match wanted o all (toEnv nt dep env) with
         | some false => true
         | _ => match stpA G prA n o (toEnv nt dep env) (matAt (absH h) as p) with
          | some (v, M', D) => AV.eqb v a.1 && D.isEmpty && M'.length == (matAt (absH h) as p).length
          | none => false)) = true) (fun n m p hnm hp => by
            rw [Bool.or_eq_true] at hp ⊢
            refine hp.imp id fun h3 => ?_
            split at h3
            · rfl
            · split at h3
              · rename_i v M' D hs
                rw [stpA_le hnm _ _ _ _ hs]
                exact h3
              · cases h3) W (fun p hp => by
            have h2 := e2 p hp
            rw [Bool.or_eq_true] at h2
            rcases h2 with h2 | h2
            · exact ⟨0, by rw [Bool.or_eq_true]; exact .inl h2⟩
            · rw [wantedF_eq] at h2
              split at h2
              · rename_i hwt
                exact ⟨0, by rw [Bool.or_eq_true]; exact .inr (by rw [hwt])⟩
              · rename_i hwt
                split at h2
                · rename_i v h' m hs
                  obtain ⟨g1, g2⟩ := heapAt_ok hr hw p
                  obtain ⟨n, hn⟩ := stepF_ok hd hc g2 hs
                  obtain ⟨D, s1, s2, s3, s4⟩ := hn []
                  simp only at s1 s2 s3 s4
                  rw [g1] at s1
                  refine ⟨n, ?_⟩
                  rw [Bool.or_eq_true]
                  refine .inr ?_
                  have s1' : stpA G prA n o (toEnv nt dep env) (matAt (absH h) as p) = some (v, absH h', D) := s1
                  rw [s1']
                  simp only [Bool.and_eq_true, beq_iff] at h2
                  have hfin : (AV.eqb v a.1 && D.isEmpty && (absH h').length == (matAt (absH h) as p).length) = true := by
                    rw [h1.val, s2.empty, absH_len, ← g1, absH_len]
                    simp [h2.1.1, h2.1.2, h2.2]
                  split
                  · rfl
                  · exact hfin
                · cases h2)
      refine ⟨n, ?_⟩
      rw [if_neg hcon, List.all_eq_true]
      exact hn
  obtain ⟨n, hn⟩ := key
  refine ⟨n, ?_⟩
  unfold chk1
  rw [Bool.and_eq_true]
  exact ⟨e1, hn⟩

theorem chkF_ok (hd : nt ≤ 2 ^ dep) {call : FCall} (hc : CallSim G prA call) {all : Array Oper} {tab cs : List Nat} {h : H} (hw : WF h) {rs : List FActed} {as : List Acted} (hr : RelR rs as) :
    ∀ (l : List Oper) (i : Nat) (rs' : List FActed) (as' : List Acted) (env : T AV), RelR rs' as' → chkF G nt dep call all tab cs h rs i l rs' env = true →
      ∃ n, chkL (stpA G prA n) all tab cs (absH h) as i l as' (toEnv nt dep env) = true := by
  intro l
  induction l with
  | nil => intro i rs' as' env _ _; exact ⟨0, by simp [chkL]⟩
  | cons o l ih =>
    intro i rs' as' env hr' e
    cases hr' with
    | nil => exact ⟨0, by simp [chkL]⟩
    | cons h1 t =>
      simp only [chkF, Bool.and_eq_true] at e
      obtain ⟨n1, e1⟩ := chk1F_ok hd hc hw hr h1 e.1
      obtain ⟨n2, e2⟩ := ih _ _ _ _ t e.2
      rw [putF_eq hd] at e2
      refine ⟨max n1 n2, ?_⟩
      simp only [chkL, Bool.and_eq_true]
      refine ⟨chk1_mono (stpA_le (Nat.le_max_left n1 n2)) e1, chkL_mono (stpA_le (Nat.le_max_right n1 n2)) _ _ _ _ ?_⟩
      rw [h1.val]
      exact e2

theorem putAllF_eq (hd : nt ≤ 2 ^ dep) : ∀ (os : List Oper) {rs : List FActed} {as : List Acted} (hr : RelR rs as) (env : T AV), toEnv nt dep (putAllF nt dep os rs env) = putAll os as (toEnv nt dep env) := by
  intro os
  induction os with
  | nil => intro rs as hr env; cases hr <;> rfl
  | cons o os ih =>
    intro rs as hr env
    cases hr with
    | nil => rfl
    | cons h1 t =>
      show toEnv nt dep (putAllF nt dep os _ (putF nt dep env o.dst _)) = _
      rw [ih t, putF_eq hd, ← h1.val]
      rfl

theorem orF_ok : ∀ {rs : List FActed} {as : List Acted} (hr : RelR rs as) {D : List Nat} {m : Nat}, Mask D m → Mask (as.flatMap (·.2.2) ++ D) (orF rs m) := by
  intro rs as hr
  induction hr with
  | nil => intro D m hm; exact hm
  | cons h1 _ ih =>
    intro D m hm
    have := h1.mask.app (ih hm)
    rw [List.flatMap_cons, List.append_assoc]
    exact this

theorem drawnF_ok (hd : nt ≤ 2 ^ dep) {call : FCall} (hc : CallSim G prA call) {ops : Array Oper} {s s' : FSt} {a : St} (hr : RelSt nt dep s a) (e : drawnF G nt dep call ops s = some s') :
    ∃ n a', drawn (stpA G prA n) ops a = some a' ∧ RelSt nt dep s' a' := by
  obtain ⟨env, h, m⟩ := s
  obtain ⟨aenv, aM, aD⟩ := a
  have hre := hr.env; have hrm := hr.mem; have hrk := hr.mask; have hrw := hr.wf
  simp only at hre hrm hrk hrw
  subst hre; subst hrm
  unfold drawnF at e
  simp only at e
  split at e
  · cases e
  · rename_i rs hrs
    obtain ⟨hch, e⟩ := cond_none e
    cases e
    obtain ⟨n1, as, t1, t2⟩ := traceF_ok hd hc ops _ _ _ _ hrw hrs
    obtain ⟨n2, c2⟩ := chkF_ok hd hc hrw t2 _ _ _ _ _ t2 hch
    rw [chainsF_eq t2] at c2
    refine ⟨max n1 n2, (putAll ops.toList as (toEnv nt dep env), matAt (absH h) as as.length, as.flatMap (·.2.2) ++ aD), ?_, ?_⟩
    · unfold drawn
      simp only
      rw [traceL_mono (stpA_le (Nat.le_max_left n1 n2)) _ _ _ _ _ t1]
      simp only
      rw [if_pos (chkL_mono (stpA_le (Nat.le_max_right n1 n2)) _ _ _ _ c2)]
    · obtain ⟨g1, g2⟩ := heapAt_ok t2 hrw rs.length
      exact ⟨(putAllF_eq hd _ t2 _).symm, by rw [g1, t2.len], orF_ok t2 hrk, g2⟩

inductive RelOut (nt dep : Nat) : FOut → Out → Prop
  | normal {s : FSt} {a : St} (h : RelSt nt dep s a) : RelOut nt dep (.normal s) (.normal, a)
  | exit {s : FSt} {a : St} (id : Nat) (h : RelSt nt dep s a) : RelOut nt dep (.exit id s) (.exit id, a)
  | ret {s : FSt} {a : St} (h : RelSt nt dep s a) : RelOut nt dep (.ret s) (.ret, a)

def XOK (G : Prg) (prA : Prim) (nt dep : Nat) (f : FSt → Option FOut) (c : Code) : Prop :=
  ∀ (s : FSt) (r : FOut) (a : St), RelSt nt dep s a → f s = some r → ∃ n ra, exec G prA n c a = some ra ∧ RelOut nt dep r ra

theorem execF_ok (hd : nt ≤ 2 ^ dep) {call : FCall} (hc : CallSim G prA call) (fuel : Nat) (c : Code) : XOK G prA nt dep (execF G nt dep call fuel c) c := by
  induction c with
  | skip =>
    intro s r a hr e
    have e' : some (FOut.normal s) = some r := e
    cases e'
    exact ⟨1, _, rfl, .normal hr⟩
  | region id ops draw =>
    intro s r a hr e
    have e' : (match (bif draw then drawnF G nt dep call ops s else opsF G nt dep call ops ops.toList s) with | some st => some (FOut.normal st) | none => none) = some r := e
    split at e'
    · rename_i s' hs
      cases e'
      cases draw
      · obtain ⟨n, a', h1, h2, _⟩ := opsF_ok hd hc ops _ _ _ _ hr hs
        refine ⟨n + 1, (.normal, a'), ?_, .normal h2⟩
        simp only [exec, Bool.false_eq_true, if_false, h1]
      · obtain ⟨n, a', h1, h2⟩ := drawnF_ok hd hc hr hs
        refine ⟨n + 1, (.normal, a'), ?_, .normal h2⟩
        have h1' : drawn (fun o env M => step G prA n o (env, M, [])) ops a = some a' := h1
        simp only [exec, if_true, h1']
    · cases e'
  | seq x y ihx ihy =>
    intro s r a hr e
    have e' : (match execF G nt dep call fuel x s with | some (.normal st) => execF G nt dep call fuel y st | r => r) = some r := e
    cases hx : execF G nt dep call fuel x s with
    | none => rw [hx] at e'; cases e'
    | some q =>
      rw [hx] at e'
      obtain ⟨n, ra, h1, h2⟩ := ihx _ _ _ hr hx
      cases h2 with
      | normal h =>
        obtain ⟨n2, ra2, g1, g2⟩ := ihy _ _ _ h e'
        refine ⟨max n n2 + 1, ra2, ?_, g2⟩
        simp only [exec, exec_le (Nat.le_max_left n n2) h1]
        exact exec_le (Nat.le_max_right n n2) g1
      | exit id h =>
        cases e'
        exact ⟨n + 1, _, by simp only [exec, h1], .exit id h⟩
      | ret h =>
        cases e'
        exact ⟨n + 1, _, by simp only [exec, h1], .ret h⟩
  | cond c x y ihx ihy =>
    intro s r a hr e
    have e' : (match fev nt dep s.1 c with | .b true => execF G nt dep call fuel x s | .b false => execF G nt dep call fuel y s | _ => none) = some r := e
    rw [fev_eq, ← hr.env] at e'
    split at e'
    · rename_i hb
      obtain ⟨n, ra, h1, h2⟩ := ihx _ _ _ hr e'
      exact ⟨n + 1, ra, by simp only [exec, hb, h1], h2⟩
    · rename_i hb
      obtain ⟨n, ra, h1, h2⟩ := ihy _ _ _ hr e'
      exact ⟨n + 1, ra, by simp only [exec, hb, h1], h2⟩
    · cases e'
  | block id x ihx =>
    intro s r a hr e
    have e' : (match execF G nt dep call fuel x s with | some (.exit id' st) => bif Nat.beq id' id then some (.normal st) else some (.exit id' st) | r => r) = some r := e
    cases hx : execF G nt dep call fuel x s with
    | none => rw [hx] at e'; cases e'
    | some q =>
      rw [hx] at e'
      obtain ⟨n, ra, h1, h2⟩ := ihx _ _ _ hr hx
      cases h2 with
      | normal h =>
        cases e'
        exact ⟨n + 1, _, by simp only [exec, h1], .normal h⟩
      | exit id' h =>
        by_cases hid : id' = id
        · simp only [beq_iff.2 hid, cond_true] at e'
          cases e'
          exact ⟨n + 1, _, by simp only [exec, h1, hid, if_true], .normal h⟩
        · have hb : Nat.beq id' id = false := by rw [← Bool.not_eq_true, beq_iff]; exact hid
          simp only [hb, cond_false] at e'
          cases e'
          exact ⟨n + 1, _, by simp only [exec, h1, hid, if_false], .exit id' h⟩
      | ret h =>
        cases e'
        exact ⟨n + 1, _, by simp only [exec, h1], .ret h⟩
  | loop x ihx =>
    have key : ∀ k, XOK G prA nt dep (Nat.rec (motive := fun _ => FSt → Option FOut) (fun _ => none) (fun _ ih st => match execF G nt dep call fuel x st with | some (.normal st) => ih st | r => r) k) (.loop x) := by
      intro k
      induction k with
      | zero => intro s r a hr e; cases e
      | succ k ih =>
        intro s r a hr e
        cases hx : execF G nt dep call fuel x s with
        | none => simp only [hx] at e; cases e
        | some q =>
          simp only [hx] at e
          obtain ⟨n, ra, h1, h2⟩ := ihx _ _ _ hr hx
          cases h2 with
          | normal h =>
            obtain ⟨n2, ra2, g1, g2⟩ := ih _ _ _ h e
            refine ⟨max n n2 + 1, ra2, ?_, g2⟩
            simp only [exec, exec_le (Nat.le_max_left n n2) h1]
            exact exec_le (Nat.le_max_right n n2) g1
          | exit id h =>
            cases e
            exact ⟨n + 1, _, by simp only [exec, h1], .exit id h⟩
          | ret h =>
            cases e
            exact ⟨n + 1, _, by simp only [exec, h1], .ret h⟩
    exact key fuel
  | exit id =>
    intro s r a hr e
    have e' : some (FOut.exit id s) = some r := e
    cases e'
    exact ⟨1, _, rfl, .exit id hr⟩
  | ret =>
    intro s r a hr e
    have e' : some (FOut.ret s) = some r := e
    cases e'
    exact ⟨1, _, rfl, .ret hr⟩
  | _ => intro s r a hr e; cases e

theorem resultsF_ok {env : T AV} {h : H} (hw : WF h) : ∀ (l : List ResultVar) (rs : List AV), resultsF G nt dep env h l = some rs → results G (toEnv nt dep env) (absH h) l = some rs := by
  intro l
  induction l with
  | nil => intro rs e; exact e
  | cons x l ih =>
    intro rs e
    cases x with
    | tmp t =>
      have e' : (match resultsF G nt dep env h l with | some l => some ((bif Nat.blt t nt then env.get .un (pth dep t) else .un) :: l) | none => none) = some rs := e
      split at e'
      · rename_i q hq
        simp only [results, ih _ hq, toEnv_get]
        exact e'
      · cases e'
    | cell c t =>
      have e' : (match readF h (bif Nat.blt c nt then env.get .un (pth dep c) else .un) (G.size t) with
        | some cs => match mkVar (G.isAgg t) cs with
          | some v => match resultsF G nt dep env h l with | some l => some (v :: l) | none => none
          | none => none
        | none => none) = some rs := e
      rw [← toEnv_get] at e'
      split at e'
      · rename_i cs hcs
        split at e'
        · rename_i v hv
          split at e'
          · rename_i q hq
            simp only [results, readF_ok hw hcs, hv, ih _ hq]
            exact e'
          · cases e'
        · cases e'
      · cases e'

theorem gcF_ok {h : H} (hw : WF h) {n0 : Nat} {r : AV} {m : Nat} {D : List Nat} (hm : Mask D m) (hn : n0 ≤ h.n) : WF (gcF n0 r h m) ∧ absH (gcF n0 r h m) = gc n0 r (absH h) D ∧ n0 ≤ (gcF n0 r h m).n := by
  have hc : (D.all fun d => if d < n0 then (match (absH h)[d]? with | some o => refsO n0 o | none => true) else true) = (List.range n0).all (fun d => !m.testBit d || (match h.get d with | some o => refsO n0 o | none => true)) := by
    rw [Bool.eq_iff_iff, List.all_eq_true, List.all_eq_true]
    constructor
    · intro h1 d hd
      have hd : d < n0 := List.mem_range.1 hd
      rw [hm d, Bool.or_eq_true]
      by_cases hD : d ∈ D
      · have := h1 d hD
        rw [if_pos hd, absH_get] at this
        exact .inr this
      · exact .inl (by simp [hD])
    · intro h1 d hD
      split
      · rename_i hd
        have := h1 d (List.mem_range.2 hd)
        rw [hm d, Bool.or_eq_true] at this
        rw [absH_get]
        rcases this with h2 | h2
        · simp [hD] at h2
        · exact h2
      · rfl
  have e1 : gc n0 r (absH h) D = (if (refs n0 r && (D.all fun d => if d < n0 then (match (absH h)[d]? with | some o => refsO n0 o | none => true) else true)) = true then (absH h).take n0 else absH h) := rfl
  have e2 : gcF n0 r h m = (bif refs n0 r && (List.range n0).all (fun d => !m.testBit d || (match h.get d with | some o => refsO n0 o | none => true)) then (bif Nat.beq n0 0 then H.empty else ⟨n0, h.t⟩) else h) := rfl
  rw [e1, e2, hc]
  cases hb : (refs n0 r && (List.range n0).all (fun d => !m.testBit d || (match h.get d with | some o => refsO n0 o | none => true)))
  · simp only [cond_false, Bool.false_eq_true, if_false]
    exact ⟨hw, trivial, hn⟩
  · simp only [cond_true, if_true]
    cases hz : Nat.beq n0 0
    · simp only [cond_false]
      refine ⟨⟨Nat.le_trans hn hw.n, fun o ho => hw.ok o (Nat.lt_of_lt_of_le ho hn)⟩, ?_, Nat.le_refl _⟩
      apply List.ext_getElem
      · simp only [List.length_take, absH_len]
        show n0 = _
        omega
      · intro i h1 h2
        simp only [List.getElem_take]
        simp only [absH, List.getElem_map, List.getElem_range]
        rfl
    · rw [beq_iff] at hz
      subst hz
      simp only [cond_true]
      exact ⟨WF.empty.1, by rw [WF.empty.2]; simp, Nat.zero_le _⟩

theorem retF_ok {f : FuncId} {fd : FnD} {n0 : Nat} {s : FSt} {a : St} (hr : RelSt nt dep s a) (hn0 : n0 ≤ s.2.1.n) {r : FActed} (e : retF G nt dep f fd n0 s = some r) :
    ∃ rs D' h2, results G a.1 a.2.1 fd.results = some rs ∧ (if G.keepRet f then some (one rs, a.2.1, []) else freeze 7 a.2.1 (one rs)) = some (r.1, absH h2, D') ∧ absH r.2.1 = (if G.gcOn f then gc n0 r.1 (absH h2) (D' ++ a.2.2) else absH h2) ∧
      Mask ((D' ++ a.2.2).filter (fun d => decide (d < n0))) r.2.2 ∧ WF r.2.1 ∧ n0 ≤ r.2.1.n := by
  obtain ⟨env, h, m⟩ := s
  obtain ⟨aenv, aM, aD⟩ := a
  have hre := hr.env; have hrm := hr.mem; have hrk := hr.mask; have hrw := hr.wf
  simp only at hre hrm hrk hrw hn0
  subst hre; subst hrm
  unfold retF at e
  simp only at e
  split at e
  · rename_i rs hrs
    split at e
    · rename_i v h' m' hq
      cases e
      have hfr : ∃ D', (if G.keepRet f then some (one rs, absH h, []) else freeze 7 (absH h) (one rs)) = some (v, absH h', D') ∧ Mask (D' ++ aD) (Nat.lor m' m) ∧ WF h' ∧ n0 ≤ h'.n := by
        cases hk : G.keepRet f
        · rw [hk] at hq
          obtain ⟨D, s1, s2, s3, s4⟩ := freezeF_ok 7 _ _ _ hrw hq
          exact ⟨D, by rw [if_neg (by simp)]; exact s1, s2.app hrk, s3, Nat.le_trans hn0 s4⟩
        · rw [hk] at hq
          cases hq
          exact ⟨[], by rw [if_pos rfl], Mask.nil.app hrk, hrw, hn0⟩
      obtain ⟨D', f1, f2, f3, f4⟩ := hfr
      refine ⟨rs, D', h', resultsF_ok hrw _ _ hrs, f1, ?_⟩
      cases hg : G.gcOn f
      · simp only [cond_false, Bool.false_eq_true, if_false]
        exact ⟨trivial, f2.filter n0, f3, f4⟩
      · obtain ⟨g1, g2, g3⟩ := gcF_ok (r := v) f3 f2 f4
        simp only [cond_true, if_true]
        exact ⟨g2, f2.filter n0, g1, g3⟩
    · cases e
  · cases e

def FPrimsSim (pr : FPrim) (prA : Prim) : Prop := ∀ f, (pr f = none → prA f = none) ∧ ∀ p, pr f = some p → ∃ pA, prA f = some pA ∧ ∀ args h r, WF h → p args h = some r → Sim h (pA args (absH h)) r

theorem bodyF_ok {call : FCall} (hc : CallSim G prA call) {fuel : Nat} {f : FuncId} {fd : FnD} {args : List AV} {h : H} {r : FActed} (hp : prA f = none) (hfd : G.fn f = some fd) (hw : WF h) (e : bodyF G call fuel f fd args h = some r)
    (hmono : ∀ n c st rr, exec G prA n c st = some rr → st.2.1.length ≤ rr.2.2.1.length) : ∃ n, Sim h (body G prA n f args (absH h)) r := by
  unfold bodyF at e
  obtain ⟨hl, e⟩ := cond_none e
  rw [Nat.ble_eq] at hl
  have hd := depOf_ok fd.ntmps
  have hst : RelSt fd.ntmps (depOf fd.ntmps) (argsF (depOf fd.ntmps) args 0 (.lf .un), h, 0) (args ++ List.replicate (fd.ntmps - args.length) .un, absH h, []) :=
    ⟨(args_eq hd args hl).symm, rfl, Mask.nil, hw⟩
  have fin : ∀ (s : FSt) (x : X) (a : St) (n : Nat), (∀ i, x ≠ .exit i) → exec G prA n fd.body (args ++ List.replicate (fd.ntmps - args.length) .un, absH h, []) = some (x, a) → RelSt fd.ntmps (depOf fd.ntmps) s a →
      retF G fd.ntmps (depOf fd.ntmps) f fd h.n s = some r → ∃ n, Sim h (body G prA n f args (absH h)) r := by
    intro s x a n hx hex hrel hret
    obtain ⟨aenv, aM, aD⟩ := a
    have hlen := hmono _ _ _ _ hex
    simp only [absH_len] at hlen
    have hmem := hrel.mem
    simp only at hmem
    rw [hmem, absH_len] at hlen
    obtain ⟨rs, D', h2, q1, q2, q3, q4, q5, q6⟩ := retF_ok hrel hlen hret
    simp only at q1 q2 q3 q4
    refine ⟨n + 1, (D' ++ aD).filter (fun d => decide (d < h.n)), ?_, q4, q5, q6⟩
    simp only [body, hp, hfd, hex]
    cases x with
    | exit i => exact absurd rfl (hx i)
    | normal => simp only [q1, q2, absH_len, q3]
    | ret => simp only [q1, q2, absH_len, q3]
  split at e
  · rename_i s hs
    obtain ⟨n, ra, h1, h2⟩ := execF_ok hd hc fuel fd.body _ _ _ hst hs
    cases h2 with
    | normal h3 => exact fin _ _ _ n (fun i hi => by cases hi) h1 h3 e
  · rename_i s hs
    obtain ⟨n, ra, h1, h2⟩ := execF_ok hd hc fuel fd.body _ _ _ hst hs
    cases h2 with
    | ret h3 => exact fin _ _ _ n (fun i hi => by cases hi) h1 h3 e
  · cases e

theorem callFF_ok {pr : FPrim} (hp : FPrimsSim pr prA) (hpd : PrimsDirty prA) (fuel : Nat) : ∀ d, CallSim G prA (callFF G pr fuel d) := by
  intro d
  induction d with
  | zero => intro f args h r _ e; cases e
  | succ d ih =>
    intro f args h r hw e
    have e' : (match (bif G.keepArg f then some (args, h, 0) else freezeLF (freezeF 6) args h) with
      | none => none
      | some (args, h, m) => match pr f with
        | some p => match p args h with | some (r, h, m') => some (r, h, Nat.lor m m') | none => none
        | none => match G.fn f with
          | none => none
          | some fd => match bodyF G (callFF G pr fuel d) fuel f fd args h with | some (r, h, m') => some (r, h, Nat.lor m m') | none => none) = some r := e
    have hmono : ∀ n c st rr, exec G prA n c st = some rr → st.2.1.length ≤ rr.2.2.1.length := fun n c st rr hx => ((all_dirty G prA hpd n).1 _ _ _ _ hx).1
    split at e'
    · cases e'
    · rename_i args' h1 m1 hfz
      have hA : ∃ D1, (if G.keepArg f then some (args, absH h, []) else freezeL (freeze 6) (absH h) args) = some (args', absH h1, D1) ∧ Mask D1 m1 ∧ WF h1 ∧ h.n ≤ h1.n := by
        cases hk : G.keepArg f
        · rw [hk] at hfz
          obtain ⟨⟨D, s1, s2, s3, s4⟩, _⟩ := freezeLF_ok (freezeF_ok 6) _ _ _ hw hfz
          exact ⟨D, by rw [if_neg (by simp)]; exact s1, s2, s3, s4⟩
        · rw [hk] at hfz
          cases hfz
          exact ⟨[], by rw [if_pos rfl], Mask.nil, hw, Nat.le_refl _⟩
      obtain ⟨D1, a1, a2, a3, a4⟩ := hA
      have fin : ∀ (v : AV) (h2 : H) (m2 : Nat) (n : Nat), Sim h1 (body G prA n f args' (absH h1)) (v, h2, m2) → Sim h (callF G prA (n + 1) f args (absH h)) (v, h2, Nat.lor m1 m2) := by
        intro v h2 m2 n ⟨D2, s1, s2, s3, s4⟩
        refine ⟨D1 ++ D2, ?_, a2.app s2, s3, Nat.le_trans a4 s4⟩
        simp only [callF, a1, s1]
      cases hpf : pr f with
      | some p =>
        rw [hpf] at e'
        simp only at e'
        split at e'
        · rename_i v h2 m2 hpp
          cases e'
          obtain ⟨pA, hpA, hs⟩ := (hp f).2 p hpf
          refine ⟨2, fin v h2 m2 1 ?_⟩
          simp only [body, hpA]
          exact hs _ _ _ a3 hpp
        · cases e'
      | none =>
        rw [hpf] at e'
        simp only at e'
        split at e'
        · cases e'
        · rename_i fd hfd
          split at e'
          · rename_i v h2 m2 hbb
            cases e'
            obtain ⟨n, hn⟩ := bodyF_ok ih ((hp f).1 hpf) hfd a3 hbb hmono
            exact ⟨n + 1, fin v h2 m2 n hn⟩
          · cases e'
end
end Go.Adm
