/- Part GPins5 of the proof of GensPins. -/
import Derived.Test.YtkhhpimjofkbiaaGreatDoorGPins4
set_option linter.unusedVariables false
set_option linter.unusedSimpArgs false
set_option maxRecDepth 1000000
set_option linter.unusedVariables false
namespace Go.Adm
open Go Go.Proofs

noncomputable def t8 := Code.snd' t7
noncomputable def r19 := Code.ops' (Code.fst' t7)
noncomputable def c20 := Code.fst' t8
theorem z6 : t7 = .seq (.region 19 r19 false) t8 := by kernel_rfl
theorem z7 : t8 = .seq c20 .ret := by kernel_rfl
abbrev z0 (e : Nat → AV) (n m j : Int) : List AV := S (envM e n m j) [(51, .b false)]
abbrev z1 (e : Nat → AV) (n m j : Int) : List AV := S (z0 e n m j) [(61, .ptr 10 0)]
theorem z9 (e : Nat → AV) (n m j : Int) (M : List AObj) (D : List Nat) : ExO GG prA r19 (r19.toList.take 1) (z0 e n m j, M, D) (z1 e n m j, M, D) := ⟨9, by kernel_rfl⟩
noncomputable def op19 := r19.getD 1 default
theorem l19 : r19.toList = r19.toList.take 1 ++ ([op19] ++ r19.toList.drop 2) := by kernel_rfl
theorem w19 (e : Nat → AV) (n m j : Int) : wanted op19 r19 (z1 e n m j) = some true := by kernel_rfl
theorem o19 : op19.op = .call (callOf op19) := by kernel_rfl
theorem q19 (e : Nat → AV) (n m j : Int) (M : List AObj) : quietOp GG M (z1 e n m j) op19 = none := by kernel_rfl
theorem a19 (e : Nat → AV) (n m j : Int) (M : List AObj) : actOp GG M (z1 e n m j) op19 = none := by kernel_rfl
theorem c19 (e : Nat → AV) (n m j : Int) : callee (z1 e n m j) (callOf op19) = some (22, [.ptr 10 0]) := by kernel_rfl
abbrev lv (p : Int) : AV := .sl [.i .i64 1, .i .i64 p] 1 .any
abbrev z2 (e : Nat → AV) (n m j p : Int) : List AV := S (z1 e n m j) [(62, lv p)]
theorem d19 (e : Nat → AV) (n m j p : Int) : put (z1 e n m j) op19.dst (lv p) = z2 e n m j p := by kernel_rfl
abbrev z3 (e : Nat → AV) (n m j p : Int) : List AV := S (z2 e n m j p) [(8, lv p)]
theorem z10 (e : Nat → AV) (n m j p : Int) (M : List AObj) (D : List Nat) : ExO GG prA r19 (r19.toList.drop 2) (z2 e n m j p, M, D) (z3 e n m j p, M, D) := ⟨9, by kernel_rfl⟩
abbrev fshp (o : Out) : X × AV × List AObj × List Nat := (o.1, o.2.1.getD 4 .un, o.2.2)
theorem z11 (e : Nat → AV) (n m j p : Int) (M : List AObj) (D : List Nat) :
    (exec GG prA 40 c20 (z3 e n m j p, M, D)).map fshp = some (.normal, .b (p == (if 0 > IntKind.i64.wrap (n - m) then 0 else IntKind.i64.wrap (n - m))), M, D) := by kernel_rfl

theorem wrap_small2 {x : Int} (h0 : -1000 ≤ x) (h1 : x ≤ 1000) : IntKind.i64.wrap x = x := by
  have p1 : (2 : Int) ^ 64 = 18446744073709551616 := by decide
  have p2 : (2 : Int) ^ (64 - 1) = 9223372036854775808 := by decide
  simp only [IntKind.wrap, IntKind.bits, IntKind.signed, Bool.true_and, decide_eq_true_eq, p1, p2]
  split <;> omega

theorem last_ok (x : Nat → AObj) (c0 c1' c3 c4' tv : AV) (n m : Nat) (hn : n ≤ 100) (hm : m ≤ 100) (e : Nat → AV) (D : List Nat) :
    ∃ env M' D', Ex GG prA t7 (z0 e n m m, UM x c0 c1' c3 c4' tv n m, D) (.ret, env, M', D') ∧ env.getD 4 .un = .b true := by
  obtain ⟨M', D1, hl⟩ := liveU x c0 c1' c3 c4' tv n m
  obtain ⟨⟨y, env, M2, D2⟩, h1, h2⟩ := of_map (z11 e n m m (.ofNat (n - m)) M' (D1 ++ D))
  simp only [fshp, Prod.mk.injEq] at h2
  obtain ⟨rfl, h3, rfl, rfl⟩ := h2
  refine ⟨env, M2, D1 ++ D, ?_, ?_⟩
  · rw [z6]
    refine Ex.seq (st' := (z3 e n m m (.ofNat (n - m)), M2, D1 ++ D)) (Ex.region ?_) ?_
    · rw [l19]
      exact ExO.app (z9 e n m m _ D) (ExO.app (ExO.one' (w19 e n m m) (step_call o19 (q19 e n m m _) (a19 e n m m _) (c19 e n m m) hl) (d19 e n m m _)) (z10 e n m m _ M2 _))
    · rw [z7]
      exact Ex.seq ⟨40, h1⟩ (Ex.ret _)
  · have hq : (Int.ofNat (n - m) == (if 0 > IntKind.i64.wrap ((n : Int) - m) then 0 else IntKind.i64.wrap ((n : Int) - m))) = true := by
      rw [wrap_small2 (by omega) (by omega), beq_iff_eq]
      simp only [Int.ofNat_eq_natCast]
      split <;> omega
    rw [h3, hq]

theorem mkM_of {M : List AObj} {c0 c1' c3 c4' tv : AV} {ps : List (AV × AV × Nat)} {pc : Nat} (hl : M.length = 153) (h10 : M[10]? = some (.box 134 [c0, c1', .i .i64 1, c3, c4', .mp 8, .mp 9])) (h9 : M[9]? = some (.map [(.i .i64 1, tv, 1)] 2)) (h8 : M[8]? = some (.map ps pc)) :
    M = mkM (fun i => M.getD i (.map [] 0)) c0 c1' c3 c4' tv ps pc := by
  apply List.ext_getElem
  · simp [mkM, hl]
  · intro i h1 h2
    simp only [mkM, List.getElem_map, List.getElem_range]
    have hi : M[i]? = some M[i] := List.getElem?_eq_getElem h1
    cases e10 : Nat.beq i 10
    · cases e9 : Nat.beq i 9
      · cases e8 : Nat.beq i 8
        · simp [List.getD_eq_getElem?_getD, hi]
        · rw [Nat.beq_eq] at e8
          subst e8
          rw [hi] at h8
          simpa using h8
      · rw [Nat.beq_eq] at e9
        subst e9
        rw [hi] at h9
        simpa using h9
    · rw [Nat.beq_eq] at e10
      subst e10
      rw [hi] at h10
      simpa using h10

/-- What the runs of the first commit give. -/
structure Opened : Prop where
  anchor : ∃ N D, callF GG prA N 8 [] [] = some (.b true, [], D)
  runs : ∃ N d M1 D1 M2 D2 r M3 D3 c0 c1' c3 c4' tv, callF GG prA N 9 [.i .i64 164] [] = some (d, M1, D1) ∧ callF GG prA N 13 [d] M1 = some (tp, M2, D2) ∧ callF GG prA N 19 [.ptr 10 0, site] M2 = some (r, M3, D3) ∧
    fieldOp GG 60 0 r = some (.i .i64 0) ∧ M3.length = 153 ∧ M3[10]? = some (.box 134 [c0, c1', .i .i64 1, c3, c4', .mp 8, .mp 9]) ∧ M3[9]? = some (.map [(.i .i64 1, tv, 1)] 2) ∧ M3[8]? = some (.map [] 0)

theorem t3_ok (h : Opened) {n m : Nat} (hn : n ≤ 50) (hm : m ≤ 60) (D : List Nat) : ∃ env M' D', Ex GG prA t3 (eF n m, [], D) (.ret, env, M', D') ∧ env.getD 4 .un = .b true := by
  obtain ⟨N, d, M1, D1, M2, D2, r, M3, D3, c0, c1', c3, c4', tv, k1, k2, k3, k4, k5, k6, k7, k8⟩ := h.runs
  have hM := mkM_of k5 k6 k7 k8
  generalize (fun i => M3.getD i (.map [] 0)) = x at hM
  subst hM
  obtain ⟨e1, D4, j1⟩ := loop1 x c0 c1' c3 c4' tv n m (by omega) n 0 (reE (eK n m d r)) (D3 ++ (D2 ++ (D1 ++ D))) (by omega)
  obtain ⟨e2, D5, j2⟩ := loop2 x c0 c1' c3 c4' tv n m (by omega) (by omega) m 0 (reE (S (envL e1 n m n) [(44, .b false)])) D4 (by omega)
  obtain ⟨env, M', D', j3, j4⟩ := last_ok x c0 c1' c3 c4' tv n m (by omega) (by omega) e2 D5
  refine ⟨env, M', D', ?_, j4⟩
  rw [s4]
  refine Ex.seq (Ex.region (reg5 n m k1 k2)) ?_
  rw [s5]
  refine Ex.seq (Ex.seq (Ex.region (reg6 n m k3 k4)) (Ex.condF (by kernel_rfl) (Ex.skip _))) ?_
  rw [s6]
  refine Ex.seq (Ex.seq ⟨9, f9 n m d r _ _⟩ (Ex.blockX j1)) ?_
  rw [u6]
  rw [UM0] at j2
  exact Ex.seq (Ex.seq ⟨9, v9 e1 n m n _ _⟩ (Ex.blockX j2)) j3

theorem c4_ok (h : Opened) (n m : Int) : ∃ env M' D', Ex GG prA c4 (env4 n m, [], []) (.ret, env, M', D') ∧ env.getD 4 .un = .b true := by
  obtain ⟨N, D1, hA⟩ := h.anchor
  have key : (∃ env M' D', Ex GG prA t2 (eA n m, [], D1 ++ []) (.ret, env, M', D') ∧ env.getD 4 .un = .b true) → ∃ env M' D', Ex GG prA c4 (env4 n m, [], []) (.ret, env, M', D') ∧ env.getD 4 .un = .b true := fun ⟨env, M', D', k1, k2⟩ => by
    refine ⟨env, M', D', ?_, k2⟩
    rw [s1]
    refine Ex.seq ⟨9, h0 n m [] []⟩ ?_
    rw [s2]
    exact Ex.seq (Ex.seq (Ex.region (reg1 n m hA)) (Ex.condF (by kernel_rfl) (Ex.skip _))) k1
  apply key
  rw [s3]
  by_cases hg : 0 ≤ n ∧ n ≤ 50 ∧ 0 ≤ m ∧ m ≤ 60
  · obtain ⟨n', rfl⟩ := Int.eq_ofNat_of_zero_le hg.1
    obtain ⟨m', rfl⟩ := Int.eq_ofNat_of_zero_le hg.2.2.1
    obtain ⟨env, M', D', k1, k2⟩ := t3_ok h (n := n') (m := m') (by omega) (by omega) (D1 ++ [])
    exact ⟨env, M', D', Ex.seq (Ex.seq (Ex.region (guard_ok hg [] _)) (Ex.condF (by kernel_rfl) (Ex.skip _))) k1, k2⟩
  · obtain ⟨env, k1, k2, k3⟩ := guard_bad hg [] (D1 ++ [])
    refine ⟨env.set 4 (.b true), [], D1 ++ [], Ex.seqX (Ex.seq (Ex.region k1) (Ex.condT k2 ⟨9, b5 env [] _⟩)) (by simp), ?_⟩
    simp [List.getD_eq_getElem?_getD, k3]

theorem pins_run (h : Opened) (n m : Int) : ∃ N M' D', callF GG prA N 4 [.i .i64 n, .i .i64 m] [] = some (.b true, M', D') := by
  obtain ⟨env, M', D', ⟨N, k1⟩, k2⟩ := c4_ok h n m
  refine ⟨N + 2, M', [] ++ ([] ++ D').filter (fun d => decide (d < ([] : List AObj).length)), ?_⟩
  have hf : GG.fn 4 = some fd4 := by kernel_rfl
  have hb : fd4.body = c4 := rfl
  have he : [AV.i .i64 n, .i .i64 m] ++ List.replicate (fd4.ntmps - [AV.i .i64 n, .i .i64 m].length) .un = env4 n m := by kernel_rfl
  have hp : prA 4 = none := by kernel_rfl
  have hk : GG.keepArg 4 = false := by kernel_rfl
  have hk2 : GG.keepRet 4 = false := by kernel_rfl
  have hg : GG.gcOn 4 = false := by kernel_rfl
  have hr : results GG env M' fd4.results = some [.b true] := by
    show some [env.getD 4 .un] = _
    rw [k2]
  have hfz : freezeL (freeze 6) [] [AV.i .i64 n, .i .i64 m] = some ([AV.i .i64 n, .i .i64 m], [], []) := by kernel_rfl
  have hfr : ∀ M : List AObj, freeze 7 M (one [.b true]) = some (.b true, M, []) := fun M => by kernel_rfl
  simp only [callF, hk, Bool.false_eq_true, if_false, hfz, body, hp, hf, he, hb, k1, hr, hk2, hfr, hg]
end Go.Adm
