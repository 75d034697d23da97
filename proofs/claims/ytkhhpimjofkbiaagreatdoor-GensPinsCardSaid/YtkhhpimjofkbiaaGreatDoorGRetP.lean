/- Part GRetP of the proof of GensPins. -/
import Derived.Test.YtkhhpimjofkbiaaGreatDoorGRet
set_option linter.unusedVariables false
set_option linter.unusedSimpArgs false
set_option linter.unusedVariables false
set_option linter.unusedSimpArgs false
namespace Go.Adm
open Go Go.RowKit Go.Proofs Go.Maps

noncomputable def pinA : List (AV × AV × Nat) → Int → Option Int
  | [], _ => some 0
  | (.i .i64 m, .i .i64 c, _) :: r, n => bif intEq m n then some c else pinA r n
  | _, _ => none

/-- The entries that stay. -/
noncomputable def keepA (gen : Int) (ps : List (AV × AV × Nat)) : List (AV × AV × Nat) → Option (List (AV × AV × Nat))
  | [] => some []
  | (.i .i64 n, v, b) :: r => match keepA gen ps r, pinA ps n with
    | some l, some c => some (bif !(intEq n gen) && intEq c 0 then l else (.i .i64 n, v, b) :: l)
    | _, _ => none
  | _ => none

noncomputable def intValsB : List (AV × AV × Nat) → Bool
  | [] => true
  | (_, .i .i64 _, _) :: r => intValsB r
  | _ => false

noncomputable def retireG (get : Nat → Option AObj) (q : Nat) : Option (Nat × AObj) :=
  match get q with
  | some (.box _ [_, _, .i .i64 gen, _, _, .mp op, .mp ot]) => match get op, get ot with
    | some (.map ps pc), some (.map es clock) => match intKeysP es, intKeysP ps, keepA gen ps es with
      | some l, some lp, some es' => bif mapFitB es l clock && mapFitB ps lp pc && !(Nat.beq op ot) && intValsB ps then some (ot, .map es' clock) else none
      | _, _, _ => none
    | _, _ => none
  | _ => none

noncomputable def pRetire : List AV → List AObj → Option Acted := fun args M => match args with
  | [.ptr q 0] => match retireG (fun i => M[i]?) q with | some (o, x) => some (.tup [], M.set o x, [o]) | none => none
  | _ => none

section
variable {K : Ctx}
theorem RepE.cons_iff {x : AV × AV × Nat} {es : List (AV × AV × Nat)} {e : MapEntry} {ents : List MapEntry} : RepE K (x :: es) (e :: ents) ↔ (Rep K x.1 e.key ∧ Rep K x.2.1 e.val ∧ x.2.2 = e.born) ∧ RepE K es ents := by
  constructor
  · intro h
    exact ⟨h.2 0 (by simp) (by simp), h.tail⟩
  · rintro ⟨h1, h2⟩
    refine ⟨by simp [h2.1], fun j hj hj' => ?_⟩
    cases j with
    | zero => exact h1
    | succ j => exact h2.2 j (by simpa using hj) (by simpa using hj')

theorem pinA_ok : ∀ {ps : List (AV × AV × Nat)} {ents : List MapEntry} {n c : Int}, RepE K ps ents → pinA ps n = some c → pinOf ents n = c
  | [], ents, n, c, h, e => by
    have : ents = [] := List.length_eq_zero_iff.1 (by simpa using h.1.symm)
    subst this
    simp only [pinA, Option.some.injEq] at e
    exact e
  | x :: r, [], n, c, h, e => by have := h.1; simp at this
  | x :: r, y :: ents, n, c, h, e => by
    obtain ⟨⟨h1, h2, _⟩, ht⟩ := RepE.cons_iff.1 h
    unfold pinA at e
    split at e
    · rename_i heq; cases heq
    · rename_i n' l0 n1 m c' b r' heq
      cases heq
      simp only at h1 h2
      unfold pinOf
      generalize y.key = yk at h1 ⊢
      generalize y.val = yv at h2 ⊢
      cases h1
      cases h2
      simp only
      rw [intEq_eq] at e
      by_cases hm : m = n'
      · subst hm
        simp at e
        simp [e]
      · rw [if_neg hm]
        have : (m == n') = false := by simpa using hm
        simp only [hm, decide_false, cond_false, this] at e
        exact pinA_ok ht e
    · cases e

theorem keepA_ok {gen : Int} {ps : List (AV × AV × Nat)} {pents : List MapEntry} (hp : RepE K ps pents) : ∀ {es es' : List (AV × AV × Nat)} {ents : List MapEntry}, RepE K es ents → keepA gen ps es = some es' → RepE K es' (ents.filter fun x => !goneK gen pents x.key)
  | [], es', ents, h, e => by
    have : ents = [] := List.length_eq_zero_iff.1 (by simpa using h.1.symm)
    subst this
    simp only [keepA, Option.some.injEq] at e
    subst e
    exact ⟨rfl, fun j hj => absurd hj (by simp)⟩
  | x :: r, es', [], h, e => by have := h.1; simp at this
  | x :: r, es', y :: ents, h, e => by
    obtain ⟨⟨h1, h2, h3⟩, ht⟩ := RepE.cons_iff.1 h
    unfold keepA at e
    split at e
    · rename_i heq; cases heq
    · rename_i n v b r' heq
      cases heq
      split at e
      · rename_i l c hl hc
        have ih := keepA_ok hp ht hl
        have hpin := pinA_ok hp hc
        have hk : y.key = .int .i64 n := by
          simp only at h1
          generalize y.key = yk at h1 ⊢
          cases h1
          rfl
        have hg : goneK gen pents y.key = (!(intEq n gen) && intEq c 0) := by
          rw [hk]
          simp only [goneK, hpin, intEq_eq]
          rw [Bool.eq_iff_iff]
          simp
        simp only [Option.some.injEq] at e
        cases hb : (!(intEq n gen) && intEq c 0)
        · rw [hb] at e hg
          rw [List.filter_cons_of_pos (by simp [hg])]
          simp only [cond_false] at e
          subst e
          exact RepE.cons_iff.2 ⟨⟨h1, h2, h3⟩, ih⟩
        · rw [hb] at e hg
          rw [List.filter_cons_of_neg (by simp [hg])]
          simp only [cond_true] at e
          subst e
          exact ih
      · cases e
    · cases e

theorem intVals_ok : ∀ {ps : List (AV × AV × Nat)} {ents : List MapEntry}, RepE K ps ents → intValsB ps = true → ∀ x ∈ ents, ∃ m, x.val = .int .i64 m
  | [], ents, h, e => by
    have : ents = [] := List.length_eq_zero_iff.1 (by simpa using h.1.symm)
    subst this
    intro x hx; cases hx
  | x :: r, [], h, e => by have := h.1; simp at this
  | x :: r, y :: ents, h, e => by
    obtain ⟨⟨h1, h2, h3⟩, ht⟩ := RepE.cons_iff.1 h
    unfold intValsB at e
    split at e
    · rename_i heq; cases heq
    · rename_i k m b r' heq
      cases heq
      intro z hz
      rcases List.mem_cons.1 hz with rfl | hz
      · simp only at h2
        generalize z.val = zv at h2 ⊢
        cases h2
        exact ⟨_, rfl⟩
      · exact intVals_ok ht e z hz
    · cases e

theorem intEnts_of {es : List (AV × AV × Nat)} {ents : List MapEntry} {l : List Int} {clock : Nat} (h : RepE K es ents) (hl : intKeysP es = some l) (hf : mapFitB es l clock = true) : IntEnts ents ∧ (ents.map (·.born)).Nodup ∧ ∀ x ∈ ents, x.born < clock := by
  obtain ⟨hkeys, hborn⟩ := h.keysI hl
  simp only [mapFitB, Bool.and_eq_true] at hf
  obtain ⟨⟨⟨⟨f1, f2⟩, f3⟩, f4⟩, f5⟩ := hf
  refine ⟨⟨fun x hx => ?_, ?_⟩, ?_, fun x hx => ?_⟩
  · have : x.key ∈ ents.map (·.key) := List.mem_map_of_mem hx
    rw [hkeys] at this
    obtain ⟨n, hn, he⟩ := List.mem_map.1 this
    refine ⟨n, he.symm, ?_⟩
    have := List.all_eq_true.1 f4 n hn
    rw [Bool.and_eq_true, intLe_eq, intLe_eq, decide_eq_true_eq, decide_eq_true_eq] at this
    simp only [Lit.wf, IntKind.min, IntKind.max, IntKind.signed, IntKind.bits, if_true, Bool.and_eq_true, decide_eq_true_eq]
    constructor
    · exact this.1
    · exact this.2
  · rw [hkeys]
    exact List.Pairwise.map _ (fun a b hab e => hab (by injection e)) (distI_ok _ f1)
  · rw [hborn]; exact distB_ok _ f2
  · have : x.born ∈ ents.map (·.born) := List.mem_map_of_mem hx
    rw [hborn] at this
    obtain ⟨e, he, heq⟩ := List.mem_map.1 this
    have := List.all_eq_true.1 f3 e he
    rw [Nat.blt_eq] at this
    omega
end

theorem retire_ok : PrimOK Tryz.prog 53 pRetire := {
  fn := ⟨Tryz.f53, Tryz.func53, by kernel_rfl, by kernel_rfl⟩
  ok K xs vs r hI hR h := by
    unfold pRetire at h
    split at h
    · rename_i q
      split at h
      · rename_i o x hre
        simp only [Option.some.injEq] at h
        subst h
        unfold retireG at hre
        split at hre
        · rename_i ty c0 c1 gen c3 c4 op ot hq
          replace hq : K.M[q]? = _ := hq
          split at hre
          · rename_i ps pc es clock hop hot
            replace hop : K.M[op]? = _ := hop
            replace hot : K.M[ot]? = _ := hot
            split at hre
            · rename_i l lp es' hl hlp hkeep
              cases hb : (mapFitB es l clock && mapFitB ps lp pc && !(Nat.beq op ot) && intValsB ps)
              · rw [hb] at hre; cases hre
              · rw [hb] at hre
                simp only [cond_true, Option.some.injEq, Prod.mk.injEq] at hre
                obtain ⟨rfl, rfl⟩ := hre
                simp only [Bool.and_eq_true] at hb
                obtain ⟨⟨⟨b1, b2⟩, b3⟩, b4⟩ := hb
                cases hR with | cons _ pv _ us hx ht =>
                cases ht
                cases hx with | ptr _ _ hqι hE =>
                have hq' : q < K.M.length := (List.getElem?_eq_some_iff.1 hq).1
                have hob := hI.obj q hq'
                have hMq : K.M[q] = .box ty [c0, c1, .i .i64 gen, c3, c4, .mp op, .mp ot] := by rw [List.getElem?_eq_getElem hq', Option.some.injEq] at hq; exact hq
                rw [hMq] at hob
                obtain ⟨c, t, fr, h1, h2, _⟩ := hob
                obtain ⟨pents, p1, p2⟩ := obj_map hI (by rw [hI.len]; exact (List.getElem?_eq_some_iff.1 hop).1) hop
                have hotM : ot < K.M.length := (List.getElem?_eq_some_iff.1 hot).1
                obtain ⟨ents, e1, e2⟩ := obj_map hI (by rw [hI.len]; exact hotM) hot
                have hc : ∃ v0 v1 v3 v4, c = #[v0, v1, .int .i64 gen, v3, v4, .map (some (K.at op)), .map (some (K.at ot))] := by
                  generalize hcl : c.toList = cl at h2
                  cases h2 with | cons _ v0 _ r0 a0 h2 =>
                  cases h2 with | cons _ v1 _ r1 a1 h2 =>
                  cases h2 with | cons _ v2 _ r2 a2 h2 =>
                  cases h2 with | cons _ v3 _ r3 a3 h2 =>
                  cases h2 with | cons _ v4 _ r4 a4 h2 =>
                  cases h2 with | cons _ v5 _ r5 a5 h2 =>
                  cases h2 with | cons _ v6 _ r6 a6 h2 =>
                  cases h2
                  cases a2
                  cases a5
                  cases a6
                  exact ⟨v0, v1, v3, v4, Array.ext' (by simpa using hcl)⟩
                obtain ⟨v0, v1, v3, v4, rfl⟩ := hc
                have hneo : op ≠ ot := fun e => by subst e; simp at b3
                have hne : K.at op ≠ K.at ot := fun e => hneo (hI.inj _ _ (by rw [hI.len]; exact (List.getElem?_eq_some_iff.1 hop).1) (by rw [hI.len]; exact hotM) e)
                obtain ⟨i1, i2, i3⟩ := intEnts_of e2 hl b1
                obtain ⟨j1, _, _⟩ := intEnts_of p2 hlp b2
                have hw := retire_walk (w := K.w) (B := K.at q) (bt := K.at ot) (bp := K.at op) h1 rfl rfl rfl e1 p1 hne i1 i2 i3 j1 (intVals_ok p2 b4)
                refine Calls.mono hw fun e w' ⟨h3, hg, h4⟩ => ?_
                have hlt := hI.at_lt hotM
                have hF : K.F (K.at ot) = 0 := (hI.obj_F hotM).2 (by simp [bsize, e1])
                have hL : K.L ot = 0 := by simp [Ctx.L, hot, verO]
                have hE0 : K.E ot = 0 := by simp [Ctx.E, hot, eszO]
                obtain ⟨ee, ii⟩ := upd_ok hI hotM (.map es' clock) (K.at ot) w' (.inl rfl) (Nat.lt_of_lt_of_le hlt hg.size) hg.size hg.os hg.tape hg.output
                  (fun b hb hne => hg.block b hb (fun e => hne (by cases e; rfl))) (fun n hn => by simp [bsize, e1] at hn) (fun off hf => by omega)
                  (by rw [hE0]; rfl) (by rw [hL]; exact Nat.zero_le _) (fun _ => rfl) (fun _ => rfl)
                  (fun e => ⟨_, h4, by simpa using (keepA_ok p2 e2 hkeep).mono e.toExt0, hF⟩)
                exact ⟨_, _, h3, rfl, rfl, ee, ii, .tup [] [] .nil⟩
            · cases hre
          · cases hre
        · cases hre
      · cases h
    · cases h }
end Go.Adm
