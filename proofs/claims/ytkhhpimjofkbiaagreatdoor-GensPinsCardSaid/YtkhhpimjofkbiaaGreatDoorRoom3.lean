/- Part Room3 of the proof of GensPins. -/
import Derived.Lib.UnsafeStr
import Derived.Test.YtkhhpimjofkbiaaGreatDoorRoom2
set_option linter.unusedVariables false
set_option linter.unusedSimpArgs false
set_option linter.unusedVariables false
set_option linter.unusedSimpArgs false
namespace Go.Adm
open Go

section
variable {P : Program} {K : Ctx}

theorem drew_ok (hI : Inv K) : Ext K ⟨K.M, K.ι, K.F, K.w.drew, K.B⟩ ∧ Inv ⟨K.M, K.ι, K.F, K.w.drew, K.B⟩ := by
  have e : Ext K ⟨K.M, K.ι, K.F, K.w.drew, K.B⟩ := ⟨⟨rfl, Nat.le_refl _, fun _ _ => rfl, fun _ _ => Nat.le_refl _, fun _ _ _ => rfl, fun _ _ _ => rfl, fun _ _ h => ⟨h, rfl⟩, fun _ _ h => h, Nat.le_refl _, rfl, rfl, rfl⟩, fun o h => .inl ⟨o, h, rfl⟩, fun _ _ _ => .inl rfl, fun _ _ _ => rfl⟩
  exact ⟨e, hI.len, hI.inj, hI.lt, hI.base, fun o ho => (hI.obj o ho).mono e.toExt0 rfl rfl, hI.F, hI.baseH, hI.mark, hI.glob⟩

/-- What is appended: how many elements, and their cells. -/
inductive AppSrc (P : Program) (w : World) (sz bytes : Nat) (e xt : TypeId) (u : Value) (n : Nat) (vs : List Value) : Prop
  | read (d : TypeDesc) (hd : P.underlying xt = some d) (hi : ∀ q, d ≠ .int q) (h : SrcRun P w sz e u n vs) (hl : vs.length = n * sz)
  | zeros (q k : IntKind) (hd : P.underlying xt = some (.int q)) (hu : u = .int k (n : Int)) (hb : n * (bytes + 1) ≤ 1000000000) (z : Value) (hz : ∀ w, (zeroValue e).run P w = .ok z w) (hv : vs = replV n z.cells.toList) (hs : z.cells.size = sz)

theorem zeroCells_eq (z : Array Value) (n : Nat) : Builtin.zeroCells z n = (replV n z.toList).toArray := range_zero n z _ rfl

theorem replV_zero_of (n : Nat) (z : List Value) (h : n * z.length = 0) : replV n z = [] := List.eq_nil_of_length_eq_zero (by rw [replV_length]; exact h)

theorem i64_small {n : Nat} (h : n ≤ 1000000000) : IntKind.i64.wrap (n : Int) = n := by simp [IntKind.wrap, IntKind.bits, IntKind.signed]; omega

theorem run_append_room (w : World) {st xt e : TypeId} {sz bytes n len c : Nat} {base : Option Addr} {u : Value} {vs : List Value} (hu : P.underlying st = some (.slice e)) {i : TypeInfo} (hi1 : P.info? e = some i) (hi2 : i.size = sz) (hi3 : i.bytes = bytes)
    (hx : AppSrc P w sz bytes e xt u n vs) (hroom : len + n ≤ c) {w' : World} (hst : (match base with | some a => storeCells (a.add (len * sz)) vs | none => pure () : Sem Unit).run P w = .ok () w') (ty : TypeId) :
    (Builtin.append_ #[st, xt] ty #[.slice base len c, u]).run P w = .ok (.slice base (len + n) c) w' := by
  have h0 : (#[st, xt] : Array TypeId)[0]? = some st := rfl
  have h1 : (#[st, xt] : Array TypeId)[1]? = some xt := rfl
  have ha0 : (#[Value.slice base len c, u] : Array Value)[0]? = some (.slice base len c) := rfl
  have ha1 : (#[Value.slice base len c, u] : Array Value)[1]? = some u := rfl
  have hsz : (sizeOf e).run P w = .ok sz w := by simp [sizeOf, typeInfo, hi1, hi2]
  have hti : (typeInfo e).run P w = .ok i w := by simp [typeInfo, hi1]
  cases hx with
  | read d hd hi h hl =>
    obtain ⟨hl1, hf⟩ := h
    have hfc := hf n (Nat.le_refl _)
    rw [List.take_of_length_le (by omega)] at hfc
    have hz : (match d with | .int _ => true | _ => false) = false := by
      cases d <;> first | rfl | exact absurd rfl (hi _)
    simp only [Builtin.append_, h0, h1, ha0, ha1, Sem.run_bind, run_underlying_ok hu, Result.andThen_ok, hsz, run_underlying_ok hd, Sem.run_pure, hz, Bool.false_eq_true, if_false, hl1]
    rw [Sem.run_ite, if_pos hroom]
    simp only [Bool.not_false, if_true, Sem.run_bind, hfc, Result.andThen_ok]
    cases base with
    | none =>
      simp only [Sem.run_pure, Result.ok.injEq, true_and] at hst
      subst hst
      simp only [Sem.run_pure]
    | some a =>
      simp only at hst
      simp only [Sem.run_bind, hst, Result.andThen_ok, Sem.run_pure]
  | zeros q k hd hu' hb z hz hv hs =>
    subst hu'
    have hb1 : n * bytes ≤ 1000000000 := by rw [Nat.mul_add] at hb; omega
    have hb2 : n ≤ 1000000000 := by rw [Nat.mul_add, Nat.mul_one] at hb; omega
    have hw1 := i64_small hb2
    have hb3 : ¬ ((n : Int) * (i.bytes : Int) > 2 ^ 48) := by
      rw [hi3, ← Int.natCast_mul]
      omega
    have hn0 : ¬ ((n : Int) < 0) := by omega
    have happ : (if n * sz = 0 then (pure #[] : Sem (Array Value)) else do
        let v ← zeroValue e
        pure (Builtin.zeroCells v.cells n)).run P w = .ok vs.toArray w := by
      split
      · rename_i h0
        rw [hv, replV_zero_of n _ (by rw [Array.length_toList, hs]; exact h0)]
        rfl
      · simp only [Sem.run_bind, hz, Result.andThen_ok, Sem.run_pure, zeroCells_eq, hv]
    simp only [Builtin.append_, h0, h1, ha0, ha1, Sem.run_bind, run_underlying_ok hu, Result.andThen_ok, hsz, run_underlying_ok hd, Sem.run_pure, if_true, asInt, asIntOf, hw1, Sem.run_ite, hn0, if_false, hti, hb3, Int.toNat_natCast]
    rw [if_pos hroom]
    simp only [Bool.not_true, Bool.false_eq_true, if_false, Sem.run_bind]
    simp only [Sem.run_ite, Sem.run_bind, Sem.run_pure] at happ
    rw [happ]
    cases base with
    | none =>
      simp only [Sem.run_pure, Result.ok.injEq, true_and] at hst
      subst hst
      simp only [Sem.run_pure, Result.andThen_ok]
    | some a =>
      simp only at hst
      simp only [Sem.run_bind, hst, Result.andThen_ok, Sem.run_pure]

theorem slicecap_le (need c : Nat) (h : c < need) : Builtin.nextslicecap need c ≤ 2 * need + 1000 := by
  unfold Builtin.nextslicecap
  split
  · omega
  · split
    · omega
    · simp only [Builtin.growBy]
      split
      · omega
      · split
        · omega
        · split
          · omega
          · split
            · omega
            · omega

theorem run_append_grow (w : World) {st xt e : TypeId} {sz bytes n len c : Nat} {base : Option Addr} {u : Value} {vs vs0 old : List Value} (hu : P.underlying st = some (.slice e)) {i : TypeInfo} (hi1 : P.info? e = some i) (hi2 : i.size = sz) (hi3 : i.bytes = bytes)
    (hx0 : AppSrc P w sz bytes e xt u n vs0) (hx : AppSrc P w.drew sz bytes e xt u n vs) (hgrow : c < len + n) (hb : (len + n) * (bytes + 1) ≤ 1000000000) {z : Value} (hz : ∀ w, (zeroValue e).run P w = .ok z w)
    (hold : (Builtin.firstCells sz len (.slice base len c)).run P w.drew = .ok old.toArray w.drew) (ty : TypeId) :
    (Builtin.append_ #[st, xt] ty #[.slice base len c, u]).run P w =
      .ok (.slice (some (ad w.heap.size 0)) (len + n) (len + n + w.tape w.drawn (.appendCap (len + n) c e) % (2 ^ 63 - (len + n))))
        (w.drew.alloc (.cells (old ++ vs ++ replV (w.tape w.drawn (.appendCap (len + n) c e) % (2 ^ 63 - (len + n))) z.cells.toList).toArray e)) := by
  have h0 : (#[st, xt] : Array TypeId)[0]? = some st := rfl
  have h1 : (#[st, xt] : Array TypeId)[1]? = some xt := rfl
  have ha0 : (#[Value.slice base len c, u] : Array Value)[0]? = some (.slice base len c) := rfl
  have ha1 : (#[Value.slice base len c, u] : Array Value)[1]? = some u := rfl
  have hsz : (sizeOf e).run P w = .ok sz w := by simp [sizeOf, typeInfo, hi1, hi2]
  have hti : ∀ w, (typeInfo e).run P w = .ok i w := fun w => by simp [typeInfo, hi1]
  have hb1 : (len + n) * bytes ≤ 1000000000 := by rw [Nat.mul_add] at hb; omega
  have hb2 : len + n ≤ 1000000000 := by rw [Nat.mul_add, Nat.mul_one] at hb; omega
  have hne : ¬ (len + n ≤ c) := by omega
  have hmax : ∀ p : Prop, ¬ (((len + n : Nat) : Int) > IntKind.i64.max ∧ p) := fun p h => by
    have := h.1
    simp [IntKind.max, IntKind.bits, IntKind.signed] at this
    omega
  have hcap : ¬ (Builtin.nextslicecap (len + n) c * i.bytes > 2 ^ 48) := by
    have h2 := slicecap_le (len + n) c hgrow
    have h3 : Builtin.nextslicecap (len + n) c * i.bytes ≤ (2 * (len + n) + 1000) * i.bytes := Nat.mul_le_mul_right _ h2
    have h4 : i.bytes ≤ 1000000000 := by
      rw [hi3]
      have : 1 * (bytes + 1) ≤ (len + n) * (bytes + 1) := Nat.mul_le_mul_right _ (by omega)
      omega
    have h5 : (2 * (len + n) + 1000) * i.bytes = 2 * ((len + n) * i.bytes) + 1000 * i.bytes := by rw [Nat.add_mul, Nat.mul_assoc]
    rw [hi3] at *
    omega
  have hq : (Question.appendCap (len + n) c e).forced = false := rfl
  cases hx with
  | read d hd hi h hl =>
    obtain ⟨hl1', hf⟩ := h
    have hl1 : (Builtin.lenOf u).run P w = .ok n w := by
      cases hx0 with
      | read _ _ _ h _ => exact h.1
      | zeros q k hd' hu' hb z hz hv hs => rw [hd] at hd'; cases hd'; exact absurd rfl (hi _)
    have hfc := hf n (Nat.le_refl _)
    rw [List.take_of_length_le (by omega)] at hfc
    have hz' : (match d with | .int _ => true | _ => false) = false := by
      cases d <;> first | rfl | exact absurd rfl (hi _)
    simp only [Builtin.append_, h0, h1, ha0, ha1, Sem.run_bind, run_underlying_ok hu, Result.andThen_ok, hsz, run_underlying_ok hd, Sem.run_pure, hz', Bool.false_eq_true, if_false, hl1]
    rw [Sem.run_ite, if_neg hne]
    simp only [Sem.run_bind, hti, Result.andThen_ok]
    rw [Sem.run_ite, if_neg (hmax _)]
    simp only [Sem.run_bind, hti, Result.andThen_ok]
    rw [Sem.run_ite, if_neg hcap]
    simp only [Sem.run_bind, run_choose, hq, Bool.false_eq_true, if_false, Result.andThen_ok, hti, run_askRoom, Question.cut, World.drew_eq, hold, Bool.not_false, if_true, hfc, hz, run_newRow, Sem.run_pure, Nat.add_sub_cancel_left, zeroCells_eq]
    have hcat : ∀ r : List Value, old.toArray ++ vs.toArray ++ r.toArray = (old ++ vs ++ r).toArray := fun r => by simp
    rw [hcat]
    rfl
  | zeros q k hd hu' hb' z' hz' hv hs =>
    subst hu'
    have hc1 : n * bytes ≤ 1000000000 := by rw [Nat.mul_add] at hb'; omega
    have hc2 : n ≤ 1000000000 := by rw [Nat.mul_add, Nat.mul_one] at hb'; omega
    have hw1 := i64_small hc2
    have hb3 : ¬ ((n : Int) * (i.bytes : Int) > 2 ^ 48) := by
      rw [hi3, ← Int.natCast_mul]
      omega
    have hn0 : ¬ ((n : Int) < 0) := by omega
    have happ : (if n * sz = 0 then (pure #[] : Sem (Array Value)) else do
        let v ← zeroValue e
        pure (Builtin.zeroCells v.cells n)).run P w.drew = .ok vs.toArray w.drew := by
      split
      · rename_i h0
        rw [hv, replV_zero_of n _ (by rw [Array.length_toList, hs]; exact h0)]
        rfl
      · simp only [Sem.run_bind, hz', Result.andThen_ok, Sem.run_pure, zeroCells_eq, hv]
    simp only [Builtin.append_, h0, h1, ha0, ha1, Sem.run_bind, run_underlying_ok hu, Result.andThen_ok, hsz, run_underlying_ok hd, Sem.run_pure, if_true, asInt, asIntOf, hw1, Sem.run_ite, hn0, if_false, hti, hb3, Int.toNat_natCast]
    rw [if_neg hne, if_neg (hmax _), if_neg hcap]
    simp only [Sem.run_ite, Sem.run_bind, Sem.run_pure, hz, Result.andThen_ok, zeroCells_eq] at happ
    simp only [Sem.run_bind, run_choose, hq, Bool.false_eq_true, if_false, Result.andThen_ok, hti, run_askRoom, Question.cut, World.drew_eq, hold, Bool.not_true, happ, hz, run_newRow, Sem.run_pure, Nat.add_sub_cancel_left, zeroCells_eq, Sem.run_ite]
    have hcat : ∀ r : List Value, old.toArray ++ vs.toArray ++ r.toArray = (old ++ vs ++ r).toArray := fun r => by simp
    rw [hcat]
    rfl
end
end Go.Adm
set_option linter.unusedVariables false
set_option linter.unusedSimpArgs false
namespace Go.Adm
open Go

section
variable {P : Program} {K : Ctx}

theorem appSrc_ok {G : Prg} (hG : PrgOK G P) (hI : Inv K) {e xt : TypeId} {x : AV} {u : Value} (hx : Rep K x u) (hse : sizeOK G P e) {xs : List AV} {n : Nat} (h : srcOp G K.M e xt x = some (xs, n)) (hl : xs.length = n * G.size e) :
    ∃ vs, RepL K xs vs ∧ AppSrc P K.w (G.size e) (G.ty e).bytes e xt u n vs := by
  by_cases h1 : ∃ k, (G.ty xt).d = .int k
  · obtain ⟨k, hd⟩ := h1
    have hu := int_ty hG hd
    unfold srcOp at h
    rw [hd] at h
    split at h
    · rename_i k' k2 n0 _
      split at h
      · rename_i hc
        obtain ⟨hc1, hc2, hc3⟩ := hc
        simp only [Option.some.injEq, Prod.mk.injEq] at h
        obtain ⟨rfl, rfl⟩ := h
        cases hx
        obtain ⟨z, hz1, hz2, hz3, hz4⟩ := zc_ok (K := K) hG hse hc3
        refine ⟨replV n0.toNat z.cells.toList, hz2.repl, .zeros k k2 hu (by congr 1; omega) (by
          have : ((n0.toNat : Nat) : Int) = n0 := by omega
          rw [← this] at hc2
          have h3 : ((n0.toNat * ((G.ty e).bytes + 1) : Nat) : Int) ≤ 1000000000 := by push_cast; exact hc2
          omega) z hz1 rfl hz4⟩
      · cases h
    · contradiction
    · contradiction
    · cases h
  · obtain ⟨vs, hr, h2, h3⟩ := src_ok hG hI hx hse h hl h1
    obtain ⟨d, hd, hd2⟩ := Option.map_eq_some_iff.1 h3
    exact ⟨vs, hr, .read d hd (fun q e => by subst e; simp at hd2) h2 (by rw [← hr.length]; exact hl)⟩

theorem writeAt_get_in {α : Type} (vs : List α) : ∀ (l : List α) (off j : Nat), j < vs.length → off + vs.length ≤ l.length → (writeAt l off vs)[off + j]? = vs[j]? := by
  induction vs with
  | nil => intro l off j h; simp at h
  | cons v vs ih =>
    intro l off j h hl
    simp only [List.length_cons] at h hl
    cases j with
    | zero =>
      rw [writeAt_cons, writeAt_get_lt _ _ _ _ (by omega), Nat.add_zero, List.getElem?_set_self (by omega)]
      rfl
    | succ j =>
      rw [writeAt_cons, show off + (j + 1) = off + 1 + j by omega, ih _ _ _ (by omega) (by simp; omega)]
      simp

theorem writeAt_prefix {α : Type} (vs l : List α) (off : Nat) (h : off + vs.length ≤ l.length) : (writeAt l off vs).take (off + vs.length) = l.take off ++ vs := by
  apply List.ext_getElem?
  intro j
  by_cases h1 : j < off
  · rw [List.getElem?_take_of_lt (by omega), writeAt_get_lt _ _ _ _ h1, List.getElem?_append_left (by simp; omega), List.getElem?_take_of_lt h1]
  · by_cases h2 : j < off + vs.length
    · rw [List.getElem?_take_of_lt h2, List.getElem?_append_right (by simp; omega)]
      have := writeAt_get_in vs l off (j - off) (by omega) h
      rw [show off + (j - off) = j by omega] at this
      rw [this]
      congr 1
      simp
      omega
    · rw [List.getElem?_eq_none (by simp [writeAt_length]; omega), List.getElem?_eq_none (by simp; omega)]

theorem sizeOK.parts {G : Prg} {e : TypeId} (h : sizeOK G P e) : ∃ i, P.info? e = some i ∧ i.size = G.size e ∧ i.bytes = (G.ty e).bytes := h

theorem append_ok {G : Prg} (hG : PrgOK G P) (hI : Inv K) {st xt ty : TypeId} {d x : AV} {dv xv : Value} (hd : Rep K d dv) (hx : Rep K x xv) {r : Acted} (h : appendOp G K.M st xt d x = some r) :
    Acts P K (Builtin.append_ #[st, xt] ty #[dv, xv]) r := by
  unfold appendOp at h
  split at h
  · rename_i e hde
    obtain ⟨hu, hs⟩ := slice_ty hG hde
    obtain ⟨i, hi1, hi2, hi3⟩ := hs.parts
    split at h
    · rename_i xs n hsrc
      split at h
      · rename_i hc
        obtain ⟨hc1, hc2, hc3, hc4⟩ := hc
        obtain ⟨vs, hr, hA⟩ := appSrc_ok hG hI hx hs hsrc hc1
        obtain ⟨z, hz1, hz2, hz3, hz4⟩ := zc_ok (K := K) hG hs hc4
        obtain ⟨e1, i1⟩ := drew_ok hI
        obtain ⟨vs1, hr1, hA1⟩ := appSrc_ok hG i1 (hx.mono e1.toExt0) hs hsrc hc1
        split at h
        · rename_i hn
          subst hn
          split at h
          · rename_i hsl
            simp only [Option.some.injEq] at h
            subst h
            obtain ⟨len, hlen⟩ := Option.isSome_iff_exists.1 hsl
            obtain ⟨a, c, rfl⟩ := sliceLen_ok hlen hd
            have hcl : len ≤ c := by cases hd <;> first | assumption | (simp [sliceLen] at hlen)
            have hv0 : vs = [] := List.eq_nil_of_length_eq_zero (by have := hr.length; omega)
            subst hv0
            have hrun := run_append_room (P := P) K.w hu hi1 hi2 hi3 hA (len := len) (c := c) (base := a) (by omega) (w' := K.w) (by cases a <;> simp [storeCells]) ty
            exact ⟨_, K, hrun, rfl, Ext.refl K, hI, by simpa using hd⟩
          · cases h
        · rename_i hn
          split at h
          · -- a slice by value, with no spare room
            rename_i cs len k
            split at h
            · rename_i hk
              obtain ⟨hk1, hk2, hk3, hk4⟩ := hk
              simp only [Option.some.injEq] at h
              subst h
              have hd1 := hd.mono e1.toExt0
              cases hd1 with | sl _ _ _ a c b off old hro ha hf hcell hkk hlc =>
              have hcl : c = len := by
                cases k with
                | any => cases hk1
                | full => exact hkk.1
                | nil => obtain ⟨_, h1, h2⟩ := hkk; omega
              subst hcl
              have hol := hro.length
              have hold : (Builtin.firstCells (G.size e) c (.slice a c c)).run P K.w.drew = .ok old.toArray K.w.drew := by
                by_cases hne : cs = []
                · subst hne
                  have h0 : c * G.size e = 0 := by simpa using hk2.symm
                  have h1 : old = [] := List.eq_nil_of_length_eq_zero (by simpa using hol.symm)
                  subst h1
                  cases a with
                  | none => simp [Builtin.firstCells]
                  | some a => simp [Builtin.firstCells, h0, loadCells, loadCellsFrom]
                · have := run_loadCells_list (P := P) K.w.drew (ad b off) old (fun j v hj => by
                    obtain ⟨hj1, hj2⟩ := List.getElem?_eq_some_iff.1 hj
                    rw [ad_add]
                    have := hcell j hj1
                    rw [hj2] at this
                    exact this)
                  rw [ha hne]
                  simp only [Builtin.firstCells]
                  rw [← hk2, hol]
                  exact this
              have hrun := run_append_grow (P := P) K.w hu hi1 hi2 hi3 hA hA1 (len := c) (c := c) (base := a) (by omega) hk4 hz1 hold ty
              generalize K.w.tape K.w.drawn (.appendCap (c + n) c e) % (2 ^ 63 - (c + n)) = ex at hrun
              have hvl := hr1.length
              obtain ⟨K', g1, g2, g3, g4, g5, g6⟩ := alloc_buf i1 (hro.append hr1) (by rw [List.all_append, hk3, hc3]; rfl) hc2 (n := c + n) (by rw [List.length_append, hk2, hc1, Nat.add_mul]) e (0, 0) false (fun _ => .inl rfl)
                (more := replV ex z.cells.toList)
                (K.w.drew.alloc (.cells (old ++ vs1 ++ replV ex z.cells.toList).toArray e)) rfl (fun _ _ => by simp) rfl rfl rfl
              refine ⟨.slice (some (ad K.w.heap.size 0)) (c + n) (c + n + ex), K', ?_, g1, e1.trans g3, g4, ?_⟩
              · rw [hrun, g2]
              · refine .bsl _ _ _ _ _ _ _ g6 (by simp [Ctx.L, g1, verO]) (fun _ _ => ⟨by rw [show K'.at K.M.length = K.w.heap.size from g5], _, ?_, Nat.le_refl _⟩) (by omega) (by simp)
                rw [show K'.at K.M.length = K.w.heap.size from g5, g2]
                have hb : (K.w.drew.alloc (.cells (old ++ vs1 ++ replV ex z.cells.toList).toArray e)).heap[K.w.heap.size]? = some (.cells (old ++ vs1 ++ replV ex z.cells.toList).toArray e (0, 0)) := by
                  show (K.w.heap.push _)[K.w.heap.size]? = _
                  simp
                simp only [bsize, hb]
                congr 1
                simp only [List.size_toArray, List.length_append, replV_length, Array.length_toList, hz4]
                rw [← hol, ← hvl, hk2, hc1, Nat.zero_add, ← Nat.add_mul, ← Nat.add_mul]
            · cases h
          · rename_i o ez ver off len
            split at h
            · rename_i ez' cs v f hM
              split at h
              · rename_i hk
                obtain ⟨rfl, rfl, rfl, rfl, hez1, hez2, hk4⟩ := hk
                simp only [Option.some.injEq] at h
                subst h
                cases hd with | bsl _ _ _ _ _ a c ho hv ha hlc hn =>
                have ho' : o < K.M.length := by rw [← hI.len]; exact ho
                have hob := hI.obj o ho'
                have hMo : K.M[o] = .buf ez' cs len f := by
                  rw [List.getElem?_eq_getElem ho', Option.some.injEq] at hM
                  exact hM
                rw [hMo] at hob
                obtain ⟨cc, t, fr, q1, q2, q3, q4, q5, q6, q7, q8, q9, q9'⟩ := hob
                have hL : K.L o = len := by simp [Ctx.L, hM, verO]
                have hE : K.E o = G.size e := by simp [Ctx.E, hM, eszO, hez1]
                obtain ⟨rfl, nb, hnb, hcap⟩ := ha hL.symm (.inr rfl)
                have hnb' : nb = cc.size := by simp only [bsize, q1, Option.some.injEq] at hnb; exact hnb.symm
                subst hnb'
                have hvl := hr.length
                have hql := q3.length
                have hk2 : cs.length = len * G.size e := by rw [← hez1]; exact q7
                have hxl : xs.length = n * G.size e := hc1
                have hadd : (len + n) * G.size e = len * G.size e + n * G.size e := Nat.add_mul _ _ _
                by_cases hroom : len + n ≤ c
                · -- in place
                  have hfit : len * G.size e + vs.length ≤ cc.size := by
                    have := Nat.mul_le_mul_right (G.size e) hroom
                    omega
                  have hst := run_storeCells_w (P := P) (K.at o) (len * G.size e) t fr vs 0 cc K.w q1 (by omega) (fun off' ho1 ho2 => q4 off' (by omega) ho2) (hr.oneCell hc3)
                  have hrun := run_append_room (P := P) K.w hu hi1 hi2 hi3 hA hroom (base := some (ad (K.at o) 0)) (by simp only [ad_add, Nat.zero_add]; exact hst) ty
                  have hx1 := setRow_heap K.w (K.at o) cc (writeAt cc.toList (len * G.size e + 0) vs).toArray t fr q1
                  have hsz : (writeAt cc.toList (len * G.size e + 0) vs).toArray.size = cc.size := by simp [writeAt_length]
                  have hpre : ((writeAt cc.toList (len * G.size e + 0) vs).take (cs.length + xs.length)) = cc.toList.take cs.length ++ vs := by
                    have := writeAt_prefix vs cc.toList (len * G.size e) (by simpa using hfit)
                    rw [hk2, hvl, Nat.add_zero]
                    exact this
                  obtain ⟨e2, i2⟩ := upd_ok hI ho' (.buf ez' (cs ++ xs) (len + n) f) (K.at o) (K.w.setRow (K.at o) (writeAt cc.toList (len * G.size e + 0) vs).toArray) (.inl rfl) (by rw [size_setRow']; exact hI.at_lt ho') (by rw [size_setRow']; exact Nat.le_refl _) rfl rfl rfl
                    (fun b hb hne => setRow_other _ _ _ _ hne) (fun m hm => bsize_setRow _ _ _ _ _ _ q1 hsz m hm) (fun off' hf => by
                      have : (writeAt cc.toList (len * G.size e + 0) vs)[off']? = cc.toList[off']? := writeAt_get_lt _ _ _ _ (by omega)
                      simp only [World.cell?, hx1, q1, Option.isSome_none, Bool.false_eq_true, if_false]
                      simpa using this)
                    (by rw [hE]; exact hez1) (by rw [hL]; exact Nat.le_add_right _ _) (fun _ => rfl) (fun _ => rfl)
                    (fun e' => ⟨(writeAt cc.toList (len * G.size e + 0) vs).toArray, t, fr, hx1, by rw [hsz, List.length_append]; omega, by
                      rw [List.length_append]
                      simp only [hpre]
                      exact (q3.append hr).mono e'.toExt0, fun off' ho1 ho2 => by
                        have := q4 off' ho1 (by omega)
                        simp only [World.frozen?, q1] at this
                        simp only [World.frozen?, hx1]
                        exact this, q5, by rw [List.length_append]; omega, by rw [List.length_append]; rw [hez1]; omega, q8, by rw [List.all_append, q9, hc3]; rfl, q9'⟩)
                  have hat : (⟨K.M.set o (.buf ez' (cs ++ xs) (len + n) f), K.ι.set o (K.at o), K.F, K.w.setRow (K.at o) (writeAt cc.toList (len * G.size e + 0) vs).toArray, K.B⟩ : Ctx).at o = K.at o := by
                    simp only [Ctx.at, List.getD_eq_getElem?_getD, List.getElem?_set_self ho, Option.getD_some]
                  refine ⟨.slice (some (ad (K.at o) 0)) (len + n) c, _, hrun, rfl, e2, i2, .bsl _ _ _ _ _ _ _ (by simpa using ho) ?_ (fun _ _ => ⟨by rw [hat], cc.size, ?_, hcap⟩) hroom (by simp)⟩
                  · simp only [Ctx.L, List.getElem?_set_self ho', verO]; exact Nat.le_refl _
                  · rw [hat]; exact bsize_setRow _ _ _ _ _ _ q1 hsz _ hnb
                · -- a new row
                  have q1' : K.w.drew.heap[K.at o]? = some (.cells cc t fr) := q1
                  have hr1l := hr1.length
                  have hold : (Builtin.firstCells (G.size e) len (.slice (some (ad (K.at o) 0)) len c)).run P K.w.drew = .ok (cc.toList.take cs.length).toArray K.w.drew := by
                    have := run_loadCells_list (P := P) K.w.drew (ad (K.at o) 0) (cc.toList.take cs.length) (fun j v hj => by
                      obtain ⟨hj1, hj2⟩ := List.getElem?_eq_some_iff.1 hj
                      simp only [List.length_take, Array.length_toList] at hj1
                      rw [ad_add, Nat.zero_add]
                      simp only [World.cell?, q1', Option.isSome_none, Bool.false_eq_true, if_false]
                      rw [← hj2]
                      simp only [List.getElem_take, Array.getElem_toList]
                      exact Array.getElem?_eq_getElem (by omega))
                    have hl2 : (cc.toList.take cs.length).length = len * G.size e := by simp; omega
                    rw [hl2] at this
                    simp only [Builtin.firstCells, this]
                  have hrun := run_append_grow (P := P) K.w hu hi1 hi2 hi3 hA hA1 (len := len) (c := c) (base := some (ad (K.at o) 0)) (by omega) hk4 hz1 hold ty
                  generalize K.w.tape K.w.drawn (.appendCap (len + n) c e) % (2 ^ 63 - (len + n)) = ex at hrun
                  generalize hrow : (cc.toList.take cs.length ++ vs1 ++ replV ex z.cells.toList) = row at hrun
                  have hb : (K.w.drew.alloc (.cells row.toArray e)).heap[K.w.heap.size]? = some (.cells row.toArray e (0, 0)) := by
                    show (K.w.heap.push _)[K.w.heap.size]? = _
                    simp
                  have hlt := hI.at_lt ho'
                  have hrl : row.length = (len + n) * G.size e + ex * G.size e := by
                    rw [← hrow]
                    simp only [List.length_append, List.length_take, Array.length_toList, replV_length, hz4]
                    omega
                  obtain ⟨e2, i2⟩ := upd_ok i1 ho' (.buf ez' (cs ++ xs) (len + n) f) K.w.heap.size (K.w.drew.alloc (.cells row.toArray e)) (.inr (Nat.le_refl _)) (by simp) (by simp) rfl rfl rfl
                    (fun b hb' hne => by
                      show (K.w.heap.push _)[b]? = K.w.heap[b]?
                      rw [Array.getElem?_push, if_neg (by have : b < K.w.heap.size := hb'; omega)])
                    (fun m hm => by
                      have : (K.w.drew.alloc (.cells row.toArray e)).heap[K.at o]? = K.w.heap[K.at o]? := by
                        show (K.w.heap.push _)[K.at o]? = _
                        rw [Array.getElem?_push, if_neg (by omega)]
                      have h2 : bsize K.w (K.at o) = some m := hm
                      show bsize (K.w.drew.alloc (.cells row.toArray e)) (K.at o) = some m
                      unfold bsize at h2 ⊢
                      rw [this]
                      exact h2)
                    (fun off' _ => cell_of_block (by
                      show (K.w.heap.push _)[K.at o]? = K.w.heap[K.at o]?
                      rw [Array.getElem?_push, if_neg (by omega)]) off')
                    (by rw [show (⟨K.M, K.ι, K.F, K.w.drew, K.B⟩ : Ctx).E o = K.E o from rfl, hE]; exact hez1)
                    (by rw [show (⟨K.M, K.ι, K.F, K.w.drew, K.B⟩ : Ctx).L o = K.L o from rfl, hL]; exact Nat.le_add_right _ _)
                    (fun h => by
                      rw [show (⟨K.M, K.ι, K.F, K.w.drew, K.B⟩ : Ctx).L o = K.L o from rfl, hL] at h
                      have : len + n = len := h
                      omega)
                    (fun h => by
                      rw [show (⟨K.M, K.ι, K.F, K.w.drew, K.B⟩ : Ctx).E o = K.E o from rfl, hE] at h
                      omega)
                    (fun e' => ⟨row.toArray, e, (0, 0), hb, by simp only [List.size_toArray, List.length_append]; omega, by
                      have hpre : row.take (cs ++ xs).length = cc.toList.take cs.length ++ vs1 := by
                        rw [← hrow, List.take_left' (by simp; omega)]
                      simp only [hpre]
                      exact ((q3.mono e1.toExt0).append hr1).mono e'.toExt0, fun off' _ ho2 => by simp only [World.frozen?, hb]; simp, by
                      show K.F K.w.heap.size ≤ f
                      have : K.F K.w.heap.size = 0 := by
                        rcases Nat.eq_zero_or_pos (K.F K.w.heap.size) with h | h
                        · exact h
                        · have := hI.F _ h; omega
                      omega, by rw [List.length_append]; omega, by rw [List.length_append]; rw [hez1]; omega, q8, by rw [List.all_append, q9, hc3]; rfl, hez2.symm, fun _ => .inl rfl⟩)
                  have hat : (⟨K.M.set o (.buf ez' (cs ++ xs) (len + n) f), K.ι.set o K.w.heap.size, K.F, K.w.drew.alloc (.cells row.toArray e), K.B⟩ : Ctx).at o = K.w.heap.size := by
                    simp only [Ctx.at, List.getD_eq_getElem?_getD, List.getElem?_set_self ho, Option.getD_some]
                  refine ⟨.slice (some (ad K.w.heap.size 0)) (len + n) (len + n + ex), _, hrun, rfl, e1.trans e2, i2, .bsl _ _ _ _ _ _ _ (by simpa using ho) ?_ (fun _ _ => ⟨by rw [hat], row.length, ?_, ?_⟩) (by omega) (by simp)⟩
                  · simp only [Ctx.L, List.getElem?_set_self ho', verO]; exact Nat.le_refl _
                  · rw [hat]
                    simp only [bsize, hb]
                    simp
                  · rw [hrl, Nat.zero_add, Nat.add_mul]
                    exact Nat.le_refl _
              · cases h
            · cases h
          · cases h
      · cases h
    · cases h
  · cases h
end
end Go.Adm
set_option linter.unusedVariables false
set_option linter.unusedSimpArgs false
namespace Go.Adm
open Go

section
variable {P : Program} {K : Ctx}

theorem ptr_ty {G : Prg} (hG : PrgOK G P) {t u : TypeId} (hd : (G.ty t).d = .ptr u) : P.underlying t = some (.pointer u) ∧ sizeOK G P u := by
  have ht := hG.ty t
  unfold TyOK at ht
  simp only [hd, reduceCtorEq, false_and, false_or] at ht
  exact ht.2.2

theorem freeze_heapA (w : World) {b off n : Nat} {c : Array Value} {t : TypeId} {fr : Nat × Nat} (hn : 0 < n) (h : w.heap[b]? = some (.cells c t fr)) :
    (w.freeze (ad b off) n).heap[b]? = some (.cells c t (if fr.1 == fr.2 then (off, off + n) else (min fr.1 off, max fr.2 (off + n)))) ∧ (∀ i, i ≠ b → (w.freeze (ad b off) n).heap[i]? = w.heap[i]?) ∧ (w.freeze (ad b off) n).heap.size = w.heap.size := by
  obtain ⟨lo, hi⟩ := fr
  unfold World.freeze
  rw [if_neg (by omega)]
  refine ⟨?_, fun i hi => ?_, by simp⟩
  · simp only [Array.getElem?_modify, h]
    simp
  · simp only [Array.getElem?_modify]
    rw [if_neg (fun e => hi e.symm)]

theorem toBytes_exact {cs : List AV} {s : List UInt8} (h : toBytes cs = some s) (hb : cs.all AV.isByte = true) : cs = s.map fun x => AV.i .u8 (x.toNat : Int) := by
  induction cs generalizing s with
  | nil => simp only [toBytes, Option.some.injEq] at h; subst h; rfl
  | cons x r ih =>
    rw [List.all_cons, Bool.and_eq_true] at hb
    unfold toBytes at h
    split at h
    · rename_i heq; cases heq
    · rename_i n r' heq
      cases heq
      cases hr : toBytes r with
      | none => simp [hr] at h
      | some l =>
        simp only [hr, Option.some.injEq] at h
        subst h
        have h1 := hb.1
        simp only [AV.isByte, Bool.and_eq_true, decide_eq_true_eq] at h1
        rw [List.map_cons, ← ih hr hb.2]
        congr 2
        simp only [UInt8.toNat_ofNat']
        omega
    · cases h

theorem unsafeString_ok {G : Prg} (hG : PrgOK G P) (hI : Inv K) {pt : TypeId} {p n : AV} {pv nv : Value} (hp : Rep K p pv) (hn : Rep K n nv) {r : Acted} (h : unsafeStringOp G K.M pt p n = some r) (it ty : TypeId) :
    Acts P K (Builtin.unsafeString_ #[pt, it] ty #[pv, nv]) r := by
  unfold unsafeStringOp at h
  split at h
  · rename_i n'
    cases hn
    split at h
    · rename_i hz
      subst hz
      have hrun : ∀ q : Option Addr, (Builtin.unsafeString_ #[pt, it] ty #[.pointer q, .int .i64 0]).run P K.w = .ok (.string ⟨([] : List UInt8).toArray⟩) K.w := fun q => Lib.run_unsafeString_none K.w pt it ty q
      split at h
      · cases h
        cases hp
        exact ⟨_, K, hrun _, rfl, Ext.refl K, hI, .s []⟩
      · cases h
        cases hp
        exact ⟨_, K, hrun _, rfl, Ext.refl K, hI, .s []⟩
      · cases h
    · rename_i hnz
      split at h
      · rename_i u o ver hd
        obtain ⟨hu, hsu⟩ := ptr_ty hG hd
        split at h
        · rename_i e cs v f hM
          split at h
          · rename_i hc
            obtain ⟨rfl, rfl, he1, hem, hgu, hpos, hle, hbig, hbyte⟩ := hc
            split at h
            · rename_i s hs
              cases h
              cases hp with | bp _ _ _ a ho hv ha =>
              have ho' : o < K.M.length := by rw [← hI.len]; exact ho
              have hob := hI.obj o ho'
              have hMo : K.M[o] = .buf e cs v f := by
                rw [List.getElem?_eq_getElem ho', Option.some.injEq] at hM
                exact hM
              rw [hMo] at hob
              obtain ⟨c, t, fr, q1, q2, q3, q4, q5, q6, q7, q8, q9, q10, q11⟩ := hob
              subst q10
              have hL : K.L o = v := by simp [Ctx.L, hM, verO]
              have hE : K.E o = 1 := by simp [Ctx.E, hM, eszO, he1]
              have hae := ha hL.symm
              subst hae
              have hex := toBytes_exact hs hbyte
              have hsl : s.length = n'.toNat := by
                have := congrArg List.length hex
                simp only [List.length_take, List.length_map] at this
                omega
              have hr3 := q3.take n'.toNat
              rw [hex] at hr3
              have hnums : (c.toList.take cs.length).take n'.toNat = s.map fun x => Value.int .u8 (x.toNat : Int) := by
                have : RepL K ((s.map fun x => (x.toNat : Int)).map fun n => AV.i .u8 n) ((c.toList.take cs.length).take n'.toNat) := by
                  rw [List.map_map]
                  exact hr3
                rw [this.nums, List.map_map]
                rfl
              have hcells : ∀ j x, s[j]? = some x → K.w.cell? ((⟨K.at o, 0, none⟩ : Addr).add j) = some (.int .u8 x.toNat) := fun j x hj => by
                have hjl : j < s.length := (List.getElem?_eq_some_iff.1 hj).1
                have h1 := congrArg (fun l => l[j]?) hnums
                simp only [List.getElem?_take, List.getElem?_map, hj, Option.map_some] at h1
                rw [if_pos (by omega), if_pos (by omega)] at h1
                rw [show (⟨K.at o, 0, none⟩ : Addr).add j = ad (K.at o) (0 + j) from ad_add _ _ _, Nat.zero_add]
                simp only [World.cell?, q1, Option.isSome_none, Bool.false_eq_true, if_false]
                rw [← Array.getElem?_toList]
                exact h1
              have hcz : P.cellsOf e.t = 1 := by rw [cellsOf_ok hsu]; exact hgu
              have hrun := Lib.run_unsafeString_row (P := P) K.w pt it ty e.t hu hcz (K.at o) c.size (by simp [World.shape?, q1]) s (fun e0 => by subst e0; simp at hsl; omega) (by omega) (by omega) hcells
              obtain ⟨g1, g2, g3⟩ := freeze_heapA K.w (off := 0) (n := s.length) (by omega) q1
              obtain ⟨e2, i2⟩ := upd_ok hI ho' (.buf e cs v (max f n'.toNat)) (K.at o) (K.w.freeze (ad (K.at o) 0) s.length) (.inl rfl) (by rw [g3]; exact hI.at_lt ho') (by rw [g3]; exact Nat.le_refl _)
                (by unfold World.freeze; split <;> rfl) (by unfold World.freeze; split <;> rfl) (by unfold World.freeze; split <;> rfl)
                (fun b hb hne => g2 b hne) (fun m hm => by
                  unfold bsize at hm ⊢
                  rw [q1] at hm
                  rw [g1]
                  exact hm) (fun off' _ => by
                  simp only [World.cell?, g1, q1])
                (by rw [hE]; exact he1) (by rw [hL]; exact Nat.le_refl _) (fun _ => rfl) (fun _ => rfl)
                (fun e' => by
                  refine ⟨c, e.t, _, g1, q2, q3.mono e'.toExt0, fun off' ho1 ho2 => ?_, ?_, ?_, q7, q8, q9, rfl, fun _ => ?_⟩
                  · have h4 := q4 off' (by omega) ho2
                    obtain ⟨lo, hi⟩ := fr
                    simp only [World.frozen?, q1] at h4
                    simp only [World.frozen?, g1]
                    have h11 := q11 hem
                    simp only at h11 h4 ⊢
                    rw [Bool.and_eq_false_iff, decide_eq_false_iff_not, decide_eq_false_iff_not] at h4 ⊢
                    by_cases hlh : lo = hi
                    · simp only [hlh, beq_self_eq_true, if_true]
                      omega
                    · have : (lo == hi) = false := by simpa using hlh
                      simp only [this, Bool.false_eq_true, if_false]
                      omega
                  · show K.F (K.at o) ≤ _
                    omega
                  · omega
                  · obtain ⟨lo, hi⟩ := fr
                    have h11 := q11 hem
                    simp only at h11 ⊢
                    by_cases hlh : lo = hi
                    · simp only [hlh, beq_self_eq_true, if_true]
                      omega
                    · have : (lo == hi) = false := by simpa using hlh
                      simp only [this, Bool.false_eq_true, if_false]
                      omega)
              refine ⟨.string ⟨s.toArray⟩, _, ?_, rfl, e2, i2, .s s⟩
              have hni : n' = ((s.length : Nat) : Int) := by omega
              rw [hni]
              exact hrun
            · cases h
          · cases h
        · cases h
      · cases h
  · cases h
end
end Go.Adm
set_option linter.unusedVariables false
set_option linter.unusedSimpArgs false
namespace Go.Adm
open Go

section
variable {P : Program} {K : Ctx}

/-- The acting operations. -/
theorem act_ok {G : Prg} (hG : PrgOK G P) (hI : Inv K) {env : List AV} {a : Act} (hE : EnvOK K env a) {o : Oper} {r : Acted} (h : actOp G K.M env o = some r) :
    ∃ K', ((∃ u, (execOp a.eval o).run P K.w = .ok (.value u) K'.w ∧ Rep K' r.1 u) ∨ ((execOp a.eval o).run P K.w = .ok .skip K'.w ∧ r.1 = .un)) ∧ K'.M = r.2.1 ∧ Ext K K' ∧ Inv K' := by
  have key : ∀ {s : Sem Value}, Acts P K s r → ∃ K', ((∃ u, ((do pure (Next.value (← s))) : Sem Next).run P K.w = .ok (.value u) K'.w ∧ Rep K' r.1 u) ∨ (((do pure (Next.value (← s))) : Sem Next).run P K.w = .ok .skip K'.w ∧ r.1 = .un)) ∧ K'.M = r.2.1 ∧ Ext K K' ∧ Inv K' :=
    fun ⟨u, K', h1, h2, h3, h4, h5⟩ => ⟨K', .inl ⟨u, by simp [h1], h5⟩, h2, h3, h4⟩
  have keyU : ∀ {s : Sem Unit}, ActsU P K s r → ∃ K', ((∃ u, ((do s; pure Next.skip) : Sem Next).run P K.w = .ok (.value u) K'.w ∧ Rep K' r.1 u) ∨ (((do s; pure Next.skip) : Sem Next).run P K.w = .ok .skip K'.w ∧ r.1 = .un)) ∧ K'.M = r.2.1 ∧ Ext K K' ∧ Inv K' :=
    fun ⟨K', h1, h2, h3, h4, h5⟩ => ⟨K', .inr ⟨by simp [h1], h5⟩, h2, h3, h4⟩
  unfold actOp at h
  unfold execOp
  split at h <;> rename_i ho
  all_goals simp only [ho]
  -- buildSlice
  · rename_i t n ps
    refine key ?_
    have e : (ps.map fun x => (x.fst, a.eval x.snd)) = (ps.toList.map fun p => (p.1, a.eval p.2)).toArray := by
      apply Array.ext'
      simp
    rw [e]
    exact buildSlice_ok hG hI hE h
  -- alloc
  · rename_i t
    by_cases hb : (G.ty t).d = .bad
    · exfalso
      rcases hG.ty t with ⟨_, _, hz⟩ | ⟨_, _, hz⟩
      · rw [hz] at h
        simp [boxOp, AV.cells, AV.cell] at h
      · rw [hb] at hz; exact hz
    · exact key (allocI_ok hG hI h hb)
  -- box
  · exact key (box_ok hI (hE.eval _) _ h)
  -- store
  · exact keyU (store_ok hG hI (hE.eval _) (hE.eval _) h)
  -- makeMap
  · simp only [Option.some.injEq] at h
    subst h
    exact key (makeMap_ok hI _)
  -- makeSlice
  · exact key (makeSlice_ok hG hI (hE.eval _) (hE.eval _) h)
  -- convert
  · exact key (conv_ok hG hI (hE.eval _) h)
  -- mapUpdate, insert
  · exact keyU (mapSet_ok hG hI (hE.eval _) (hE.eval _) (hE.eval _) h)
  · exact keyU (mapSet_ok hG hI (hE.eval _) (hE.eval _) (hE.eval _) h)
  -- mapEntry
  · exact key (mapEntry_ok hG hI (hE.eval _) (hE.eval _) h)
  -- entryStore
  · exact keyU (entryStore_ok hI (hE.eval _) (hE.eval _) (hE.eval _) h)
  -- call
  · rename_i c
    split at h
    · rename_i st xt d x hc ht hx
      have e1 : c.argTypes = #[st, xt] := by apply Array.ext'; simpa using ht
      have e2 : c.args.map a.eval = #[a.eval d, a.eval x] := by apply Array.ext'; simp [hx]
      obtain ⟨u, K', h1, h2, h3, h4, h5⟩ := append_ok (ty := o.type) hG hI (hE.eval d) (hE.eval x) h
      refine ⟨K', .inl ⟨u, ?_, h5⟩, h2, h3, h4⟩
      simp only [resolve, hc, Sem.run_bind, Sem.run_pure, Result.andThen_ok, invoke, Go.builtin, e1, e2, h1]
    · rename_i dt xt d x hc ht hx
      have e1 : c.argTypes = #[dt, xt] := by apply Array.ext'; simpa using ht
      have e2 : c.args.map a.eval = #[a.eval d, a.eval x] := by apply Array.ext'; simp [hx]
      obtain ⟨u, K', h1, h2, h3, h4, h5⟩ := copy_ok (ty := o.type) hG hI (hE.eval d) (hE.eval x) h
      refine ⟨K', .inl ⟨u, ?_, h5⟩, h2, h3, h4⟩
      simp only [resolve, hc, Sem.run_bind, Sem.run_pure, Result.andThen_ok, invoke, Go.builtin, e1, e2, h1]
    · rename_i t ts m k hc ht hx
      have e1 : c.argTypes = (t :: ts).toArray := by apply Array.ext'; simpa using ht
      have e2 : c.args.map a.eval = #[a.eval m, a.eval k] := by apply Array.ext'; simp [hx]
      obtain ⟨u, K', h1, h2, h3, h4, h5⟩ := delete_ok (ty := o.type) (ts := ts) hG hI (hE.eval m) (hE.eval k) h
      refine ⟨K', .inl ⟨u, ?_, h5⟩, h2, h3, h4⟩
      simp only [resolve, hc, Sem.run_bind, Sem.run_pure, Result.andThen_ok, invoke, Go.builtin, e1, e2, h1]
    · rename_i t ts m hc ht hx
      have e1 : c.argTypes = (t :: ts).toArray := by apply Array.ext'; simpa using ht
      have e2 : c.args.map a.eval = #[a.eval m] := by apply Array.ext'; simp [hx]
      obtain ⟨u, K', h1, h2, h3, h4, h5⟩ := clear_ok (ty := o.type) (ts := ts) hG hI (hE.eval m) h
      refine ⟨K', .inl ⟨u, ?_, h5⟩, h2, h3, h4⟩
      simp only [resolve, hc, Sem.run_bind, Sem.run_pure, Result.andThen_ok, invoke, Go.builtin, e1, e2, h1]
    · rename_i pt it p n hc ht hx
      have e1 : c.argTypes = #[pt, it] := by apply Array.ext'; simpa using ht
      have e2 : c.args.map a.eval = #[a.eval p, a.eval n] := by apply Array.ext'; simp [hx]
      obtain ⟨u, K', h1, h2, h3, h4, h5⟩ := unsafeString_ok hG hI (hE.eval p) (hE.eval n) h it o.type
      refine ⟨K', .inl ⟨u, ?_, h5⟩, h2, h3, h4⟩
      simp only [resolve, hc, Sem.run_bind, Sem.run_pure, Result.andThen_ok, invoke, Go.builtin, e1, e2, h1]
    · cases h
  · cases h
end
end Go.Adm
set_option linter.unusedVariables false
set_option linter.unusedSimpArgs false
namespace Go.Adm
open Go

section
variable {P : Program} {K : Ctx}

mutual
theorem Rep.refs {K : Ctx} : {x : AV} → {v : Value} → Rep K x v → refs K.ι.length x = true
  | _, _, .un => rfl
  | _, _, .any v => rfl
  | _, _, .b x => rfl
  | _, _, .i k n => rfl
  | _, _, .s x => rfl
  | _, _, .nilp => rfl
  | _, _, .nilm => rfl
  | _, _, .nilf => rfl
  | _, _, .nili => rfl
  | _, _, .ie t x => rfl
  | _, _, .gp g => rfl
  | _, _, .ga g off => rfl
  | _, _, .agg cs vs h => RepL.refsL h
  | _, _, .tup cs vs h => RepL.refsL h
  | _, _, .ptr o off h hE => by simpa [Adm.refs] using h
  | _, _, .bp o ver off a h hv ha => by simpa [Adm.refs] using h
  | _, _, .bsl o ez ver off len a c h hv ha hc hn => by simpa [Adm.refs] using h
  | _, _, .asl o off len a c h hE ha hc hn => by simpa [Adm.refs] using h
  | _, _, .sl cs len k a c b off vs h ha hf hcell hk hc => RepL.refsL h
  | _, _, .ep cs b off vs h hf hcell => RepL.refsL h
  | _, _, .mp o h hE => by simpa [Adm.refs] using h
  | _, _, .fn f cs vs h => RepL.refsL h
theorem RepL.refsL {K : Ctx} : {xs : List AV} → {vs : List Value} → RepL K xs vs → refs.refsL K.ι.length xs = true
  | _, _, .nil => rfl
  | _, _, .cons x v xs vs h t => by simp [refs.refsL, Rep.refs h, RepL.refsL t]
end

/-- The context without its last objects. -/
def Ctx.cut (K : Ctx) (n : Nat) : Ctx := ⟨K.M.take n, K.ι.take n, K.F, K.w, K.B⟩

theorem Ctx.cut_at (K : Ctx) {n o : Nat} (h : o < n) : (K.cut n).at o = K.at o := by
  simp only [Ctx.at, Ctx.cut, List.getD_eq_getElem?_getD, List.getElem?_take_of_lt h]
theorem Ctx.cut_L (K : Ctx) {n o : Nat} (h : o < n) : (K.cut n).L o = K.L o := by
  simp only [Ctx.L, Ctx.cut, List.getElem?_take_of_lt h]
theorem Ctx.cut_E (K : Ctx) {n o : Nat} (h : o < n) : (K.cut n).E o = K.E o := by
  simp only [Ctx.E, Ctx.cut, List.getElem?_take_of_lt h]
theorem Ctx.cut_lt (K : Ctx) {n o : Nat} (h : o < n) (ho : o < K.ι.length) : o < (K.cut n).ι.length := by
  simp only [Ctx.cut, List.length_take]; omega

mutual
theorem Rep.cut {K : Ctx} {n : Nat} : {x : AV} → {v : Value} → Rep K x v → refs n x = true → Rep (K.cut n) x v
  | _, _, .un, _ => .un
  | _, _, .any v, _ => .any v
  | _, _, .b x, _ => .b x
  | _, _, .i k n, _ => .i k n
  | _, _, .s x, _ => .s x
  | _, _, .nilp, _ => .nilp
  | _, _, .nilm, _ => .nilm
  | _, _, .nilf, _ => .nilf
  | _, _, .nili, _ => .nili
  | _, _, .ie t x, _ => .ie t x
  | _, _, .gp g, _ => .gp g
  | _, _, .ga g off, _ => .ga g off
  | _, _, .agg cs vs h, r => .agg cs vs (RepL.cut h r)
  | _, _, .tup cs vs h, r => .tup cs vs (RepL.cut h r)
  | _, _, .ptr o off h hE, r => by
      have r : o < n := by simpa [Adm.refs] using r
      rw [← K.cut_at r]
      exact .ptr o off (K.cut_lt r h) ((K.cut_E r).trans hE)
  | _, _, .bp o ver off a h hv ha, r => by
      have r : o < n := by simpa [Adm.refs] using r
      exact .bp o ver off a (K.cut_lt r h) (by rw [K.cut_L r]; exact hv) (fun e => by rw [K.cut_at r]; exact ha (by rw [← K.cut_L r]; exact e))
  | _, _, .bsl o ez ver off len a c h hv ha hc hn, r => by
      have r : o < n := by simpa [Adm.refs] using r
      exact .bsl o ez ver off len a c (K.cut_lt r h) (by rw [K.cut_L r]; exact hv) (fun e hp => by rw [K.cut_at r]; exact ha (by rw [← K.cut_L r]; exact e) hp) hc hn
  | _, _, .asl o off len a c h hE ha hc hn, r => by
      have r : o < n := by simpa [Adm.refs] using r
      exact .asl o off len a c (K.cut_lt r h) ((K.cut_E r).trans hE) (fun hp => by rw [K.cut_at r]; exact ha hp) hc hn
  | _, _, .sl cs len k a c b off vs h ha hf hcell hk hc, r => .sl cs len k a c b off vs (RepL.cut h r) ha hf hcell (by cases k <;> exact hk) hc
  | _, _, .ep cs b off vs h hf hcell, r => .ep cs b off vs (RepL.cut h r) hf hcell
  | _, _, .mp o h hE, r => by
      have r : o < n := by simpa [Adm.refs] using r
      rw [← K.cut_at r]
      exact .mp o (K.cut_lt r h) ((K.cut_E r).trans hE)
  | _, _, .fn f cs vs h, r => .fn f cs vs (RepL.cut h r)
theorem RepL.cut {K : Ctx} {n : Nat} : {xs : List AV} → {vs : List Value} → RepL K xs vs → refs.refsL n xs = true → RepL (K.cut n) xs vs
  | _, _, .nil, _ => .nil
  | _, _, .cons x v xs vs h t, r => by
      simp only [refs.refsL, Bool.and_eq_true] at r
      exact .cons x v xs vs (Rep.cut h r.1) (RepL.cut t r.2)
end

theorem refsE_get {n : Nat} {es : List (AV × AV × Nat)} (h : refsE n es = true) (j : Nat) (hj : j < es.length) : refs n es[j].1 = true ∧ refs n es[j].2.1 = true := by
  induction es generalizing j with
  | nil => simp at hj
  | cons x es ih =>
    obtain ⟨k, v, b⟩ := x
    simp only [refsE, Bool.and_eq_true] at h
    cases j with
    | zero => exact h.1
    | succ j => exact ih h.2 j (by simpa using hj)

theorem refsE_of {n : Nat} {es : List (AV × AV × Nat)} (h : ∀ j (hj : j < es.length), refs n es[j].1 = true ∧ refs n es[j].2.1 = true) : refsE n es = true := by
  induction es with
  | nil => rfl
  | cons x es ih =>
    obtain ⟨k, v, b⟩ := x
    have h0 := h 0 (by simp)
    simp only [refsE, Bool.and_eq_true]
    exact ⟨h0, ih fun j hj => h (j + 1) (by simpa using hj)⟩

theorem ObjOK.cut {b n : Nat} {x : AObj} (h : ObjOK K b x) (hr : refsO n x = true) : ObjOK (K.cut n) b x := by
  cases x with
  | box cs =>
    obtain ⟨c, t, fr, h1, h2, h3, h4, h5⟩ := h
    exact ⟨c, t, fr, h1, h2.cut hr, h3, h4, h5⟩
  | buf ez cs ver fz =>
    obtain ⟨c, t, fr, h1, h2, h3, h4, h5, h6, h7, h8, h9⟩ := h
    exact ⟨c, t, fr, h1, h2, h3.cut hr, h4, h5, h6, h7, h8, h9⟩
  | map es c =>
    obtain ⟨ents, h1, h2, h3⟩ := h
    exact ⟨ents, h1, ⟨h2.1, fun j g1 g2 => ⟨(h2.2 j g1 g2).1.cut (refsE_get hr j g1).1, (h2.2 j g1 g2).2.1.cut (refsE_get hr j g1).2, (h2.2 j g1 g2).2.2⟩⟩, h3⟩

theorem ObjOK.refs {b : Nat} {x : AObj} (h : ObjOK K b x) : refsO K.ι.length x = true := by
  cases x with
  | box cs =>
    obtain ⟨c, t, fr, h1, h2, h3, h4, h5⟩ := h
    exact h2.refsL
  | buf ez cs ver fz =>
    obtain ⟨c, t, fr, h1, h2, h3, h4, h5, h6, h7, h8, h9⟩ := h
    exact h3.refsL
  | map es c =>
    obtain ⟨ents, h1, h2, h3⟩ := h
    exact refsE_of fun j hj => ⟨(h2.2 j hj (by have := h2.1; omega)).1.refs, (h2.2 j hj (by have := h2.1; omega)).2.1.refs⟩

/-- The last objects are forgotten. -/
theorem cut_ok (hI : Inv K) {K0 : Ctx} (e : Ext K0 K) {n : Nat} (hn : K0.ι.length ≤ n) (hr : ∀ o (h : o < K.M.length), o < n → refsO n K.M[o] = true) : Ext K0 (K.cut n) ∧ Inv (K.cut n) := by
  have hlen : (K.cut n).ι.length = min n K.ι.length := by simp [Ctx.cut]
  have hlt : ∀ o, o < (K.cut n).ι.length → o < n ∧ o < K.ι.length := fun o ho => by rw [hlen] at ho; omega
  have h0 : ∀ o, o < K0.ι.length → o < n := fun o ho => by omega
  refine ⟨⟨⟨e.B, by rw [hlen]; have := e.len; omega, fun o ho => by rw [K.cut_E (h0 o ho)]; exact e.E o ho, fun o ho => by rw [K.cut_L (h0 o ho)]; exact e.L o ho, fun o ho hl => by
      rw [K.cut_at (h0 o ho)]; exact e.at_ o ho (by rw [← K.cut_L (h0 o ho)]; exact hl), fun o ho he => by rw [K.cut_at (h0 o ho)]; exact e.at0 o ho he, e.F, e.bsize, e.heap, e.os, e.tape, e.output⟩, fun o ho => ?_, e.frame, e.frameF⟩, ?_⟩
  · obtain ⟨h1, h2⟩ := hlt o ho
    rw [K.cut_at h1]
    exact e.new o h2
  · refine ⟨by simp [Ctx.cut, hI.len], fun i j hi hj hij => ?_, fun o ho => ?_, fun o ho => ?_, fun o ho => ?_, hI.F, hI.baseH, hI.mark, hI.glob⟩
    · obtain ⟨h1, h2⟩ := hlt i hi
      obtain ⟨h3, h4⟩ := hlt j hj
      rw [K.cut_at h1, K.cut_at h3] at hij
      exact hI.inj i j h2 h4 hij
    · obtain ⟨h1, h2⟩ := hlt o ho
      rw [K.cut_at h1]
      exact hI.lt o h2
    · obtain ⟨h1, h2⟩ := hlt o ho
      rw [K.cut_at h1]
      exact hI.base o h2
    · have ho' : o < n ∧ o < K.M.length := by simp [Ctx.cut] at ho; omega
      rw [K.cut_at ho'.1]
      have : (K.cut n).M[o] = K.M[o] := by simp [Ctx.cut]
      rw [this]
      exact (hI.obj o ho'.2).cut (hr o ho'.2 ho'.1)
end
end Go.Adm
set_option linter.unusedVariables false
set_option linter.unusedSimpArgs false
namespace Go.Adm
open Go

section
variable {P : Program} {K : Ctx}

/-- The world stays; the value reads as another one. -/
def FZ (M : List AObj) (x : AV) (r : Acted) : Prop :=
  (r.2.1.length = M.length ∧ ∀ o, o ∉ r.2.2 → r.2.1[o]? = M[o]?) ∧ ∀ (K : Ctx) (v : Value), K.M = M → Inv K → Rep K x v → ∃ K', K'.w = K.w ∧ K'.M = r.2.1 ∧ Ext K K' ∧ Inv K' ∧ Rep K' r.1 v
def FZL (M : List AObj) (xs : List AV) (r : List AV × List AObj × List Nat) : Prop :=
  (r.2.1.length = M.length ∧ ∀ o, o ∉ r.2.2 → r.2.1[o]? = M[o]?) ∧ ∀ (K : Ctx) (vs : List Value), K.M = M → Inv K → RepL K xs vs → ∃ K', K'.w = K.w ∧ K'.M = r.2.1 ∧ Ext K K' ∧ Inv K' ∧ RepL K' r.1 vs

theorem FZ.same (M : List AObj) (x : AV) : FZ M x (x, M, []) := ⟨⟨rfl, fun _ _ => rfl⟩, fun K v hM hI hx => ⟨K, rfl, hM, Ext.refl K, hI, hx⟩⟩

theorem freezeL_ok {fz : List AObj → AV → Option Acted} (hf : ∀ M x r, fz M x = some r → FZ M x r) : ∀ (xs : List AV) (M : List AObj) (r : List AV × List AObj × List Nat), freezeL fz M xs = some r → FZL M xs r := by
  intro xs
  induction xs with
  | nil =>
    intro M r h
    simp only [freezeL, Option.some.injEq] at h
    subst h
    exact ⟨⟨rfl, fun _ _ => rfl⟩, fun K vs hM hI hx => ⟨K, rfl, hM, Ext.refl K, hI, hx⟩⟩
  | cons x xs ih =>
    intro M r h
    simp only [freezeL] at h
    split at h
    · rename_i y M1 D1 h1
      split at h
      · rename_i ys M2 D2 h2
        simp only [Option.some.injEq] at h
        subst h
        obtain ⟨⟨a1, a2⟩, a3⟩ := hf _ _ _ h1
        obtain ⟨⟨b1, b2⟩, b3⟩ := ih _ _ h2
        refine ⟨⟨b1.trans a1, fun o ho => ?_⟩, fun K vs hM hI hx => ?_⟩
        · simp only [List.mem_append, not_or] at ho
          exact (b2 o ho.2).trans (a2 o ho.1)
        · cases hx with | cons _ v _ vs hx hxs =>
          obtain ⟨K1, c1, c2, c3, c4, c5⟩ := a3 K v hM hI hx
          obtain ⟨K2, d1, d2, d3, d4, d5⟩ := b3 K1 vs c2 c4 (hxs.mono c3.toExt0)
          exact ⟨K2, d1.trans c1, d2, c3.trans d3, d4, .cons _ _ _ _ (c5.mono d3.toExt0) d5⟩
      · cases h
    · cases h

theorem freezeC_ok {fz : List AObj → AV → Option Acted} (hf : ∀ M x r, fz M x = some r → FZ M x r) (xs : List AV) (M : List AObj) (r : List AV × List AObj × List Nat) (h : freezeC fz M xs = some r) : FZL M xs r := by
  unfold freezeC at h
  split at h
  · simp only [Option.some.injEq] at h
    subst h
    exact ⟨⟨rfl, fun _ _ => rfl⟩, fun K vs hM hI hx => ⟨K, rfl, hM, Ext.refl K, hI, hx⟩⟩
  · exact freezeL_ok hf _ _ _ h

/-- A buffer's cells are not written any more. -/
theorem freeze_buf (hI : Inv K) {o v f : Nat} {e : ES} {cs cs' : List AV} (hM : K.M[o]? = some (.buf e cs v f)) (hl : cs'.length = cs.length) (hc : cs'.all AV.cell = true) (ho : o < K.ι.length)
    (hr : ∀ c t fr, K.w.heap[K.at o]? = some (.cells c t fr) → RepL K cs' (c.toList.take cs'.length)) :
    ∃ K', K'.w = K.w ∧ K'.M = K.M.set o (.buf e cs' v cs'.length) ∧ Ext K K' ∧ Inv K' ∧ (∀ i, K'.at i = K.at i) ∧ K'.F (K.at o) = cs'.length := by
  have ho' : o < K.M.length := by rw [← hI.len]; exact ho
  have hob := hI.obj o ho'
  rw [List.getElem?_eq_getElem ho', Option.some.injEq] at hM
  rw [hM] at hob
  obtain ⟨c, t, fr, h1, h2, h3, h4, h5, h6, h7, h8, h9, h9'⟩ := hob
  let F' : Nat → Nat := fun b => if b = K.at o then cs'.length else K.F b
  have hF' : ∀ b, K.F b ≤ F' b := fun b => by
    show K.F b ≤ if b = K.at o then cs'.length else K.F b
    split
    · rename_i e; subst e; omega
    · exact Nat.le_refl _
  have hMs : (K.M.set o (.buf e cs' v cs'.length)).length = K.M.length := by simp
  have hMi : ∀ i, i ≠ o → (K.M.set o (.buf e cs' v cs'.length))[i]? = K.M[i]? := fun i hi => List.getElem?_set_ne (Ne.symm hi)
  have hMo : (K.M.set o (.buf e cs' v cs'.length))[o]? = some (.buf e cs' v cs'.length) := List.getElem?_set_self ho'
  have hMo0 : K.M[o]? = some (.buf e cs v f) := by rw [List.getElem?_eq_getElem ho', hM]
  have hext : Ext K ⟨K.M.set o (.buf e cs' v cs'.length), K.ι, F', K.w, K.B⟩ := by
    refine ⟨⟨rfl, Nat.le_refl _, fun i _ => ?_, fun i _ => ?_, fun _ _ _ => rfl, fun _ _ _ => rfl, fun b off hf => ⟨Nat.lt_of_lt_of_le hf (hF' b), rfl⟩, fun _ _ h => h, Nat.le_refl _, rfl, rfl, rfl⟩, fun i hi => .inl ⟨i, hi, rfl⟩, fun _ _ _ => .inl rfl, fun b hb hn => by
      show (if b = K.at o then cs'.length else K.F b) = K.F b
      rw [if_neg (fun e => hn o ho e.symm)]⟩
    · by_cases hi : i = o
      · subst hi; simp only [Ctx.E, hMo, hMo0, eszO]
      · simp only [Ctx.E, hMi i hi]
    · by_cases hi : i = o
      · subst hi; simp only [Ctx.L, hMo, hMo0, verO]; exact Nat.le_refl _
      · simp only [Ctx.L, hMi i hi]; exact Nat.le_refl _
  have hFo : F' (K.at o) = cs'.length := by show (if K.at o = K.at o then _ else _) = _; simp
  refine ⟨⟨K.M.set o (.buf e cs' v cs'.length), K.ι, F', K.w, K.B⟩, rfl, rfl, hext, ⟨by rw [hMs]; exact hI.len, hI.inj, hI.lt, hI.base, fun i hi => ?_, fun b hb => ?_, hI.baseH, fun b n hn hm => ?_, hI.glob⟩, fun _ => rfl, hFo⟩
  · have hi' : i < K.M.length := by rw [← hMs]; exact hi
    by_cases e1 : i = o
    · subst e1
      simp only [List.getElem_set_self]
      exact ⟨c, t, fr, h1, by omega, (hr c t fr h1).mono hext.toExt0, fun off hz ho => h4 off (by omega) ho, Nat.le_of_eq hFo, Nat.le_refl _, by omega, h8, hc, h9'.1, fun hm => (h9'.2 hm).imp id fun h => by omega⟩
    · simp only [List.getElem_set_ne (Ne.symm e1)]
      have hne : K.at i ≠ K.at o := fun e2 => e1 (hI.inj i o (by rw [hI.len]; exact hi') ho e2)
      refine (hI.obj i hi').mono hext.toExt0 rfl ?_
      show (if K.at i = K.at o then cs'.length else K.F (K.at i)) = K.F (K.at i)
      rw [if_neg hne]
  · by_cases e1 : b = K.at o
    · subst e1; exact hI.at_lt ho'
    · have hb' : 0 < (if b = K.at o then cs'.length else K.F b) := hb
      rw [if_neg e1] at hb'
      exact hI.F b hb'
  · by_cases e1 : b = K.at o
    · subst e1
      have h10 : n < F' (K.at o) := hm
      rw [hFo] at h10
      have h11 : bsize K.w (K.at o) = some n := hn
      simp only [bsize, h1, Option.some.injEq] at h11
      omega
    · have hm' : n < (if b = K.at o then cs'.length else K.F b) := hm
      rw [if_neg e1] at hm'
      exact hI.mark b n hn hm'

theorem freeze_ok : ∀ (n : Nat) (M : List AObj) (x : AV) (r : Acted), freeze n M x = some r → FZ M x r := by
  intro n
  induction n with
  | zero => intro M x r h; simp [freeze] at h
  | succ n ih =>
    intro M x r h
    unfold freeze at h
    split at h
    · rename_i cs
      split at h
      · rename_i cs' M' D' h1
        simp only [Option.some.injEq] at h
        subst h
        obtain ⟨a1, a2⟩ := freezeL_ok ih _ _ _ h1
        refine ⟨a1, fun K v hM hI hx => ?_⟩
        cases hx with | agg _ vs hx =>
        obtain ⟨K', c1, c2, c3, c4, c5⟩ := a2 K vs hM hI hx
        exact ⟨K', c1, c2, c3, c4, .agg _ _ c5⟩
      · cases h
    · rename_i cs
      split at h
      · rename_i cs' M' D' h1
        simp only [Option.some.injEq] at h
        subst h
        obtain ⟨a1, a2⟩ := freezeL_ok ih _ _ _ h1
        refine ⟨a1, fun K v hM hI hx => ?_⟩
        cases hx with | tup _ vs hx =>
        obtain ⟨K', c1, c2, c3, c4, c5⟩ := a2 K vs hM hI hx
        exact ⟨K', c1, c2, c3, c4, .tup _ _ c5⟩
      · cases h
    · rename_i o ez ver off len
      split at h
      · rename_i e cs v f hM
        split at h
        · rename_i hc
          obtain ⟨rfl, rfl, hle⟩ := hc
          split at h
          · rename_i cs' M' D' h1
            split at h
            · rename_i e' cs2 v' f' hM'
              split at h
              · rename_i hc2
                obtain ⟨rfl, rfl, hcell⟩ := hc2
                simp only [Option.some.injEq] at h
                subst h
                obtain ⟨⟨a1, a2⟩, a3⟩ := freezeC_ok ih _ _ _ h1
                refine ⟨⟨by simp [a1], fun i hi => ?_⟩, fun K u hKM hI hx => ?_⟩
                · simp only [List.mem_cons, not_or] at hi
                  rw [List.getElem?_set_ne (Ne.symm hi.1)]
                  exact a2 i hi.2
                · cases hx with | bsl _ _ _ _ _ a c ho hv ha hlc hn =>
                  subst hKM
                  have ho' : o < K.M.length := by rw [← hI.len]; exact ho
                  have hob := hI.obj o ho'
                  have hMo : K.M[o] = .buf e' cs v' f := by rw [List.getElem?_eq_getElem ho', Option.some.injEq] at hM; exact hM
                  rw [hMo] at hob
                  obtain ⟨cc, t, fr, q1, q2, q3, q4, q5, q6, q7, q8, q9⟩ := hob
                  have hL : K.L o = v' := by simp [Ctx.L, hM, verO]
                  obtain ⟨K1, c1, c2, c3, c4, c5⟩ := a3 K _ rfl hI q3
                  have hl1 : cs'.length = (cc.toList.take cs.length).length := c5.length
                  have hl0 := q3.length
                  have hlen : cs'.length = cs.length := by omega
                  have hat1 : K1.at o = K.at o := c3.at_ o ho (by simp [Ctx.L, c2, hM', hM, verO])
                  have hq1 : K1.w.heap[K1.at o]? = some (.cells cc t fr) := by rw [hat1, c1]; exact q1
                  have ho1 : o < K1.ι.length := Nat.lt_of_lt_of_le ho c3.len
                  have hob1 := c4.obj o (by rw [← c4.len]; exact ho1)
                  have hM1 : K1.M[o]? = some (.buf e' cs2 v' f') := by rw [c2]; exact hM'
                  have hlen2 : cs2.length = cs.length := by
                    have h2 : K1.M[o]'(by rw [← c4.len]; exact ho1) = .buf e' cs2 v' f' := by
                      rw [List.getElem?_eq_getElem (by rw [← c4.len]; exact ho1), Option.some.injEq] at hM1
                      exact hM1
                    rw [h2] at hob1
                    obtain ⟨_, _, _, _, _, _, _, _, _, r7, _, _⟩ := hob1
                    omega
                  obtain ⟨K2, d1, d2, d3, d4, d5, d6⟩ := freeze_buf c4 hM1 (cs' := cs') (by omega) hcell ho1 (fun c t' fr' hh => by
                    rw [hq1] at hh
                    cases hh
                    rw [hlen]
                    exact c5)
                  refine ⟨K2, d1.trans c1, by rw [d2, c2], c3.trans d3, d4, ?_⟩
                  have hr2 := ((c5.mono d3.toExt0).drop off).take (len * e'.n)
                  refine .sl _ _ _ _ _ (K.at o) off _ hr2 (fun hne => ?_) (fun hne => ?_) (fun j hj => ?_) trivial hlc
                  · have hp : 0 < len := by
                      rcases Nat.eq_zero_or_pos len with h | h
                      · subst h; simp at hne
                      · exact h
                    exact (ha hL.symm (.inl hp)).1
                  · have : K2.F (K.at o) = cs'.length := by rw [← hat1]; exact d6
                    rw [this]
                    simp only [List.length_take, List.length_drop]
                    omega
                  · simp only [List.length_take, List.length_drop, Array.length_toList] at hj
                    rw [d1, c1]
                    simp only [World.cell?, q1, Option.isSome_none, Bool.false_eq_true, if_false, List.getElem_take, List.getElem_drop, Array.getElem_toList]
                    exact Array.getElem?_eq_getElem (by omega)
              · cases h
            · cases h
          · cases h
        · cases h
      · cases h
    · simp only [Option.some.injEq] at h
      subst h
      exact FZ.same _ _
end
end Go.Adm
set_option linter.unusedVariables false
set_option linter.unusedSimpArgs false
namespace Go.Adm
open Go

def ActDirty (M : List AObj) (r : Acted) : Prop := M.length ≤ r.2.1.length ∧ ∀ i, i < M.length → i ∉ r.2.2 → r.2.1[i]? = M[i]?

theorem ActDirty.same (M : List AObj) (v : AV) : ActDirty M (v, M, []) := ⟨Nat.le_refl _, fun _ _ _ => rfl⟩
theorem ActDirty.push (M : List AObj) (v : AV) (x : AObj) : ActDirty M (v, M ++ [x], []) := ⟨by simp, fun i hi _ => List.getElem?_append_left hi⟩
theorem ActDirty.set (M : List AObj) (v : AV) (o : Nat) (x : AObj) : ActDirty M (v, M.set o x, [o]) := ⟨by simp, fun i hi ho => by
  simp only [List.mem_cons, List.not_mem_nil, or_false] at ho
  exact List.getElem?_set_ne (Ne.symm ho)⟩

theorem writeCells_set {M M' : List AObj} {x : AV} {vs : List AV} {o : Nat} (h : writeCells M x vs = some (M', o)) : ∃ y, M' = M.set o y := by
  unfold writeCells at h
  split at h
  · split at h
    · split at h
      · simp only [Option.some.injEq, Prod.mk.injEq] at h; obtain ⟨rfl, rfl⟩ := h; exact ⟨_, rfl⟩
      · cases h
    · cases h
  · split at h
    · split at h
      · simp only [Option.some.injEq, Prod.mk.injEq] at h; obtain ⟨rfl, rfl⟩ := h; exact ⟨_, rfl⟩
      · cases h
    · cases h
  · cases h

set_option maxHeartbeats 1000000 in
theorem act_dirty {G : Prg} {M : List AObj} {env : List AV} {o : Oper} {r : Acted} (h : actOp G M env o = some r) : ActDirty M r := by
  unfold actOp at h
  have fin : ∀ {v : AV} {o : Option Acted}, o = none → o = some r → ActDirty M r := fun h1 h2 => by rw [h1] at h2; cases h2
  split at h
  · unfold buildSliceOp at h
    split at h
    · split at h
      · obtain ⟨cs, _, rfl⟩ := Option.map_eq_some_iff.1 h; exact .same _ _
      · cases h
    · cases h
  · unfold boxOp at h; split at h
    · simp only [Option.some.injEq] at h; subst h; exact .push _ _ _
    · cases h
  · unfold boxOp at h; split at h
    · simp only [Option.some.injEq] at h; subst h; exact .push _ _ _
    · cases h
  · unfold storeOp at h
    split at h
    · split at h
      · rename_i M' o' hw
        simp only [Option.some.injEq] at h; subst h
        obtain ⟨y, rfl⟩ := writeCells_set hw
        exact .set _ _ _ _
      · cases h
    · cases h
  · simp only [Option.some.injEq] at h; subst h; exact .push _ _ _
  · unfold makeSliceOp at h
    split at h
    · split at h
      · simp only [Option.some.injEq] at h; subst h; exact .push _ _ _
      · cases h
    · cases h
  · unfold convOp at h
    split at h
    · split at h
      · simp only [Option.some.injEq] at h; subst h; exact .push _ _ _
      · cases h
    · split at h
      · split at h
        · simp only [Option.some.injEq] at h; subst h; exact .same _ _
        · cases h
      · cases h
    · cases h
  iterate 2
    · unfold mapSetOp at h
      split at h
      · split at h
        · split at h
          · split at h
            · simp only [Option.some.injEq] at h; subst h; exact .set _ _ _ _
            · simp only [Option.some.injEq] at h; subst h; exact .set _ _ _ _
            · cases h
          · cases h
        · cases h
      · cases h
  · unfold mapEntryOp at h
    split at h
    · split at h
      · split at h
        · split at h
          · simp only [Option.some.injEq] at h; subst h; exact .set _ _ _ _
          · simp only [Option.some.injEq] at h; subst h; exact .set _ _ _ _
          · cases h
        · cases h
      · cases h
    · cases h
  · unfold entryStoreOp at h
    split at h
    · split at h
      · split at h
        · split at h
          · simp only [Option.some.injEq] at h; subst h; exact .set _ _ _ _
          · cases h
        · cases h
      · cases h
    · cases h
  · split at h
    · unfold appendOp at h
      split at h
      · split at h
        · split at h
          · split at h
            · split at h
              · simp only [Option.some.injEq] at h; subst h; exact .same _ _
              · cases h
            · split at h
              · split at h
                · simp only [Option.some.injEq] at h; subst h; exact .push _ _ _
                · cases h
              · split at h
                · split at h
                  · simp only [Option.some.injEq] at h; subst h; exact .set _ _ _ _
                  · cases h
                · cases h
              · cases h
          · cases h
        · cases h
      · cases h
    · unfold copyOp at h
      split at h
      · split at h
        · split at h
          · split at h
            · simp only [Option.some.injEq] at h; subst h; exact .same _ _
            · split at h
              · rename_i M' o' hw
                simp only [Option.some.injEq] at h; subst h
                obtain ⟨y, rfl⟩ := writeCells_set hw
                exact .set _ _ _ _
              · cases h
          · cases h
        · cases h
      · cases h
    · unfold deleteOp at h
      split at h
      · split at h
        · simp only [Option.some.injEq] at h; subst h; exact .same _ _
        · split at h
          · split at h
            · simp only [Option.some.injEq] at h; subst h; exact .set _ _ _ _
            · simp only [Option.some.injEq] at h; subst h; exact .set _ _ _ _
            · cases h
          · cases h
        · cases h
      · cases h
    · unfold clearOp at h
      split at h
      · split at h
        · simp only [Option.some.injEq] at h; subst h; exact .set _ _ _ _
        · cases h
      · cases h
    · unfold unsafeStringOp at h
      split at h
      · split at h
        · split at h
          · simp only [Option.some.injEq] at h; subst h; exact .same _ _
          · simp only [Option.some.injEq] at h; subst h; exact .same _ _
          · cases h
        · split at h
          · split at h
            · split at h
              · split at h
                · simp only [Option.some.injEq] at h; subst h; exact .set _ _ _ _
                · cases h
              · cases h
            · cases h
          · cases h
      · cases h
    · cases h
  · cases h

/-- What a run of code leaves alone. -/
def Dirty (st st' : St) : Prop := st.2.1.length ≤ st'.2.1.length ∧ (∀ i, i < st.2.1.length → i ∉ st'.2.2 → st'.2.1[i]? = st.2.1[i]?) ∧ ∀ i, i ∈ st.2.2 → i ∈ st'.2.2
theorem Dirty.refl (st : St) : Dirty st st := ⟨Nat.le_refl _, fun _ _ _ => rfl, fun _ h => h⟩
theorem Dirty.trans {a b c : St} (h : Dirty a b) (g : Dirty b c) : Dirty a c :=
  ⟨Nat.le_trans h.1 g.1, fun i hi hn => (g.2.1 i (Nat.lt_of_lt_of_le hi h.1) hn).trans (h.2.1 i hi fun hm => hn (g.2.2 i hm)), fun i hi => g.2.2 i (h.2.2 i hi)⟩

def PrimsDirty (pr : Prim) : Prop := ∀ f p, pr f = some p → ∀ args M r, p args M = some r → ActDirty M r

theorem gc_dirty (M0 : List AObj) (r : AV) (M' : List AObj) (D : List Nat) (h : M0.length ≤ M'.length) (hd : ∀ i, i < M0.length → i ∉ D → M'[i]? = M0[i]?) :
    ActDirty M0 (r, gc M0.length r M' D, D.filter (fun d => decide (d < M0.length))) := by
  refine ⟨?_, fun i hi hn => ?_⟩
  · show M0.length ≤ (gc M0.length r M' D).length
    unfold gc
    split
    · simp; omega
    · exact h
  · have hn' : i ∉ D := fun hm => hn (by simp [hm, hi])
    show (gc M0.length r M' D)[i]? = _
    unfold gc
    split
    · rw [List.getElem?_take_of_lt hi]; exact hd i hi hn'
    · exact hd i hi hn'

theorem matAt_dirty {stp : Stp} {all : Array Oper} (hs : ∀ o env M r, stp o env M = some r → ActDirty M r) : ∀ (l : List Oper) (env : List AV) (M : List AObj) (rs : List Acted), traceL stp all l env M = some rs →
    M.length ≤ (matAt M rs rs.length).length ∧ ∀ i, i < M.length → i ∉ rs.flatMap (·.2.2) → (matAt M rs rs.length)[i]? = M[i]? := by
  intro l
  induction l with
  | nil =>
    intro env M rs h
    simp only [traceL, Option.some.injEq] at h
    subst h
    exact ⟨Nat.le_refl _, fun _ _ _ => rfl⟩
  | cons o l ih =>
    intro env M rs h
    have key : ∀ (env' : List AV) (r : Acted) (rs' : List Acted), ActDirty M r → traceL stp all l env' r.2.1 = some rs' → rs = r :: rs' →
        M.length ≤ (matAt M rs rs.length).length ∧ ∀ i, i < M.length → i ∉ rs.flatMap (·.2.2) → (matAt M rs rs.length)[i]? = M[i]? := by
      intro env' r rs' ha h1 h2
      subst h2
      obtain ⟨h3, h4⟩ := ih _ _ _ h1
      have e : matAt M (r :: rs') (r :: rs').length = matAt r.2.1 rs' rs'.length := by
        cases rs' with
        | nil => rfl
        | cons q qs => simp [matAt]
      rw [e]
      refine ⟨Nat.le_trans ha.1 h3, fun i hi hn => ?_⟩
      simp only [List.flatMap_cons, List.mem_append, not_or] at hn
      exact (h4 i (Nat.lt_of_lt_of_le hi ha.1) hn.2).trans (ha.2 i hi hn.1)
    simp only [traceL] at h
    split at h
    · cases h
    · split at h
      · rename_i rs' h1
        simp only [Option.some.injEq] at h
        exact key _ (.un, M, []) _ (.same _ _) h1 h.symm
      · cases h
    · split at h
      · rename_i v M' D hst
        split at h
        · rename_i rs' h1
          simp only [Option.some.injEq] at h
          exact key _ (v, M', D) _ (hs _ _ _ _ hst) h1 h.symm
        · cases h
      · cases h

theorem drawn_dirty {stp : Stp} (hs : ∀ o env M r, stp o env M = some r → ActDirty M r) {ops : Array Oper} {st st' : St} (h : drawn stp ops st = some st') : Dirty st st' := by
  unfold drawn at h
  split at h
  · cases h
  · rename_i rs hr
    split at h
    · simp only [Option.some.injEq] at h
      subst h
      obtain ⟨h1, h2⟩ := matAt_dirty hs _ _ _ _ hr
      exact ⟨h1, fun i hi hn => h2 i hi (fun hm => hn (List.mem_append_left _ hm)), fun i hi => List.mem_append_right _ hi⟩
    · cases h

theorem all_dirty (G : Prg) (pr : Prim) (hp : PrimsDirty pr) : ∀ n : Nat,
    (∀ c st x st', exec G pr n c st = some (x, st') → Dirty st st') ∧ (∀ all l st st', execOps G pr n all l st = some st' → Dirty st st') ∧
    (∀ o st r, step G pr n o st = some r → ActDirty st.2.1 r) ∧ (∀ f args M r, callF G pr n f args M = some r → ActDirty M r) ∧ (∀ f args M r, body G pr n f args M = some r → ActDirty M r) := by
  intro n
  induction n with
  | zero => exact ⟨fun c st x st' h => by simp [exec] at h, fun all l st st' h => by simp [execOps] at h, fun o st r h => by simp [step] at h, fun f args M r h => by simp [callF] at h, fun f args M r h => by simp [body] at h⟩
  | succ n ih =>
    obtain ⟨i1, i2, i3, i4, i5⟩ := ih
    refine ⟨fun c st x st' h => ?_, fun all l st st' h => ?_, fun o st r h => ?_, fun f args M r h => ?_, fun f args M r h => ?_⟩
    · unfold exec at h
      split at h
      · simp only [Option.some.injEq, Prod.mk.injEq] at h; obtain ⟨_, rfl⟩ := h; exact .refl _
      · split at h
        · rename_i h1
          simp only [Option.some.injEq, Prod.mk.injEq] at h; obtain ⟨_, rfl⟩ := h
          split at h1
          · exact drawn_dirty (fun o env M r hr => i3 o (env, M, []) r hr) h1
          · exact i2 _ _ _ _ h1
        · cases h
      · split at h
        · rename_i h1; exact (i1 _ _ _ _ h1).trans (i1 _ _ _ _ h)
        · exact i1 _ _ _ _ h
      · split at h
        · exact i1 _ _ _ _ h
        · exact i1 _ _ _ _ h
        · cases h
      · split at h
        · rename_i h1
          split at h
          · simp only [Option.some.injEq, Prod.mk.injEq] at h; obtain ⟨_, rfl⟩ := h; exact i1 _ _ _ _ h1
          · simp only [Option.some.injEq, Prod.mk.injEq] at h; obtain ⟨_, rfl⟩ := h; exact i1 _ _ _ _ h1
        · exact i1 _ _ _ _ h
      · split at h
        · rename_i h1; exact (i1 _ _ _ _ h1).trans (i1 _ _ _ _ h)
        · exact i1 _ _ _ _ h
      · simp only [Option.some.injEq, Prod.mk.injEq] at h; obtain ⟨_, rfl⟩ := h; exact .refl _
      · simp only [Option.some.injEq, Prod.mk.injEq] at h; obtain ⟨_, rfl⟩ := h; exact .refl _
      · cases h
    · unfold execOps at h
      split at h
      · simp only [Option.some.injEq] at h; subst h; exact .refl _
      · split at h
        · cases h
        · exact i2 _ _ (put st.1 _ .un, st.2) st' h
        · split at h
          · rename_i v M D h1
            obtain ⟨a1, a2⟩ := i3 _ _ _ h1
            have h2 := i2 _ _ _ _ h
            exact Dirty.trans (b := (put st.1 _ v, M, D ++ st.2.2)) ⟨a1, fun i hi hn => a2 i hi (fun hm => hn (List.mem_append_left _ hm)), fun i hi => List.mem_append_right _ hi⟩ h2
          · cases h
    · unfold step at h
      split at h
      · simp only [Option.some.injEq] at h; subst h; exact .same _ _
      · split at h
        · rename_i h1; simp only [Option.some.injEq] at h; subst h; exact act_dirty h1
        · split at h
          · split at h
            · exact i4 _ _ _ _ h
            · cases h
          · cases h
    · unfold callF at h
      split at h
      · cases h
      · rename_i args' M1 D1 h0
        split at h
        · rename_i r' M2 D2 h1
          simp only [Option.some.injEq] at h; subst h
          obtain ⟨a1, a2⟩ := i5 _ _ _ _ h1
          have h2 : M1.length = M.length ∧ ∀ o, o ∉ D1 → M1[o]? = M[o]? := by
            split at h0
            · simp only [Option.some.injEq, Prod.mk.injEq] at h0; obtain ⟨_, rfl, rfl⟩ := h0; exact ⟨rfl, fun _ _ => rfl⟩
            · exact (freezeL_ok (freeze_ok 6) _ _ _ h0).1
          refine ⟨by have : M1.length ≤ M2.length := a1; show M.length ≤ M2.length; omega, fun i hi hn => ?_⟩
          simp only [List.mem_append, not_or] at hn
          exact (a2 i (by omega) hn.2).trans (h2.2 i hn.1)
        · cases h
    · unfold body at h
      split at h
      · rename_i p hpf; exact hp _ _ hpf _ _ _ h
      · split at h
        · cases h
        · split at h
          · cases h
          · rename_i x env M' D hne hex
            split at h
            · split at h
              · rename_i r' M2 D' hfz
                simp only [Option.some.injEq] at h; subst h
                have hd := i1 _ _ _ _ hex
                have h2 : M2.length = M'.length ∧ ∀ o, o ∉ D' → M2[o]? = M'[o]? := by
                  split at hfz
                  · simp only [Option.some.injEq, Prod.mk.injEq] at hfz; obtain ⟨_, rfl, rfl⟩ := hfz; exact ⟨rfl, fun _ _ => rfl⟩
                  · exact (freeze_ok 7 _ _ _ hfz).1
                have hle : M.length ≤ M2.length := by have : M.length ≤ M'.length := hd.1; omega
                have hno : ∀ i, i < M.length → i ∉ D' ++ D → M2[i]? = M[i]? := fun i hi hn => by
                  simp only [List.mem_append, not_or] at hn
                  exact (h2.2 i hn.1).trans (hd.2.1 i hi hn.2)
                cases hg : G.gcOn f
                · simp only [Bool.false_eq_true, if_false]
                  refine ⟨hle, fun i hi hn => ?_⟩
                  exact hno i hi (fun hm => hn (by
                    show i ∈ (D' ++ D).filter (fun d => decide (d < M.length))
                    exact List.mem_filter.2 ⟨hm, by simpa using hi⟩))
                · simp only [if_true]
                  exact gc_dirty M _ M2 (D' ++ D) hle hno
              · cases h
            · cases h
          · cases h
end Go.Adm
set_option linter.unusedVariables false
set_option linter.unusedSimpArgs false
namespace Go.Adm
open Go

section
variable {P : Program} {K : Ctx}

/-- A loop, seen from its body. -/
def LoopIn (P : Program) (c : Code) (Q : Exit → Act → World → Prop) (a : Act) (w : World) : Prop :=
  ∀ (b : Frame) (k : List Item) (cs : List Frame),
    ∃ e a' w', Q e a' w' ∧ Arrives P (lone (b.at a (.code c :: .inLoop c :: k)) cs w) b k cs e a' w'

def WP (P : Program) (c : Code) (Q : Exit → Act → World → Prop) (a : Act) (w : World) : Prop :=
  match c with
  | .loop c => LoopIn P c Q a w
  | c => c.wp P Q a w

theorem WP.wp {c : Code} {Q : Exit → Act → World → Prop} {a : Act} {w : World} (h : WP P c Q a w) : c.wp P Q a w := by
  cases c with
  | loop c =>
    intro b k cs
    obtain ⟨e, a', w', q, r⟩ := h b k cs
    exact ⟨e, a', w', q, .of_steps (.one step_loop) r⟩
  | _ => exact h

theorem LoopIn.of {c : Code} {Q : Exit → Act → World → Prop} {a : Act} {w : World} (h : c.wp P (Exit.then (LoopIn P c Q) Q) a w) : LoopIn P c Q a w := by
  intro b k cs
  obtain ⟨e, a₁, w₁, hq, harr⟩ := h b (.inLoop c :: k) cs
  cases e with
  | normal =>
    obtain ⟨e₂, a₂, w₂, hq₂, harr₂⟩ := hq b k cs
    exact ⟨e₂, a₂, w₂, hq₂, .of_steps (Steps.trans harr (.one step_inLoop)) harr₂⟩
  | exit id => exact ⟨_, a₁, w₁, hq, .pass (x := .inLoop c) rfl (fun _ _ => .inl (by simp)) harr⟩
  | goto l => exact ⟨_, a₁, w₁, hq, .pass (x := .inLoop c) rfl (fun _ _ => .inl (by simp)) harr⟩
  | ret => exact ⟨_, a₁, w₁, hq, .pass (x := .inLoop c) rfl (fun _ _ => .inl (by simp)) harr⟩
  | panic ch => exact ⟨_, a₁, w₁, hq, .pass (x := .inLoop c) rfl (fun _ _ => .inl (by simp)) harr⟩
  | outgrown => exact ⟨_, a₁, w₁, hq, .pass (x := .inLoop c) rfl (fun _ _ => .inl (by simp)) harr⟩

/-- What a call comes to. -/
def CallPost (K : Ctx) (r : Acted) (e : Ending) (w' : World) : Prop :=
  ∃ u K', e = .returned u ∧ K'.w = w' ∧ K'.M = r.2.1 ∧ Ext K K' ∧ Inv K' ∧ Rep K' r.1 u

/-- .. and the operation that calls. -/
def CallOK (P : Program) (K : Ctx) (f : FuncId) (vs : List Value) (r : Acted) : Prop := Calls P f vs.toArray K.w (CallPost K r)

structure PrimOK (P : Program) (f : FuncId) (p : List AV → List AObj → Option Acted) : Prop where
  fn : ∃ F : Func, P.funcs[f]? = some F ∧ F.body.isSome = true ∧ (F.name == "runtime.NumGoroutine") = false
  ok : ∀ (K : Ctx) (xs : List AV) (vs : List Value) (r : Acted), Inv K → RepL K xs vs → p xs K.M = some r → CallOK P K f vs r

def PrimsOK (P : Program) (pr : Prim) : Prop := ∀ f p, pr f = some p → PrimOK P f p

def EM : X → Exit → Prop
  | .normal, .normal => True
  | .exit i, .exit j => i = j
  | .ret, .ret => True
  | _, _ => False

def Post (K : Ctx) (st : Out) (e : Exit) (a : Act) (w : World) : Prop :=
  EM st.1 e ∧ ∃ K', K'.w = w ∧ K'.M = st.2.2.1 ∧ Ext K K' ∧ Inv K' ∧ EnvOK K' st.2.1 a ∧ a.defers = []

theorem Post.ext {K K1 : Ctx} (e1 : Ext K K1) {st : Out} {e : Exit} {a : Act} {w : World} (h : Post K1 st e a w) : Post K st e a w := by
  obtain ⟨h1, K', h2, h3, h4, h5, h6, h7⟩ := h
  exact ⟨h1, K', h2, h3, e1.trans h4, h5, h6, h7⟩

/-- The guards read alike. -/
theorem wanted_ok {env : List AV} {a : Act} (hE : EnvOK K env a) {o : Oper} {ops : Array Oper} {t : Bool} (h : wanted o ops env = some t) : Region.wanted o (yielded ops a.tmps) = t := by
  unfold wanted at h
  unfold Region.wanted
  have hl : env.length = a.tmps.size := by simpa using RepL.length hE
  split at h
  · rename_i hg
    simp only [hg]
    simpa using h
  · rename_i j want hg
    simp only [hg]
    unfold yielded
    split at h
    · rename_i d hd
      simp only [hd, Option.bind_some]
      by_cases hlt : d < env.length
      · simp only [hlt, if_true] at h
        have hv : d < a.tmps.size := hl ▸ hlt
        have hr : Rep K (env.getD d .un) (a.tmps[d]) := by
          have := hE.get d hlt (by simpa using hv)
          simpa [List.getD_eq_getElem?_getD, List.getElem?_eq_getElem hlt] using this
        simp only [Array.getElem?_eq_getElem hv]
        split at h
        · rename_i x hx
          rw [hx] at hr
          generalize a.tmps[d] = v at hr
          cases hr
          simp only [Option.some.injEq] at h
          subst h
          cases x <;> cases want <;> rfl
        · cases h
        · rename_i hn1 hn2
          simp only [Option.some.injEq] at h
          subst h
          generalize a.tmps[d] = v at hr
          split
          · rename_i b hb
            simp only [Option.some.injEq] at hb
            subst hb
            generalize env.getD d .un = y at hr hn1 hn2
            cases hr with
            | b => exact absurd rfl (hn1 _)
            | any => exact absurd rfl hn2
          · simp
      · simp only [hlt, if_false, Option.some.injEq] at h
        subst h
        have hv : ¬ d < a.tmps.size := hl ▸ hlt
        simp [Array.getElem?_eq_none (Nat.le_of_not_lt hv)]
    · rename_i hd
      simp only [Option.some.injEq] at h
      subst h
      simp [hd]

theorem enter_ok {G : Prg} {env : List AV} {a : Act} (hE : EnvOK K env a) {o : Oper} {c : Call} (ho : o.op = .call c) {f : FuncId} {args : List AV} (h : callee env c = some (f, args))
    (hf : ∃ F : Func, P.funcs[f]? = some F ∧ F.body.isSome = true ∧ (F.name == "runtime.NumGoroutine") = false) :
    ∃ vs, RepL K args vs ∧ (execOp a.eval o).run P K.w = .ok (.enter f vs.toArray) K.w := by
  unfold callee at h
  split at h
  · rename_i g hc
    split at h
    · rename_i f' cap hg
      simp only [Option.some.injEq, Prod.mk.injEq] at h
      obtain ⟨rfl, rfl⟩ := h
      have hr := hE.eval g
      rw [hg] at hr
      generalize hv : a.eval g = v at hr
      cases hr with | fn _ _ vs hcap =>
      refine ⟨c.args.toList.map a.eval ++ vs, (hE.args _).append hcap, ?_⟩
      obtain ⟨F, h1, h2, h3⟩ := hf
      have hb : F.body.isNone = false := by cases hF : F.body <;> simp_all
      have e : c.args.map a.eval = (c.args.toList.map a.eval).toArray := by apply Array.ext'; simp
      simp only [execOp, ho, resolve, hc, hv, Deferred.ofValue, Sem.run_bind, Sem.run_pure, Result.andThen_ok, invoke, callFunc, run_program, h1, h3, hb, Bool.false_eq_true, if_false]
      simp [e]
    · cases h
  · cases h

def resM (a : Act) : ResultVar → Sem Value
  | .tmp t => pure (a.tmps.getD t undef)
  | .cell b t => do loadVar t (← asAddr (a.tmps.getD b undef))

theorem results_ok {G : Prg} (hG : PrgOK G P) (hI : Inv K) {env : List AV} {a : Act} (hE : EnvOK K env a) : ∀ (l : List ResultVar) (rs : List AV), results G env K.M l = some rs →
    ∃ us : List Value, (l.mapM (resM a)).run P K.w = .ok us K.w ∧ RepL K rs us
  | [], rs, h => by
    simp only [results, Option.some.injEq] at h
    subst h
    exact ⟨[], by simp, .nil⟩
  | .tmp t :: l, rs, h => by
    simp only [results] at h
    split at h
    · rename_i r hr
      simp only [Option.some.injEq] at h
      subst h
      obtain ⟨us, h1, h2⟩ := results_ok hG hI hE l r hr
      exact ⟨a.tmps.getD t undef :: us, by simp only [List.mapM_cons, Sem.run_bind, resM, Sem.run_pure, Result.andThen_ok, h1], .cons _ _ _ _ (hE.eval (.tmp t)) h2⟩
    · cases h
  | .cell b t :: l, rs, h => by
    simp only [results] at h
    split at h
    · rename_i cs hcs
      split at h
      · rename_i v r hm hr
        simp only [Option.some.injEq] at h
        subst h
        obtain ⟨us, h1, h2⟩ := results_ok hG hI hE l r hr
        obtain ⟨u, g1, g2⟩ := load_ok hG hI (hE.eval (.tmp b)) hcs hm
        have g1' : (do loadVar t (← asAddr (a.tmps.getD b undef)) : Sem Value).run P K.w = .ok u K.w := by
          obtain ⟨bb, off, vs, hv, _⟩ := readCells_ok hI (hE.eval (.tmp b)) hcs
          have e : a.eval (.tmp b) = a.tmps.getD b undef := rfl
          rw [e] at hv g1
          rw [hv] at g1 ⊢
          simpa [Instr.loadAt, Instr.sureAddr, asAddr] using g1
        exact ⟨u :: us, by simp only [List.mapM_cons, Sem.run_bind, resM, g1', Result.andThen_ok, h1, Sem.run_pure], .cons _ _ _ _ g2 h2⟩
      · cases h
    · cases h

theorem one_ok {rs : List AV} {us : List Value} (h : RepL K rs us) : Rep K (one rs) (if h : us.toArray.size = 1 then us.toArray[0] else .tuple us.toArray) := by
  unfold one
  cases h with
  | nil => exact .tup _ _ .nil
  | cons x v xs vs h t =>
    cases t with
    | nil => exact h
    | cons x' v' xs vs h' t =>
      have : ¬ (v :: v' :: vs).toArray.size = 1 := by simp
      rw [dif_neg this]
      exact .tup _ _ (.cons _ _ _ _ h (.cons _ _ _ _ h' t))
end
end Go.Adm
set_option linter.unusedVariables false
set_option linter.unusedSimpArgs false
namespace Go.Adm
open Go

section
variable {P : Program}

/-- One operation, carried out. -/
def StepOK (P : Program) (K : Ctx) (a : Act) (o : Oper) (r : Acted) : Prop :=
  ∀ (next : Act → World → Prop) (Q : Exit → Act → World → Prop),
    (∀ K' u, K'.M = r.2.1 → Ext K K' → Inv K' → Rep K' r.1 u → next (a.put o.dst u) K'.w) → o.wp P a K.w next Q

theorem StepOK.value {K K' : Ctx} {a : Act} {o : Oper} {r : Acted} {u : Value} (h : (execOp a.eval o).run P K.w = .ok (.value u) K'.w) (hr : Rep K' r.1 u) (hM : K'.M = r.2.1) (e : Ext K K') (hI : Inv K') : StepOK P K a o r := by
  intro next Q hn
  unfold Oper.wp
  rw [h]
  exact hn K' u hM e hI hr

theorem StepOK.skip {K K' : Ctx} {a : Act} {o : Oper} {r : Acted} (h : (execOp a.eval o).run P K.w = .ok .skip K'.w) (hr : r.1 = .un) (hM : K'.M = r.2.1) (e : Ext K K') (hI : Inv K') : StepOK P K a o r := by
  intro next Q hn
  unfold Oper.wp
  rw [h]
  exact hn K' undef hM e hI (by rw [hr]; exact .un)

def SExec (P : Program) (G : Prg) (pr : Prim) (n : Nat) : Prop :=
  ∀ c st r, exec G pr n c st = some r → ∀ (K : Ctx) (a : Act) (Q : Exit → Act → World → Prop), K.M = st.2.1 → Inv K → EnvOK K st.1 a → a.defers = [] → (∀ e a' w', Post K r e a' w' → Q e a' w') → WP P c Q a K.w
def SOps (P : Program) (G : Prg) (pr : Prim) (n : Nat) : Prop :=
  ∀ all l st st', execOps G pr n all l st = some st' → ∀ (K : Ctx) (a : Act) (Q : Exit → Act → World → Prop), K.M = st.2.1 → Inv K → EnvOK K st.1 a → a.defers = [] → (∀ a' w', Post K (.normal, st') .normal a' w' → Q .normal a' w') →
    ∀ js : List Nat, js.length = l.length → (∀ i (h : i < js.length), all[js[i]]? = l[i]?) → wpOps P all Q js a K.w
def SStep (P : Program) (G : Prg) (pr : Prim) (n : Nat) : Prop :=
  ∀ o st r, step G pr n o st = some r → ∀ (K : Ctx) (a : Act), K.M = st.2.1 → Inv K → EnvOK K st.1 a → StepOK P K a o r
def SCall (P : Program) (G : Prg) (pr : Prim) (n : Nat) : Prop :=
  ∀ f args M r, callF G pr n f args M = some r → (∃ F : Func, P.funcs[f]? = some F ∧ F.body.isSome = true ∧ (F.name == "runtime.NumGoroutine") = false) ∧
    ∀ (K : Ctx) vs, K.M = M → Inv K → RepL K args vs → CallOK P K f vs r
def SBody (P : Program) (G : Prg) (pr : Prim) (n : Nat) : Prop :=
  ∀ f args M r, body G pr n f args M = some r → (∃ F : Func, P.funcs[f]? = some F ∧ F.body.isSome = true ∧ (F.name == "runtime.NumGoroutine") = false) ∧
    ∀ (K : Ctx) vs, K.M = M → Inv K → RepL K args vs → CallOK P K f vs r

theorem post_normal {K : Ctx} {st : Out} {e : Exit} {a : Act} {w : World} (h : Post K st e a w) (hx : st.1 = .normal) : e = .normal := by
  have := h.1
  rw [hx] at this
  cases e <;> simp_all [EM]

theorem sstep {G : Prg} {pr : Prim} (hG : PrgOK G P) {n : Nat} (h4 : SCall P G pr n) : SStep P G pr (n + 1) := by
  intro o st r h K a hM hI hE
  unfold step at h
  rw [← hM] at h
  split at h
  · rename_i v hq
    simp only [Option.some.injEq] at h; subst h
    obtain ⟨u, g1, g2⟩ := quiet_ok hG hI hE hq
    exact StepOK.value (K' := K) g1 g2 rfl (Ext.refl K) hI
  · split at h
    · rename_i r' ha
      simp only [Option.some.injEq] at h; subst h
      obtain ⟨K', h1 | ⟨h1, h1'⟩, h2, h3, h4⟩ := act_ok hG hI hE ha
      · obtain ⟨u, h1, h1'⟩ := h1
        exact StepOK.value h1 h1' h2 h3 h4
      · exact StepOK.skip h1 h1' h2 h3 h4
    · split at h
      · rename_i c hc
        split at h
        · rename_i f args hcal
          obtain ⟨hf, hcall⟩ := h4 f args _ _ h
          obtain ⟨vs, hvs, hrun⟩ := enter_ok (G := G) hE hc hcal hf
          intro next Q hn
          unfold Oper.wp
          rw [hrun, Oper.upon_enter]
          refine (hcall K vs rfl hI hvs).mono fun e w' ⟨u, K', h1, h2, h3, h4, h5, h6⟩ => ?_
          subst h1
          subst h2
          exact hn K' u h3 h4 h5 h6
        · cases h
      · cases h

theorem sops {G : Prg} {pr : Prim} {n : Nat} (h2 : SOps P G pr n) (h3 : SStep P G pr n) : SOps P G pr (n + 1) := by
  intro all l st st' h K a Q hM hI hE hd hQ js hjl hj
  unfold execOps at h
  split at h
  · simp only [Option.some.injEq] at h; subst h
    have : js = [] := List.length_eq_zero_iff.1 (by simpa using hjl)
    subst this
    exact hQ a K.w ⟨trivial, K, rfl, hM, Ext.refl K, hI, hE, hd⟩
  · rename_i o r
    cases js with
    | nil => simp at hjl
    | cons j js =>
      have hjl' : js.length = r.length := by simpa using hjl
      have hj0 : all[j]? = some o := hj 0 (by simp)
      have hjr : ∀ i (h : i < js.length), all[js[i]]? = r[i]? := fun i hi => hj (i + 1) (by simpa using hi)
      have hput : ∀ (u : Value), (a.put o.dst u).defers = [] := fun u => by
        unfold Act.put; split <;> exact hd
      unfold wpOps
      simp only [hj0]
      split at h
      · cases h
      · rename_i hw
        rw [wanted_ok hE hw]
        simp only [Bool.false_eq_true, if_false]
        exact h2 _ _ (Adm.put st.1 o.dst .un, st.2) st' h K _ Q hM hI (hE.put o.dst .un) (hput _) hQ js hjl' hjr
      · rename_i hw
        rw [wanted_ok hE hw]
        simp only [if_true]
        split at h
        · rename_i v M D hst
          refine .inl (h3 _ _ _ hst K a hM hI hE _ _ fun K' u hM' e' hI' hr => ?_)
          exact h2 _ _ (Adm.put st.1 o.dst v, M, D ++ st.2.2) st' h K' _ Q hM' hI' ((hE.mono e'.toExt0).put o.dst hr) (hput _) (fun a' w' hp => hQ a' w' (hp.ext e')) js hjl' hjr
        · cases h

theorem em_eq {x : X} {e : Exit} (h : EM x e) : (x = .normal ∧ e = .normal) ∨ (∃ i, x = .exit i ∧ e = .exit i) ∨ (x = .ret ∧ e = .ret) := by
  cases x <;> cases e <;> simp_all [EM]

def SDrawn (P : Program) (G : Prg) (pr : Prim) (n : Nat) : Prop :=
  ∀ ops st st', drawn (fun o env M => step G pr n o (env, M, [])) ops st = some st' → ∀ (K : Ctx) (a : Act) (Q : Exit → Act → World → Prop), K.M = st.2.1 → Inv K → EnvOK K st.1 a → a.defers = [] → (∀ a' w', Post K (.normal, st') .normal a' w' → Q .normal a' w') →
    ∀ id, (Code.region id ops true).wp P Q a K.w

theorem sexec {G : Prg} {pr : Prim} {n : Nat} (h1 : SExec P G pr n) (h2 : SOps P G pr n) (hdr : SDrawn P G pr n) : SExec P G pr (n + 1) := by
  intro c st r h K a Q hM hI hE hd hQ
  unfold exec at h
  split at h
  · -- skip
    simp only [Option.some.injEq] at h; subst h
    exact wp_skip (hQ .normal a K.w ⟨trivial, K, rfl, hM, Ext.refl K, hI, hE, hd⟩)
  · -- region
    split at h
    · rename_i draw _ st' hst
      simp only [Option.some.injEq] at h; subst h
      split at hst
      · rename_i hd'
        subst hd'
        exact hdr _ _ _ hst K a Q hM hI hE hd (fun a' w' hp => hQ _ _ _ hp) _
      · rename_i hd'
        have : draw = false := by simpa using hd'
        subst this
        refine wp_region (h2 _ _ _ _ hst K a Q hM hI hE hd (fun a' w' hp => hQ _ _ _ hp) _ (by simp) (fun i hi => ?_))
        simp
    · cases h
  · -- seq
    rename_i x y
    refine wp_seq (WP.wp ?_)
    split at h
    · rename_i st1 hst
      refine h1 _ _ _ hst K a _ hM hI hE hd (fun e a' w' hp => ?_)
      have he := post_normal hp rfl
      subst he
      obtain ⟨_, K', hw, hM', e', hI', hE', hd'⟩ := hp
      subst hw
      exact WP.wp (h1 _ _ _ h K' a' Q hM' hI' hE' hd' (fun e a2 w2 hp => hQ e a2 w2 (hp.ext e')))
    · rename_i hne
      refine h1 _ _ _ h K a _ hM hI hE hd (fun e a' w' hp => ?_)
      have := hQ e a' w' hp
      rcases em_eq hp.1 with ⟨hx, he⟩ | ⟨i, hx, he⟩ | ⟨hx, he⟩
      · exfalso
        obtain ⟨x, st1⟩ := r
        simp only at hx
        subst hx
        exact hne st1 h
      · subst he; exact this
      · subst he; exact this
  · -- cond
    rename_i c x y
    have hr := hE.eval c
    split at h
    · rename_i hc
      rw [hc] at hr
      generalize hv : a.eval c = v at hr
      cases hr
      exact wp_cond_true hv (WP.wp (h1 _ _ _ h K a Q hM hI hE hd hQ))
    · rename_i hc
      rw [hc] at hr
      generalize hv : a.eval c = v at hr
      cases hr
      exact wp_cond_false hv (WP.wp (h1 _ _ _ h K a Q hM hI hE hd hQ))
    · cases h
  · -- block
    rename_i id x
    refine wp_block (WP.wp ?_)
    split at h
    · rename_i id' st1 hst
      refine h1 _ _ _ hst K a _ hM hI hE hd (fun e a' w' hp => ?_)
      rcases em_eq hp.1 with ⟨hx, he⟩ | ⟨i, hx, he⟩ | ⟨hx, he⟩
      · cases hx
      · cases hx
        subst he
        simp only [Exit.inBlock]
        split at h
        · rename_i hid
          simp only [Option.some.injEq] at h; subst h
          simp only [hid, if_true]
          exact hQ _ _ _ ⟨trivial, hp.2⟩
        · rename_i hid
          simp only [Option.some.injEq] at h; subst h
          simp only [hid, if_false]
          exact hQ _ _ _ hp
      · cases hx
    · rename_i hne
      refine h1 _ _ _ h K a _ hM hI hE hd (fun e a' w' hp => ?_)
      have := hQ e a' w' hp
      rcases em_eq hp.1 with ⟨hx, he⟩ | ⟨i, hx, he⟩ | ⟨hx, he⟩
      · subst he; exact this
      · exfalso
        obtain ⟨x, st1⟩ := r
        simp only at hx
        subst hx
        exact hne i st1 h
      · subst he; exact this
  · -- loop
    rename_i x
    refine LoopIn.of (WP.wp ?_)
    split at h
    · rename_i st1 hst
      refine h1 _ _ _ hst K a _ hM hI hE hd (fun e a' w' hp => ?_)
      have he := post_normal hp rfl
      subst he
      obtain ⟨_, K', hw, hM', e', hI', hE', hd'⟩ := hp
      subst hw
      exact h1 (.loop x) _ _ h K' a' Q hM' hI' hE' hd' (fun e a2 w2 hp => hQ e a2 w2 (hp.ext e'))
    · rename_i hne
      refine h1 _ _ _ h K a _ hM hI hE hd (fun e a' w' hp => ?_)
      have := hQ e a' w' hp
      rcases em_eq hp.1 with ⟨hx, he⟩ | ⟨i, hx, he⟩ | ⟨hx, he⟩
      · exfalso
        obtain ⟨x, st1⟩ := r
        simp only at hx
        subst hx
        exact hne st1 h
      · subst he; exact this
      · subst he; exact this
  · simp only [Option.some.injEq] at h; subst h
    exact wp_exit (hQ _ a K.w ⟨rfl, K, rfl, hM, Ext.refl K, hI, hE, hd⟩)
  · simp only [Option.some.injEq] at h; subst h
    exact wp_ret (hQ _ a K.w ⟨trivial, K, rfl, hM, Ext.refl K, hI, hE, hd⟩)
  · cases h

theorem scall {G : Prg} {pr : Prim} {n : Nat} (h5 : SBody P G pr n) : SCall P G pr (n + 1) := by
  intro f args M r h
  unfold callF at h
  split at h
  · cases h
  · rename_i args' M1 D1 h0
    split at h
    · rename_i r' M2 D2 hb
      simp only [Option.some.injEq] at h; subst h
      obtain ⟨hf, hcall⟩ := h5 f args' M1 _ hb
      refine ⟨hf, fun K vs hM hI hR => ?_⟩
      have h2 : ∃ K', K'.w = K.w ∧ K'.M = M1 ∧ Ext K K' ∧ Inv K' ∧ RepL K' args' vs := by
        split at h0
        · simp only [Option.some.injEq, Prod.mk.injEq] at h0; obtain ⟨rfl, rfl, rfl⟩ := h0
          exact ⟨K, rfl, hM, Ext.refl K, hI, hR⟩
        · exact (freezeL_ok (freeze_ok 6) _ _ _ h0).2 K vs hM hI hR
      obtain ⟨K', hw, hM', e', hI', hR'⟩ := h2
      have := hcall K' vs hM' hI' hR'
      unfold CallOK at this ⊢
      rw [hw] at this
      exact this.mono fun e w' ⟨u, K2, g1, g2, g3, g4, g5, g6⟩ => ⟨u, K2, g1, g2, g3, e'.trans g4, g5, g6⟩
    · cases h

theorem sbody {G : Prg} {pr : Prim} (hG : PrgOK G P) (hp : PrimsOK P pr) (hpd : PrimsDirty pr) {n : Nat} (h1 : SExec P G pr n) : SBody P G pr (n + 1) := by
  intro f args M r h
  unfold body at h
  split at h
  · rename_i p hpf
    exact ⟨(hp f p hpf).fn, fun K vs hM hI hR => (hp f p hpf).ok K args vs r hI hR (by rw [hM]; exact h)⟩
  · split at h
    · cases h
    · rename_i fd hfd
      obtain ⟨F, hF, hFb, hFn, hFr, hFname⟩ := hG.fn f fd hfd
      refine ⟨⟨F, hF, by rw [hFb]; rfl, hFname⟩, fun K vs hM hI hR => ?_⟩
      split at h
      · cases h
      · rename_i x env M' D hne hex
        split at h
        · rename_i rs hrs
          split at h
          · rename_i r' M2 D' hfz
            simp only [Option.some.injEq] at h; subst h
            refine calls_of_wp hF hFb (WP.wp (h1 _ _ _ hex K _ _ hM hI ?_ rfl (fun e a w hpost => ?_)))
            · show RepL K _ (vs.toArray ++ Array.replicate (F.ntmps - vs.toArray.size) undef).toList
              have hl := RepL.length hR
              have : (vs.toArray ++ Array.replicate (F.ntmps - vs.toArray.size) undef).toList = vs ++ List.replicate (fd.ntmps - args.length) undef := by
                simp [hFn, hl]
              rw [this]
              refine hR.append ?_
              generalize fd.ntmps - args.length = m
              induction m with
              | zero => exact .nil
              | succ m ih => exact .cons _ _ _ _ .un ih
            · obtain ⟨hem, K1, hw, hM1, e1, hI1, hE1, hd1⟩ := hpost
              subst hw
              simp only at hM1 hE1
              rw [← hM1] at hrs
              obtain ⟨us, hus1, hus2⟩ := results_ok hG hI1 hE1 fd.results rs hrs
              have hone := one_ok hus2
              have hrun : (Go.results F a.tmps).run P K1.w = .ok (if h : us.toArray.size = 1 then us.toArray[0] else .tuple us.toArray) K1.w := by
                unfold Go.results
                have e0 : F.results = fd.results.toArray := by apply Array.ext'; simpa using hFr
                rw [e0]
                simp only [Sem.run_bind, List.mapM_toArray]
                have key : ∀ f : ResultVar → Sem Value, (∀ x, f x = resM a x) → (List.mapM f fd.results).run P K1.w = .ok us K1.w := fun f h => by
                  rw [funext h]; exact hus1
                rw [Sem.run_map, key _ (fun x => by cases x <;> rfl)]
                simp only [Result.andThen_ok, Sem.run_pure]
              have hpost : ∃ K2, K2.w = K1.w ∧ K2.M = M2 ∧ Ext K1 K2 ∧ Inv K2 ∧ Rep K2 r' (if h : us.toArray.size = 1 then us.toArray[0] else .tuple us.toArray) := by
                split at hfz
                · simp only [Option.some.injEq, Prod.mk.injEq] at hfz; obtain ⟨rfl, rfl, rfl⟩ := hfz
                  exact ⟨K1, rfl, hM1, Ext.refl K1, hI1, hone⟩
                · exact (freeze_ok 7 _ _ _ hfz).2 K1 _ hM1 hI1 hone
              obtain ⟨K2, hw2, hM2, e2, hI2, hr2⟩ := hpost
              have e02 : Ext K K2 := e1.trans e2
              have hd' : M.length ≤ M2.length ∧ ∀ i, i < M.length → i ∉ D' ++ D → M2[i]? = M[i]? := by
                have hd := (all_dirty G pr hpd n).1 _ _ _ _ hex
                have h2 : M2.length = M'.length ∧ ∀ o, o ∉ D' → M2[o]? = M'[o]? := by
                  split at hfz
                  · simp only [Option.some.injEq, Prod.mk.injEq] at hfz; obtain ⟨_, rfl, rfl⟩ := hfz; exact ⟨rfl, fun _ _ => rfl⟩
                  · exact (freeze_ok 7 _ _ _ hfz).1
                exact ⟨by have : M.length ≤ M'.length := hd.1; omega, fun i hi hn => by
                  simp only [List.mem_append, not_or] at hn
                  exact (h2.2 i hn.1).trans (hd.2.1 i hi hn.2)⟩
              have hfin : ∃ K3, K3.w = K1.w ∧ K3.M = (if G.gcOn f then gc M.length r' M2 (D' ++ D) else M2) ∧ Ext K K3 ∧ Inv K3 ∧ Rep K3 r' (if h : us.toArray.size = 1 then us.toArray[0] else .tuple us.toArray) := by
                cases hgc : G.gcOn f
                · simp only [Bool.false_eq_true, if_false]
                  exact ⟨K2, hw2, hM2, e02, hI2, hr2⟩
                simp only [if_true]
                unfold gc
                split
                · rename_i hg
                  simp only [Bool.and_eq_true] at hg
                  have hnlen : K.ι.length = M.length := by rw [hI.len, hM]
                  obtain ⟨c1, c2⟩ := cut_ok hI2 e02 (n := M.length) (by omega) (fun o ho hlt => by
                    by_cases hoD : o ∈ D' ++ D
                    · have := List.all_eq_true.1 hg.2 o hoD
                      simp only [hlt, if_true] at this
                      rw [← hM2] at this
                      simpa [List.getElem?_eq_getElem ho] using this
                    · have h3 := hd'.2 o hlt hoD
                      rw [← hM2, List.getElem?_eq_getElem ho] at h3
                      have hoK : o < K.M.length := by rw [hM]; exact hlt
                      have h4 : K2.M[o] = K.M[o] := by
                        rw [← hM, List.getElem?_eq_getElem hoK] at h3
                        exact Option.some.inj h3
                      rw [h4, ← hnlen]
                      exact (hI.obj o hoK).refs)
                  exact ⟨K2.cut M.length, hw2, by simp [Ctx.cut, hM2], c1, c2, hr2.cut hg.1⟩
                · exact ⟨K2, hw2, hM2, e02, hI2, hr2⟩
              obtain ⟨K3, hw3, hM3, e3, hI3, hr3⟩ := hfin
              have hcp : CallPost K (r', (if G.gcOn f then gc M.length r' M2 (D' ++ D) else M2), (D' ++ D).filter (fun d => decide (d < M.length))) (.returned (if h : us.toArray.size = 1 then us.toArray[0] else .tuple us.toArray)) K1.w :=
                ⟨_, K3, rfl, hw3, hM3, e3, hI3, hr3⟩
              rcases em_eq hem with ⟨hx, he⟩ | ⟨i, hx, he⟩ | ⟨hx, he⟩
              · subst he; exact ⟨hd1, _, hrun, hcp⟩
              · exact absurd hx (hne i)
              · subst he; exact ⟨hd1, _, hrun, hcp⟩
          · cases h
        · cases h
      · cases h

end
end Go.Adm
set_option linter.unusedVariables false
set_option linter.unusedSimpArgs false
namespace Go.Adm
open Go

mutual
theorem AV.eqb_eq : {x y : AV} → AV.eqb x y = true → x = y := by
  intro x y h
  cases x <;> cases y <;> first
    | rfl
    | (simp only [AV.eqb, Bool.false_eq_true] at h; done)
    | (unfold AV.eqb at h; skip)
    | skip
  case b.b => simp only [beq_iff_eq] at h; rw [h]
  case i.i => simp only [Bool.and_eq_true, decide_eq_true_eq, beq_iff_eq] at h; rw [h.1, h.2]
  case s.s => simp only [beq_iff_eq] at h; rw [h]
  case gp.gp => simp only [beq_iff_eq] at h; rw [h]
  case ga.ga => simp only [Bool.and_eq_true, beq_iff_eq] at h; rw [h.1, h.2]
  case agg.agg => rw [AV.eqbL_eq h]
  case tup.tup => rw [AV.eqbL_eq h]
  case ptr.ptr => simp only [Bool.and_eq_true, beq_iff_eq] at h; rw [h.1, h.2]
  case bp.bp => simp only [Bool.and_eq_true, beq_iff_eq] at h; rw [h.1.1, h.1.2, h.2]
  case bsl.bsl => simp only [Bool.and_eq_true, beq_iff_eq] at h; rw [h.1.1.1.1, h.1.1.1.2, h.1.1.2, h.1.2, h.2]
  case asl.asl => simp only [Bool.and_eq_true, beq_iff_eq] at h; rw [h.1.1, h.1.2, h.2]
  case sl.sl =>
    rename_i k _ _ k'
    simp only [Bool.and_eq_true, beq_iff_eq] at h
    rw [AV.eqbL_eq h.1.1, h.1.2]
    have := h.2
    cases k <;> cases k' <;> simp_all
  case ep.ep => rw [AV.eqbL_eq h]
  case mp.mp => simp only [beq_iff_eq] at h; rw [h]
  case fn.fn => simp only [Bool.and_eq_true, decide_eq_true_eq] at h; rw [h.1, AV.eqbL_eq h.2]
theorem AV.eqbL_eq : {x y : List AV} → AV.eqbL x y = true → x = y := by
  intro x y h
  cases x <;> cases y
  · rfl
  · simp [AV.eqbL] at h
  · simp [AV.eqbL] at h
  · simp only [AV.eqbL, Bool.and_eq_true] at h
    rw [AV.eqb_eq h.1, AV.eqbL_eq h.2]
end

section
variable {G : Prg} {M : List AObj} {env env' : List AV}

theorem map_congr_ops {l : List Operand} (h : ∀ x ∈ l, eval env x = eval env' x) : l.map (eval env) = l.map (eval env') := List.map_congr_left h
theorem parts_congr {l : List (Nat × Operand)} (h : ∀ x ∈ l.map (·.2), eval env x = eval env' x) : (l.map fun p => (p.1, eval env p.2)) = l.map fun p => (p.1, eval env' p.2) :=
  List.map_congr_left fun p hp => by rw [h p.2 (List.mem_map_of_mem hp)]

theorem quiet_congr {o : Oper} (h : ∀ x ∈ o.op.operands, eval env x = eval env' x) : quietOp G M env o = quietOp G M env' o := by
  unfold quietOp
  obtain ⟨dst, op, type, pos, after, guard⟩ := o
  cases op <;> simp only [Op.operands] at h ⊢
  all_goals first
    | rfl
    | (rw [h _ (by simp)]; done)
    | (rw [h _ (by simp), h _ (by simp)]; done)
    | (simp (config := { contextual := true }) at h; simp [h]; done)
    | skip
  case build t ps => rw [parts_congr (fun x hx => h x (by simpa using hx))]
  case makeFunc fn first cap =>
    have e := map_congr_ops (l := cap.toList) (fun x hx => h x (Array.mem_append.2 (.inr (by simpa using hx))))
    cases fn <;> simp only [e]
  case slice t x lo hi mx =>
    have hx := h x (by simp)
    have ho : ∀ (y : Option Operand), (∀ z, y = some z → eval env z = eval env' z) → y.map (eval env) = y.map (eval env') := fun y hy => by
      cases y with
      | none => rfl
      | some z => simp [hy z rfl]
    rw [hx, ho lo (fun z hz => h z (by simp [hz])), ho hi (fun z hz => h z (by simp [hz])), ho mx (fun z hz => h z (by simp [hz]))]
  case call c =>
    have hall : ∀ x ∈ c.args.toList, eval env x = eval env' x := fun x hx => h x (by simp only [Call.operands]; exact Array.mem_append.2 (.inr (by simpa using hx)))
    have e := map_congr_ops hall
    split
    · split
      · rename_i t ts x xs h1 h2
        rw [hall x (by rw [h2]; simp)]
      · rfl
    · split
      · rename_i x hl
        rw [hall x (by rw [hl]; simp)]
      · rfl
    · rw [e]
    · rw [e]
    · rename_i f hf
      rw [h f (by simp [Call.operands, hf]), e]
    · rfl

theorem act_congr {o : Oper} (h : ∀ x ∈ o.op.operands, eval env x = eval env' x) : actOp G M env o = actOp G M env' o := by
  unfold actOp
  obtain ⟨dst, op, type, pos, after, guard⟩ := o
  cases op <;> simp only [Op.operands] at h ⊢
  all_goals first
    | rfl
    | (rw [h _ (by simp)]; done)
    | (rw [h _ (by simp), h _ (by simp)]; done)
    | (simp (config := { contextual := true }) at h; simp [h]; done)
    | skip
  case buildSlice t n ps => rw [parts_congr (fun x hx => h x (by simpa using hx))]
  case makeMap t r => cases r <;> rfl
  case call c =>
    have hall : ∀ x ∈ c.args.toList, eval env x = eval env' x := fun x hx => h x (by simp only [Call.operands]; exact Array.mem_append.2 (.inr (by simpa using hx)))
    split
    · rename_i st xt d x h1 h2 h3
      rw [hall d (by rw [h3]; simp), hall x (by rw [h3]; simp)]
    · rename_i dt xt d x h1 h2 h3
      rw [hall d (by rw [h3]; simp), hall x (by rw [h3]; simp)]
    · rename_i t ts m k h1 h2 h3
      rw [hall m (by rw [h3]; simp), hall k (by rw [h3]; simp)]
    · rename_i t ts m h1 h2 h3
      rw [hall m (by rw [h3]; simp)]
    · rename_i pt it p n h1 h2 h3
      rw [hall p (by rw [h3]; simp), hall n (by rw [h3]; simp)]
    · rfl

theorem callee_congr {c : Call} (h : ∀ x ∈ c.operands, eval env x = eval env' x) : callee env c = callee env' c := by
  have hall : ∀ x ∈ c.args.toList, eval env x = eval env' x := fun x hx => h x (by simp only [Call.operands]; exact Array.mem_append.2 (.inr (by simpa using hx)))
  unfold callee
  split
  · rename_i f hf
    have e := map_congr_ops hall
    rw [h f (by simp [Call.operands, hf]), e]
  · rfl

theorem step_congr {pr : Prim} {n : Nat} {o : Oper} {D D' : List Nat} (h : ∀ x ∈ o.op.operands, eval env x = eval env' x) : step G pr n o (env, M, D) = step G pr n o (env', M, D') := by
  cases n with
  | zero => rfl
  | succ n =>
    simp only [step]
    rw [quiet_congr h]
    split
    · rfl
    · rw [act_congr h]
      split
      · rfl
      · split
        · rename_i c hc
          have h' : ∀ x ∈ c.operands, eval env x = eval env' x := by simpa [hc, Op.operands] using h
          rw [callee_congr h']
        · rfl

/-- Alike where the operation looks. -/
def Alike (all : Array Oper) (o : Oper) (env env' : List AV) : Prop := env.length = env'.length ∧ ∀ d ∈ o.looksAt all, env.getD d .un = env'.getD d .un

theorem Alike.ops {all : Array Oper} {o : Oper} (h : Alike all o env env') : ∀ x ∈ o.op.operands, eval env x = eval env' x := fun x hx => by
  cases x with
  | tmp d => exact h.2 d (List.mem_append_left _ (List.mem_filterMap.2 ⟨.tmp d, by simpa using hx, rfl⟩))
  | _ => rfl

theorem Alike.wanted {all : Array Oper} {o : Oper} (h : Alike all o env env') : wanted o all env = wanted o all env' := by
  unfold Adm.wanted
  split
  · rfl
  · rename_i j want hg
    split
    · rename_i d hd
      rw [h.1, h.2 d (List.mem_append_right _ (by simp [hg, hd]))]
    · rfl

theorem pure_congr {M' : List AObj} {o : Oper} (h : pureOp o = true) : quietOp G M env o = quietOp G M' env o ∧ actOp G M env o = none ∧ ∀ c, o.op ≠ .call c := by
  unfold pureOp at h
  unfold quietOp actOp
  obtain ⟨dst, op, type, pos, after, guard⟩ := o
  cases op <;> simp at h <;> first
    | (refine ⟨rfl, rfl, fun c hc => ?_⟩; cases hc; done)
    | skip
  rename_i fn _ _
  cases fn <;> (refine ⟨rfl, rfl, fun c hc => ?_⟩; cases hc; done)

theorem pure_step {pr : Prim} {n : Nat} {M' : List AObj} {o : Oper} {D : List Nat} (h : pureOp o = true) {r : Acted} (hs : step G pr n o (env, M, D) = some r) :
    step G pr n o (env, M', D) = some (r.1, M', []) ∧ r.2 = (M, []) := by
  cases n with
  | zero => simp [step] at hs
  | succ n =>
    obtain ⟨h1, h2, h3⟩ := pure_congr (G := G) (M := M) (M' := M') (env := env) h
    simp only [step, h2] at hs ⊢
    split at hs
    · rename_i v hv
      simp only [Option.some.injEq] at hs
      subst hs
      simp only at hv ⊢
      rw [← h1, hv]
      exact ⟨rfl, trivial⟩
    · cases hs
end
end Go.Adm
set_option linter.unusedVariables false
set_option linter.unusedSimpArgs false
namespace Go.Adm
open Go

theorem matAt_zero (M : List AObj) (rs : List Acted) : matAt M rs 0 = M := rfl
theorem matAt_succ (M : List AObj) (rs : List Acted) (i : Nat) (h : i < rs.length) : matAt M rs (i + 1) = rs[i].2.1 := by
  simp only [matAt, List.getElem?_eq_getElem h]
theorem matAt_cons (M : List AObj) (r : Acted) (rs : List Acted) (i : Nat) (h : i ≤ rs.length) : matAt M (r :: rs) (i + 1) = matAt r.2.1 rs i := by
  cases i with
  | zero => rfl
  | succ i =>
    rw [matAt_succ _ _ _ (by simp only [List.length_cons]; omega), matAt_succ _ _ _ h]
    rfl

/-- What the text's order does. -/
def RunAt (stp : Stp) (all : Array Oper) (o : Oper) (env : List AV) (M : List AObj) (r : Acted) : Prop :=
  (wanted o all env = some false ∧ r = (.un, M, [])) ∨ (wanted o all env = some true ∧ stp o env M = some r)

theorem traceL_ok {stp : Stp} {all : Array Oper} : ∀ (l : List Oper) (env : List AV) (M : List AObj) (rs : List Acted), traceL stp all l env M = some rs →
    rs.length = l.length ∧ ∀ i (hi : i < l.length) (hr : i < rs.length), RunAt stp all l[i] (putAll (l.take i) (rs.take i) env) (matAt M rs i) rs[i] := by
  intro l
  induction l with
  | nil =>
    intro env M rs h
    simp only [traceL, Option.some.injEq] at h
    subst h
    exact ⟨rfl, fun i hi => absurd hi (Nat.not_lt_zero _)⟩
  | cons o l ih =>
    intro env M rs h
    have key : ∀ (r : Acted) (rs' : List Acted), RunAt stp all o env M r → traceL stp all l (put env o.dst r.1) r.2.1 = some rs' → rs = r :: rs' →
        rs.length = (o :: l).length ∧ ∀ i (hi : i < (o :: l).length) (hr : i < rs.length), RunAt stp all (o :: l)[i] (putAll ((o :: l).take i) (rs.take i) env) (matAt M rs i) rs[i] := by
      intro r rs' h0 h1 h2
      subst h2
      obtain ⟨h3, h4⟩ := ih _ _ _ h1
      refine ⟨by simp [h3], fun i hi hr => ?_⟩
      cases i with
      | zero => exact h0
      | succ i =>
        have := h4 i (by simpa using hi) (by simpa using hr)
        rw [matAt_cons _ _ _ _ (by simp at hr; omega)]
        exact this
    simp only [traceL] at h
    split at h
    · cases h
    · rename_i hw
      split at h
      · rename_i rs' h1
        simp only [Option.some.injEq] at h
        exact key _ _ (.inl ⟨hw, rfl⟩) h1 h.symm
      · cases h
    · rename_i hw
      split at h
      · rename_i v M' D hs
        split at h
        · rename_i rs' h1
          simp only [Option.some.injEq] at h
          exact key (v, M', D) _ (.inr ⟨hw, hs⟩) h1 h.symm
        · cases h
      · cases h

theorem chkL_ok {stp : Stp} {all : Array Oper} {tab cs : List Nat} {M : List AObj} {rs0 : List Acted} : ∀ (l : List Oper) (k : Nat) (rs : List Acted) (env : List AV), chkL stp all tab cs M rs0 k l rs env = true →
    ∀ i (hi : i < l.length) (hr : i < rs.length), chk1 stp all tab cs (win tab (k + i) all.size cs) M rs0 (k + i) l[i] rs[i] (putAll (l.take i) (rs.take i) env) = true := by
  intro l
  induction l with
  | nil => intro k rs env h i hi; exact absurd hi (Nat.not_lt_zero _)
  | cons o l ih =>
    intro k rs env h i hi hr
    cases rs with
    | nil => exact absurd hr (Nat.not_lt_zero _)
    | cons r rs =>
      simp only [chkL, Bool.and_eq_true] at h
      cases i with
      | zero => exact h.1
      | succ i =>
        have := ih (k + 1) rs _ h.2 i (by simpa using hi) (by simpa using hr)
        rw [show k + (i + 1) = k + 1 + i by omega]
        exact this

theorem chainsL_mem : ∀ (rs : List Acted) (k : Nat) (M : List AObj) (c : Nat), c ∈ chainsL k M rs ↔ ∃ (i : Nat) (h : i < rs.length), c = k + i ∧ stays (matAt M rs i) rs[i] = false := by
  intro rs
  induction rs with
  | nil => intro k M c; simp [chainsL]
  | cons r rs ih =>
    intro k M c
    have hstep : (∃ (i : Nat) (h : i < rs.length), c = k + 1 + i ∧ stays (matAt r.2.1 rs i) rs[i] = false) ↔ (∃ (i : Nat) (h : i + 1 < (r :: rs).length), c = k + (i + 1) ∧ stays (matAt M (r :: rs) (i + 1)) (r :: rs)[i + 1] = false) := by
      constructor
      · rintro ⟨i, h, h1, h2⟩
        exact ⟨i, by simpa using h, by omega, by rw [matAt_cons _ _ _ _ (by omega)]; exact h2⟩
      · rintro ⟨i, h, h1, h2⟩
        have h' : i < rs.length := by simpa using h
        exact ⟨i, h', by omega, by rw [matAt_cons _ _ _ _ (by omega)] at h2; exact h2⟩
    simp only [chainsL]
    split
    · rename_i hs
      rw [ih, hstep]
      constructor
      · rintro ⟨i, h, h1, h2⟩; exact ⟨i + 1, h, h1, h2⟩
      · rintro ⟨i, h, h1, h2⟩
        cases i with
        | zero =>
          have h2' : stays M r = false := h2
          rw [hs] at h2'
          cases h2'
        | succ i => exact ⟨i, h, h1, h2⟩
    · rename_i hs
      simp only [List.mem_cons]
      rw [ih, hstep]
      constructor
      · rintro (h | ⟨i, h, h1, h2⟩)
        · exact ⟨0, by simp, h, show stays M r = false by simpa using hs⟩
        · exact ⟨i + 1, h, h1, h2⟩
      · rintro ⟨i, h, h1, h2⟩
        cases i with
        | zero => exact .inl h1
        | succ i => exact .inr ⟨i, h, h1, h2⟩

theorem chainsL_sorted : ∀ (rs : List Acted) (k : Nat) (M : List AObj), (chainsL k M rs).Pairwise (· < ·) := by
  intro rs
  induction rs with
  | nil => intro k M; exact .nil
  | cons r rs ih =>
    intro k M
    simp only [chainsL]
    split
    · exact ih _ _
    · refine .cons (fun c hc => ?_) (ih _ _)
      obtain ⟨i, h, rfl, _⟩ := (chainsL_mem rs (k + 1) r.2.1 c).1 hc
      omega

theorem ancMask_bit {acc : List Nat} {b : Nat} : ∀ (l : List Edge) (m : Nat), (l.foldl (fun m e => if Region.binds .any e then (m ||| acc.getD e.on 0) ||| (1 <<< e.on) else m) m).testBit b = true →
    m.testBit b = true ∨ ∃ e ∈ l, Region.binds .any e = true ∧ (b = e.on ∨ (acc.getD e.on 0).testBit b = true) := by
  intro l
  induction l with
  | nil => intro m h; exact .inl h
  | cons e l ih =>
    intro m h
    simp only [List.foldl_cons] at h
    rcases ih _ h with h1 | ⟨e', h1, h2⟩
    · split at h1
      · rename_i hb
        simp only [Nat.testBit_or, Bool.or_eq_true, Nat.one_shiftLeft, Nat.testBit_two_pow, decide_eq_true_eq] at h1
        rcases h1 with (h1 | h1) | h1
        · exact .inl h1
        · exact .inr ⟨e, by simp, hb, .inr h1⟩
        · exact .inr ⟨e, by simp, hb, .inl h1.symm⟩
      · exact .inl h1
    · exact .inr ⟨e', List.mem_cons_of_mem _ h1, h2⟩

theorem ancs_get : ∀ (l : List Oper) (acc : List Nat), (∃ m, ancs l acc = acc ++ m ∧ m.length = l.length) ∧ ∀ i (h : i < l.length), ∃ acc', (∃ m, ancs l acc = acc' ++ m) ∧ acc'.length = acc.length + i ∧ (ancs l acc).getD (acc.length + i) 0 = ancMask l[i] acc' := by
  intro l
  induction l with
  | nil => intro acc; exact ⟨⟨[], by simp [ancs], rfl⟩, fun i h => absurd h (Nat.not_lt_zero _)⟩
  | cons o l ih =>
    intro acc
    obtain ⟨⟨m, h1, h2⟩, h3⟩ := ih (acc ++ [ancMask o acc])
    refine ⟨⟨ancMask o acc :: m, by simp [ancs, h1], by simp [h2]⟩, fun i hi => ?_⟩
    cases i with
    | zero =>
      refine ⟨acc, ⟨ancMask o acc :: m, by simp [ancs, h1]⟩, rfl, ?_⟩
      simp [ancs, h1, List.getD_eq_getElem?_getD]
    | succ i =>
      obtain ⟨acc', g1, g2, g3⟩ := h3 i (by simpa using hi)
      refine ⟨acc', g1, by simp at g2; omega, ?_⟩
      have e : (acc ++ [ancMask o acc]).length + i = acc.length + (i + 1) := by simp; omega
      rw [e] at g3
      exact g3

/-- A bit of the mask has its reason. -/
theorem tab_bit {l : List Oper} {i : Nat} (h : i < l.length) (hlt : ∀ e ∈ l[i].after, Region.binds .any e = true → e.on < i) {b : Nat} (hb : ((ancs l []).getD i 0).testBit b = true) :
    ∃ e ∈ l[i].after, Region.binds .any e = true ∧ (b = e.on ∨ ((ancs l []).getD e.on 0).testBit b = true) := by
  obtain ⟨_, h3⟩ := ancs_get l []
  obtain ⟨acc', ⟨m, g1⟩, g2, g3⟩ := h3 i h
  simp only [List.length_nil, Nat.zero_add] at g2 g3
  rw [g3] at hb
  rcases ancMask_bit _ _ hb with h1 | ⟨e, h1, h2, h4⟩
  · simp at h1
  · have he : e ∈ l[i].after := by simpa using h1
    refine ⟨e, he, h2, h4.imp id fun h5 => ?_⟩
    have : e.on < acc'.length := by rw [g2]; exact hlt e he h2
    rw [g1, List.getD_eq_getElem?_getD, List.getElem?_append_left this, ← List.getD_eq_getElem?_getD]
    exact h5

/-- What comes before is done. -/
theorem tab_done {l : List Oper} (hlt : ∀ i (h : i < l.length), ∀ e ∈ l[i].after, Region.binds .any e = true → e.on < i) (S : Nat → Prop)
    (hS : ∀ i (h : i < l.length), S i → ∀ e ∈ l[i].after, Region.binds .any e = true → S e.on) :
    ∀ (i : Nat) (h : i < l.length), (∀ e ∈ l[i].after, Region.binds .any e = true → S e.on) → ∀ b, ((ancs l []).getD i 0).testBit b = true → S b := by
  intro i
  induction i using Nat.strongRecOn with
  | _ i ih =>
    intro h hr b hb
    obtain ⟨e, h1, h2, h3⟩ := tab_bit h (hlt i h) hb
    rcases h3 with h3 | h3
    · subst h3; exact hr e h1 h2
    · have he := hlt i h e h1 h2
      exact ih e.on he (Nat.lt_trans he h) (hS _ _ (hr e h1 h2)) b h3

theorem win_mem {tab : List Nat} {i n : Nat} : ∀ (done rest : List Nat), (∀ c ∈ done, (tab.getD c 0).testBit i = false) → i ∉ done → (∀ c, rest.head? = some c → (tab.getD i 0).testBit c = false) → rest.headD n ∈ win tab i n (done ++ rest) := by
  intro done
  induction done with
  | nil =>
    intro rest _ _ h
    cases rest with
    | nil => simp [win]
    | cons c cs => simp only [List.nil_append, win, h c rfl]; simp
  | cons c done ih =>
    intro rest h hn h'
    have hc : (c == i) = false := by
      cases h : c == i with
      | false => rfl
      | true => exact absurd (by rw [eq_of_beq h]; simp) hn
    simp only [List.cons_append, win, h c (by simp), hc]
    exact List.mem_append_right _ (by simpa using ih rest (fun c hc => h c (List.mem_cons_of_mem _ hc)) (fun h => hn (List.mem_cons_of_mem _ h)) h')

theorem put_length (env : List AV) (d : Option Tmp) (v : AV) : (put env d v).length = env.length := by unfold put; split <;> simp
theorem putAll_length : ∀ (l : List Oper) (rs : List Acted) (env : List AV), (putAll l rs env).length = env.length := by
  intro l
  induction l with
  | nil => intro rs env; simp [putAll]
  | cons o l ih =>
    intro rs env
    cases rs with
    | nil => simp [putAll]
    | cons r rs => simp only [putAll, ih, put_length]

theorem put_getD_ne {env : List AV} {o : Option Tmp} {d : Nat} (v : AV) (h : o ≠ some d) : (put env o v).getD d .un = env.getD d .un := by
  unfold put
  split
  · rename_i e
    have : e ≠ d := fun he => h (by rw [he])
    simp [List.getD_eq_getElem?_getD, List.getElem?_set_ne this]
  · rfl

theorem putAll_none : ∀ (l : List Oper) (rs : List Acted) (env : List AV) (d : Nat), (∀ o ∈ l, o.dst ≠ some d) → (putAll l rs env).getD d .un = env.getD d .un := by
  intro l
  induction l with
  | nil => intro rs env d _; simp [putAll]
  | cons o l ih =>
    intro rs env d h
    cases rs with
    | nil => simp [putAll]
    | cons r rs =>
      simp only [putAll]
      rw [ih _ _ _ (fun o' ho => h o' (List.mem_cons_of_mem _ ho)), put_getD_ne _ (h o (by simp))]

theorem putAll_some : ∀ (l : List Oper) (rs : List Acted) (env : List AV) (d j : Nat) (hj : j < l.length) (hr : j < rs.length), l[j].dst = some d → (∀ k (hk : k < l.length), j < k → l[k].dst ≠ some d) → d < env.length →
    (putAll l rs env).getD d .un = rs[j].1 := by
  intro l
  induction l with
  | nil => intro rs env d j hj; exact absurd hj (Nat.not_lt_zero _)
  | cons o l ih =>
    intro rs env d j hj hr hd hno hlen
    cases rs with
    | nil => exact absurd hr (Nat.not_lt_zero _)
    | cons r rs =>
      simp only [putAll]
      cases j with
      | zero =>
        rw [putAll_none _ _ _ _ (fun o' ho => by
          obtain ⟨k, hk, rfl⟩ := List.mem_iff_getElem.1 ho
          exact hno (k + 1) (by simpa using hk) (by omega))]
        have hd' : o.dst = some d := hd
        simp only [put, hd', List.getD_eq_getElem?_getD, List.getElem?_set_self hlen, Option.getD_some, List.getElem_cons_zero]
      | succ j =>
        exact ih rs _ d j (by simpa using hj) (by simpa using hr) hd (fun k hk hjk => hno (k + 1) (by simpa using hk) (by omega)) (by rw [put_length]; exact hlen)
end Go.Adm
set_option linter.unusedVariables false
set_option linter.unusedSimpArgs false
namespace Go.Adm
open Go

abbrev sp (G : Prg) (pr : Prim) (n : Nat) : Stp := fun o env M => step G pr n o (env, M, [])
abbrev tb (ops : Array Oper) : List Nat := ancs ops.toList []
abbrev ev (ops : Array Oper) (rs : List Acted) (env0 : List AV) (i : Nat) : List AV := putAll (ops.toList.take i) (rs.take i) env0

structure Good (G : Prg) (pr : Prim) (n : Nat) (ops : Array Oper) (env0 : List AV) (M0 : List AObj) (rs : List Acted) : Prop where
  len : rs.length = ops.toList.length
  run : ∀ i (hi : i < ops.toList.length) (hr : i < rs.length), RunAt (sp G pr n) ops ops.toList[i] (ev ops rs env0 i) (matAt M0 rs i) rs[i]
  chk : ∀ i (hi : i < ops.toList.length) (hr : i < rs.length), chk1 (sp G pr n) ops (tb ops) (chainsL 0 M0 rs) (win (tb ops) i ops.size (chainsL 0 M0 rs)) M0 rs i ops.toList[i] rs[i] (ev ops rs env0 i) = true
  dirty : ∀ i (hr : i < rs.length), ActDirty (matAt M0 rs i) rs[i]

theorem stays_eq {M : List AObj} {r : Acted} (hd : ActDirty M r) (h : stays M r = true) : r.2 = (M, []) := by
  obtain ⟨v, M', D⟩ := r
  simp only [stays, Bool.and_eq_true, List.isEmpty_iff, beq_iff_eq] at h
  obtain ⟨rfl, h2⟩ := h
  have : M' = M := by
    apply List.ext_getElem?
    intro i
    by_cases hi : i < M.length
    · exact hd.2 i hi (by simp)
    · rw [List.getElem?_eq_none (by omega), List.getElem?_eq_none (by omega)]
  rw [this]

section
variable {G : Prg} {pr : Prim} {n : Nat} {ops : Array Oper} {env0 : List AV} {M0 : List AObj} {rs : List Acted}

theorem Good.lt (g : Good G pr n ops env0 M0 rs) (i : Nat) (hi : i < ops.toList.length) : ∀ e ∈ ops.toList[i].after, Region.binds .any e = true → e.on < i := fun e he hb => by
  have h := g.chk i hi (by rw [g.len]; exact hi)
  unfold chk1 at h
  simp only [Bool.and_eq_true, List.all_eq_true] at h
  have := h.1.1.1 e (by simpa using he)
  simpa [hb] using this

theorem Good.dst (g : Good G pr n ops env0 M0 rs) {i j : Nat} (hi : i < ops.toList.length) (hj : j < i) {d : Tmp} (h1 : ops.toList[i].dst = some d) : (ops.toList[j]'(by omega)).dst ≠ some d := fun h2 => by
  have h := g.chk i hi (by rw [g.len]; exact hi)
  unfold chk1 at h
  simp only [Bool.and_eq_true, h1] at h
  have h3 := List.all_eq_true.1 h.1.1.2 (ops.toList[j]'(by omega)) (by
    rw [List.mem_iff_getElem]
    exact ⟨j, by rw [List.length_take]; omega, by simp⟩)
  simp only [h2, beq_self_eq_true, Bool.not_true, Bool.false_eq_true] at h3

theorem Good.dst' (g : Good G pr n ops env0 M0 rs) {i j : Nat} (hi : i < ops.toList.length) (hj : j < ops.toList.length) {d : Tmp} (h1 : ops.toList[i].dst = some d) (h2 : ops.toList[j].dst = some d) : i = j := by
  rcases Nat.lt_trichotomy i j with h | h | h
  · exact absurd h1 (g.dst hj h h2)
  · exact h
  · exact absurd h2 (g.dst hi h h1)

theorem Good.looks (g : Good G pr n ops env0 M0 rs) {i j : Nat} (hi : i < ops.toList.length) (hj : j < ops.toList.length) {d : Tmp} (hd : d ∈ ops.toList[i].looksAt ops) (h1 : ops.toList[j].dst = some d) :
    (((tb ops).getD i 0).testBit j = true ∧ (j ∈ chainsL 0 M0 rs → ∀ p ∈ win (tb ops) i ops.size (chainsL 0 M0 rs), j < p)) ∨ (i < j ∧ ((tb ops).getD j 0).testBit i = true) := by
  have h := g.chk i hi (by rw [g.len]; exact hi)
  unfold chk1 at h
  simp only [Bool.and_eq_true] at h
  have h3 := List.all_eq_true.1 (List.all_eq_true.1 h.1.2 d hd) j (by simpa using hj)
  have hj' : ops[j]? = some ops.toList[j] := by
    rw [← Array.getElem?_toList, List.getElem?_eq_getElem hj]
  simp only [hj', h1, beq_self_eq_true, if_true, Bool.or_eq_true] at h3
  rcases h3 with h3 | h3
  · simp only [Bool.and_eq_true, Bool.or_eq_true, Bool.not_eq_true', List.all_eq_true, decide_eq_true_eq] at h3
    refine .inl ⟨h3.1, fun hc p hp => ?_⟩
    rcases h3.2 with h4 | h4
    · simp [hc] at h4
    · exact h4 p hp
  · simp only [Bool.and_eq_true, decide_eq_true_eq] at h3
    exact .inr h3

theorem Good.dyn (g : Good G pr n ops env0 M0 rs) {i : Nat} (hi : i < ops.toList.length) (hr : i < rs.length) :
    (if (chainsL 0 M0 rs).contains i then isAlloc ops.toList[i] || (win (tb ops) i ops.size (chainsL 0 M0 rs)).all fun p => p == i
     else (win (tb ops) i ops.size (chainsL 0 M0 rs)).all fun p => ((chainsL 0 M0 rs).all fun c => !(decide (i ≤ c) && decide (c < p)) && !(decide (p ≤ c) && decide (c < i))) || pureOp ops.toList[i] ||
      (match wanted ops.toList[i] ops (ev ops rs env0 i) with
       | some false => true
       | _ => match sp G pr n ops.toList[i] (ev ops rs env0 i) (matAt M0 rs p) with
        | some (v, M', D) => AV.eqb v rs[i].1 && D.isEmpty && M'.length == (matAt M0 rs p).length
        | none => false)) = true := by
  have h := g.chk i hi hr
  unfold chk1 at h
  simp only [Bool.and_eq_true] at h
  exact h.2

theorem Good.mem (g : Good G pr n ops env0 M0 rs) {c : Nat} : c ∈ chainsL 0 M0 rs ↔ ∃ h : c < rs.length, stays (matAt M0 rs c) rs[c] = false := by
  rw [chainsL_mem]
  constructor
  · rintro ⟨i, h, rfl, h2⟩
    simp only [Nat.zero_add]
    exact ⟨h, h2⟩
  · rintro ⟨h, h2⟩
    exact ⟨c, h, by omega, h2⟩

theorem Good.stay (g : Good G pr n ops env0 M0 rs) {i : Nat} (hr : i < rs.length) (h : i ∉ chainsL 0 M0 rs) : rs[i].2 = (matAt M0 rs i, []) := by
  refine stays_eq (g.dirty i hr) ?_
  cases hs : stays (matAt M0 rs i) rs[i] with
  | true => rfl
  | false => exact absurd (g.mem.2 ⟨hr, hs⟩) h

theorem Good.same (g : Good G pr n ops env0 M0 rs) {p : Nat} : ∀ (k : Nat), p + k ≤ rs.length → (∀ c ∈ chainsL 0 M0 rs, ¬ (p ≤ c ∧ c < p + k)) → matAt M0 rs (p + k) = matAt M0 rs p := by
  intro k
  induction k with
  | zero => intro _ _; rfl
  | succ k ih =>
    intro h1 h2
    have h3 := g.stay (i := p + k) (by omega) (fun hc => h2 _ hc ⟨by omega, by omega⟩)
    rw [show p + (k + 1) = p + k + 1 by omega, matAt_succ _ _ _ (by omega), h3]
    exact ih (by omega) (fun c hc hh => h2 c hc ⟨hh.1, by omega⟩)

theorem Good.same' (g : Good G pr n ops env0 M0 rs) {p q : Nat} (h : p ≤ q) (hq : q ≤ rs.length) (h2 : ∀ c ∈ chainsL 0 M0 rs, ¬ (p ≤ c ∧ c < q)) : matAt M0 rs q = matAt M0 rs p := by
  obtain ⟨k, rfl⟩ := Nat.exists_eq_add_of_le h
  exact g.same k hq h2

/-- A temporary's value on the way. -/
def Dd (ops : Array Oper) (rs : List Acted) (env0 : List AV) (S : Nat → Prop) (rest : List Nat) (d : Nat) (x : AV) : Prop :=
  ((∀ i (h : i < ops.toList.length), S i → ops.toList[i].dst ≠ some d) ∧ x = env0.getD d .un) ∨
  (∃ (i : Nat) (h : i < ops.toList.length) (h' : i < rs.length), S i ∧ ops.toList[i].dst = some d ∧ i ∉ rest ∧ x = rs[i].1) ∨
  (∃ (i : Nat) (h : i < ops.toList.length), i ∈ rest ∧ S i ∧ ops.toList[i].dst = some d)

/-- A new variable that stands in no object's place yet. -/
structure Pend (ops : Array Oper) (rs : List Acted) (M0 : List AObj) (K0 K : Ctx) (a : Act) (c b : Nat) (z : List AV) : Prop where
  tmp : ∃ (h : c < ops.toList.length) (d : Nat), ops.toList[c].dst = some d ∧ (d < a.tmps.size → a.tmps[d]? = some (.pointer (some (ad b 0))))
  res : ∃ (ty : TypeId) (h : c < rs.length), rs[c] = (.ptr (matAt M0 rs c).length 0, matAt M0 rs c ++ [.box ty z], [])
  cell : z.all AV.cell = true
  lo : K0.w.heap.size ≤ b
  hi : b < K.w.heap.size
  out : ∀ o, o < K.ι.length → K.at o ≠ b
  F : K.F b = 0
  row : ∃ cl t fr, K.w.heap[b]? = some (.cells cl t fr) ∧ RepL K z cl.toList ∧ (∀ off, off < cl.size → K.w.frozen? (ad b off) = false) ∧ ∀ (h : c < rs.length) (M' : List AObj) (ty : TypeId) (cs' : List AV), rs[c].2.1 = M' ++ [.box ty cs'] → t = ty

theorem Pend.ext {K0 K K' : Ctx} {a : Act} {c b : Nat} {z : List AV} (h : Pend ops rs M0 K0 K a c b z) (e : Ext K K') (hI : Inv K) : Pend ops rs M0 K0 K' a c b z := {
  tmp := h.tmp
  res := h.res
  cell := h.cell
  lo := h.lo
  hi := Nat.lt_of_lt_of_le h.hi e.heap
  out o ho := by
    rcases e.new o ho with ⟨o', h1, h2⟩ | h2
    · rw [h2]; exact h.out o' h1
    · have := h.hi; omega
  F := (e.frameF b h.hi h.out).trans h.F
  row := by
    obtain ⟨c, t, fr, h1, h2, h3, h3'⟩ := h.row
    rcases e.frame b h.hi h.out with h4 | ⟨_, c', t', fr', fr2, h5, h6, h7⟩
    · exact ⟨c, t, fr, h4.trans h1, h2.mono e.toExt0, fun off ho => by rw [← h3 off ho]; simp only [World.frozen?, h4], h3'⟩
    · rw [h1] at h5
      cases h5
      exact ⟨c, t, fr2, h6, h2.mono e.toExt0, fun off ho => (h7 off ho).trans (h3 off ho), h3'⟩ }

theorem Pend.put {K0 K : Ctx} {a : Act} {c b : Nat} {z : List AV} (h : Pend ops rs M0 K0 K a c b z) (o : Option Tmp) (u : Value) (hne : ∀ (hc : c < ops.toList.length) d, ops.toList[c].dst = some d → o ≠ some d) : Pend ops rs M0 K0 K (a.put o u) c b z := {
  tmp := by
    obtain ⟨hc, d, h1, h2⟩ := h.tmp
    refine ⟨hc, d, h1, fun hd => ?_⟩
    have hn := hne hc d h1
    cases o with
    | none => exact h2 hd
    | some e =>
      have : e ≠ d := fun he => hn (by rw [he])
      simp only [Act.put, Array.size_setIfInBounds] at hd ⊢
      rw [Array.getElem?_setIfInBounds_ne this]
      exact h2 hd
  res := h.res
  cell := h.cell
  lo := h.lo
  hi := h.hi
  out := h.out
  F := h.F
  row := h.row }

structure J (ops : Array Oper) (env0 : List AV) (M0 : List AObj) (rs : List Acted) (K0 : Ctx) (S : Nat → Prop) (a : Act) (K : Ctx) (done rest : List Nat) (env : List AV) (β : Nat → Nat) (ζ : Nat → List AV) : Prop where
  split : chainsL 0 M0 rs = done ++ rest
  M : K.M = matAt M0 rs (rest.headD ops.size)
  ext : Ext K0 K
  inv : Inv K
  done : ∀ c ∈ done, S c
  pend : ∀ c ∈ rest, S c → Pend ops rs M0 K0 K a c (β c) (ζ c)
  inj : ∀ c c', c ∈ rest → c' ∈ rest → S c → S c' → β c = β c' → c = c'
  envok : EnvOK K env a
  elen : env.length = env0.length
  vals : ∀ d, d < env0.length → Dd ops rs env0 S rest d (env.getD d .un)
  defers : a.defers = []
  down : ∀ i (h : i < ops.toList.length), S i → ∀ e ∈ ops.toList[i].after, Region.binds .any e = true → S e.on

theorem RepL.set_left {K : Ctx} {xs : List AV} {vs : List Value} (h : RepL K xs vs) (n : Nat) {x : AV} (g : ∀ (hn : n < vs.length), Rep K x vs[n]) : RepL K (xs.set n x) vs := by
  induction n generalizing xs vs with
  | zero => cases h with
    | nil => exact .nil
    | cons y v ys ws h t => exact .cons _ _ _ _ (g (by simp)) t
  | succ n ih => cases h with
    | nil => exact .nil
    | cons y v ys ws h t => exact .cons _ _ _ _ h (ih t (fun hn => g (by simpa using hn)))

theorem J.adv (g : Good G pr n ops env0 M0 rs) {K0 K : Ctx} (hI0 : Inv K0) {S : Nat → Prop} {a : Act} {done rest : List Nat} {env : List AV} {β : Nat → Nat} {ζ : Nat → List AV} {c : Nat}
    (j : J ops env0 M0 rs K0 S a K done (c :: rest) env β ζ) (hc : S c) : ∃ K' env', K'.w = K.w ∧ J ops env0 M0 rs K0 S a K' (done ++ [c]) rest env' β ζ := by
  have hp := j.pend c (by simp) hc
  have hM : K.M = matAt M0 rs c := j.M
  obtain ⟨hcl, d, hd, htmp⟩ := hp.tmp
  obtain ⟨ty, hcr, hres⟩ := hp.res
  obtain ⟨cells, t, fr, r1, r2, r3, r4⟩ := hp.row
  have hty : t = ty := r4 hcr _ _ _ (by rw [hres])
  have hB : K.B ≤ β c := by
    have := j.ext.B
    have := hI0.baseH
    have := hp.lo
    omega
  obtain ⟨e1, i1, e2, hat⟩ := reg_ok j.inv (.box ty (ζ c)) (β c) hp.hi hB hp.out (fun h0 => ⟨cells, t, fr, r1, r2.mono h0, r3, hp.F, hp.cell, hty⟩)
  have hsorted := chainsL_sorted rs 0 M0
  rw [j.split] at hsorted
  have hrest : ∀ c' ∈ rest, c < c' := fun c' h => by
    have := (List.pairwise_append.1 hsorted).2.1
    exact (List.pairwise_cons.1 this).1 c' h
  have hcn : c ∉ rest := fun h => Nat.lt_irrefl _ (hrest c h)
  let K' : Ctx := ⟨K.M ++ [.box ty (ζ c)], K.ι ++ [β c], K.F, K.w, K.B⟩
  have hrep : Rep K' (.ptr K.M.length 0) (.pointer (some (ad (β c) 0))) := by
    have hlen : K.M.length < K'.ι.length := by
      show K.M.length < (K.ι ++ [β c]).length
      simp [j.inv.len]
    have := Rep.ptr (K := K') K.M.length 0 hlen (by
      show eszO (K.M ++ [AObj.box ty (ζ c)])[K.M.length]? = 0
      simp [eszO])
    rw [hat] at this
    exact this
  refine ⟨K', env.set d rs[c].1, rfl, ?_⟩
  have hrs : rs[c].1 = .ptr K.M.length 0 := by rw [hres, hM]
  refine ⟨by rw [j.split]; simp, ?_, e2 K0 j.ext hp.lo, i1, ?_, ?_, ?_, ?_, by simp [j.elen], ?_, j.defers, j.down⟩
  · show K.M ++ [.box ty (ζ c)] = _
    have h1 : matAt M0 rs (c + 1) = K.M ++ [.box ty (ζ c)] := by rw [matAt_succ _ _ _ hcr, hres, hM]
    rw [← h1]
    have hle : c + 1 ≤ rest.headD ops.size ∧ rest.headD ops.size ≤ rs.length := by
      cases hr : rest with
      | nil => simp [g.len] at hcr ⊢; omega
      | cons c' rest' =>
        have := hrest c' (by rw [hr]; simp)
        have : c' < rs.length := (g.mem.1 (by rw [j.split, hr]; simp)).1
        simp; omega
    refine (g.same' hle.1 hle.2 fun c' h' hh => ?_).symm
    rw [j.split] at h'
    rcases List.mem_append.1 h' with h' | h'
    · have := (List.pairwise_append.1 hsorted).2.2 c' h' c (by simp)
      omega
    · cases h' with
      | head => omega
      | tail _ h' =>
        have hsr := (List.pairwise_cons.1 (List.pairwise_append.1 hsorted).2.1).2
        cases hr : rest with
        | nil => rw [hr] at h'; cases h'
        | cons c2 rest2 =>
          rw [hr] at h' hh hsr
          simp only [List.headD_cons] at hh
          cases h' with
          | head => omega
          | tail _ h' => have := (List.pairwise_cons.1 hsr).1 c' h'; omega
  · intro c' h'
    rcases List.mem_append.1 h' with h' | h'
    · exact j.done c' h'
    · simp at h'; subst h'; exact hc
  · intro c' h' hs'
    have hp' := j.pend c' (List.mem_cons_of_mem _ h') hs'
    refine ⟨hp'.tmp, hp'.res, hp'.cell, hp'.lo, hp'.hi, fun o ho => ?_, hp'.F, ?_⟩
    · have ho' : o < K.ι.length ∨ o = K.ι.length := by
        have : o < (K.ι ++ [β c]).length := ho
        simp at this; omega
      rcases ho' with ho' | ho'
      · have : K'.at o = K.at o := by simp only [K', Ctx.at, List.getD_eq_getElem?_getD, List.getElem?_append_left ho']
        rw [this]
        exact hp'.out o ho'
      · subst ho'
        rw [j.inv.len]
        show (⟨K.M ++ [.box ty (ζ c)], K.ι ++ [β c], K.F, K.w, K.B⟩ : Ctx).at K.M.length ≠ _
        rw [hat]
        intro hb
        have := j.inj c c' (by simp) (List.mem_cons_of_mem _ h') hc hs' hb
        subst this
        exact hcn h'
    · obtain ⟨cells, t, fr, r1, r2, r3⟩ := hp'.row
      exact ⟨cells, t, fr, r1, r2.mono e1, r3⟩
  · exact fun x y hx hy => j.inj x y (List.mem_cons_of_mem _ hx) (List.mem_cons_of_mem _ hy)
  · refine RepL.set_left (j.envok.mono e1) d fun hn => ?_
    have hd' : d < a.tmps.size := by simpa using hn
    have := htmp hd'
    rw [Array.getElem?_eq_getElem hd', Option.some.injEq] at this
    rw [hrs]
    simp only [Array.getElem_toList]
    rw [this]
    exact hrep
  · intro d' hd'
    by_cases he : d = d'
    · subst he
      refine .inr (.inl ⟨c, hcl, hcr, hc, hd, hcn, ?_⟩)
      have : d < env.length := by rw [j.elen]; exact hd'
      simp [List.getD_eq_getElem?_getD, List.getElem?_set_self this]
    · have hget : (env.set d rs[c].1).getD d' .un = env.getD d' .un := by
        simp [List.getD_eq_getElem?_getD, List.getElem?_set_ne he]
      rw [hget]
      rcases j.vals d' hd' with h | ⟨i, h1, h2, h3, h4, h5, h6⟩ | ⟨i, h1, h2, h3, h4⟩
      · exact .inl h
      · exact .inr (.inl ⟨i, h1, h2, h3, h4, fun h => h5 (List.mem_cons_of_mem _ h), h6⟩)
      · cases h2 with
        | head => rw [hd] at h4; exact absurd (Option.some.inj h4) he
        | tail _ h2 => exact .inr (.inr ⟨i, h1, h2, h3, h4⟩)

theorem J.max (g : Good G pr n ops env0 M0 rs) {K0 : Ctx} (hI0 : Inv K0) {S : Nat → Prop} {a : Act} {β : Nat → Nat} {ζ : Nat → List AV} : ∀ (rest done : List Nat) (K : Ctx) (env : List AV), J ops env0 M0 rs K0 S a K done rest env β ζ →
    ∃ K' done' rest' env', K'.w = K.w ∧ J ops env0 M0 rs K0 S a K' done' rest' env' β ζ ∧ ∀ c, rest'.head? = some c → ¬ S c := by
  intro rest
  induction rest with
  | nil => intro done K env j; exact ⟨K, done, [], env, rfl, j, fun c h => by cases h⟩
  | cons c rest ih =>
    intro done K env j
    by_cases hc : S c
    · obtain ⟨K1, env1, h1, j1⟩ := j.adv g hI0 hc
      obtain ⟨K2, d2, r2, env2, h2, j2, h3⟩ := ih _ _ _ j1
      exact ⟨K2, d2, r2, env2, h2.trans h1, j2, h3⟩
    · exact ⟨K, done, c :: rest, env, rfl, j, fun c' h => by cases h; exact hc⟩
end
end Go.Adm
set_option linter.unusedVariables false
set_option linter.unusedSimpArgs false
namespace Go.Adm
open Go

section
variable {P : Program} {G : Prg} {pr : Prim} {n : Nat} {ops : Array Oper} {env0 : List AV} {M0 : List AObj} {rs : List Acted}

theorem head_le {rest : List Nat} {N k : Nat} (hs : rest.Pairwise (· < ·)) (h : k ∈ rest) : rest.headD N ≤ k := by
  cases rest with
  | nil => cases h
  | cons c rest =>
    simp only [List.headD_cons]
    cases h with
    | head => exact Nat.le_refl _
    | tail _ h => exact Nat.le_of_lt ((List.pairwise_cons.1 hs).1 k h)

theorem Good.after (g : Good G pr n ops env0 M0 rs) {done rest : List Nat} {c : Nat} (hsp : chainsL 0 M0 rs = done ++ c :: rest) : matAt M0 rs (rest.headD ops.size) = matAt M0 rs (c + 1) := by
  have hsorted := chainsL_sorted rs 0 M0
  rw [hsp] at hsorted
  have hcr : c < rs.length := (g.mem.1 (by rw [hsp]; simp)).1
  have hrest : ∀ c' ∈ rest, c < c' := fun c' h => (List.pairwise_cons.1 (List.pairwise_append.1 hsorted).2.1).1 c' h
  have hle : c + 1 ≤ rest.headD ops.size ∧ rest.headD ops.size ≤ rs.length := by
    cases hr : rest with
    | nil => simp [g.len] at hcr ⊢; omega
    | cons c' rest' =>
      have := hrest c' (by rw [hr]; simp)
      have : c' < rs.length := (g.mem.1 (by rw [hsp, hr]; simp)).1
      simp; omega
  refine g.same' hle.1 hle.2 fun c' h' hh => ?_
  rw [hsp] at h'
  rcases List.mem_append.1 h' with h' | h'
  · have := (List.pairwise_append.1 hsorted).2.2 c' h' c (by simp)
    omega
  · cases h' with
    | head => omega
    | tail _ h' =>
      have := head_le (N := ops.size) (List.pairwise_cons.1 (List.pairwise_append.1 hsorted).2.1).2 h'
      omega

variable {K0 K : Ctx} {S : Nat → Prop} {a : Act} {done rest : List Nat} {env : List AV} {β : Nat → Nat} {ζ : Nat → List AV} {i : Nat}

theorem J.downs (j : J ops env0 M0 rs K0 S a K done rest env β ζ) (hi : i < ops.toList.length) (hready : ∀ e ∈ ops.toList[i].after, Region.binds .any e = true → S e.on) :
    ∀ k (h : k < ops.toList.length), (S k ∨ k = i) → ∀ e ∈ ops.toList[k].after, Region.binds .any e = true → S e.on ∨ e.on = i := fun k hk h e he hb => by
  rcases h with h | h
  · exact .inl (j.down k hk h e he hb)
  · subst h; exact .inl (hready e he hb)

theorem J.vals' (j : J ops env0 M0 rs K0 S a K done rest env β ζ) (hi : i < ops.toList.length) (hr : i < rs.length) {rest' : List Nat} (hrest : ∀ k, k ∈ rest' → k ∈ rest) (hrest2 : ∀ k, k ∈ rest → k ≠ i → k ∈ rest') (v : AV)
    (hv : ∀ d, ops.toList[i].dst = some d → Dd ops rs env0 (fun x => S x ∨ x = i) rest' d v) (hS : ¬ S i) : ∀ d, d < env0.length → Dd ops rs env0 (fun x => S x ∨ x = i) rest' d ((put env ops.toList[i].dst v).getD d .un) := fun d hd => by
  by_cases h : ops.toList[i].dst = some d
  · have : d < env.length := by rw [j.elen]; exact hd
    have e : (put env ops.toList[i].dst v).getD d .un = v := by
      simp only [put, h, List.getD_eq_getElem?_getD, List.getElem?_set_self this, Option.getD_some]
    rw [e]
    exact hv d h
  · rw [put_getD_ne _ h]
    rcases j.vals d hd with ⟨h1, h2⟩ | ⟨k, h1, h2, h3, h4, h5, h6⟩ | ⟨k, h1, h2, h3, h4⟩
    · refine .inl ⟨fun k hk hS => ?_, h2⟩
      rcases hS with hS | hS
      · exact h1 k hk hS
      · subst hS; exact h
    · exact .inr (.inl ⟨k, h1, h2, .inl h3, h4, fun h => h5 (hrest k h), h6⟩)
    · exact .inr (.inr ⟨k, h1, hrest2 k h2 (fun e => by subst e; exact hS h3), .inl h3, h4⟩)

theorem put_defers {a : Act} (h : a.defers = []) (d : Option Tmp) (u : Value) : (a.put d u).defers = [] := by
  unfold Act.put; split <;> exact h

theorem J.next (g : Good G pr n ops env0 M0 rs) (j : J ops env0 M0 rs K0 S a K done rest env β ζ) {K' : Ctx} (e : Ext K K') (hI' : Inv K') (hi : i < ops.toList.length) (hr : i < rs.length) (hS : ¬ S i)
    (hready : ∀ e ∈ ops.toList[i].after, Region.binds .any e = true → S e.on) {u : Value} (hu : Rep K' rs[i].1 u) {done' rest' : List Nat} (hsp : chainsL 0 M0 rs = done' ++ rest')
    (hM : K'.M = matAt M0 rs (rest'.headD ops.size)) (hd : ∀ c ∈ done', c ∈ done ∨ c = i) (hrest : ∀ k, k ∈ rest' → k ∈ rest) (hrest2 : ∀ k, k ∈ rest → k ≠ i → k ∈ rest') (hir : i ∉ rest') :
    J ops env0 M0 rs K0 (fun x => S x ∨ x = i) (a.put ops.toList[i].dst u) K' done' rest' (put env ops.toList[i].dst rs[i].1) β ζ := {
  split := hsp
  M := hM
  ext := j.ext.trans e
  inv := hI'
  done c hc := (hd c hc).imp (j.done c) id
  pend c hc hs := by
    rcases hs with hs | hs
    · refine ((j.pend c (hrest c hc) hs).ext e j.inv).put _ _ fun hcl d h1 h2 => ?_
      have := g.dst' hcl hi h1 h2
      subst this
      exact hS hs
    · subst hs; exact absurd hc hir
  inj c c' hc hc' hs hs' := by
    rcases hs with hs | hs
    · rcases hs' with hs' | hs'
      · exact j.inj c c' (hrest c hc) (hrest c' hc') hs hs'
      · subst hs'; exact absurd hc' hir
    · subst hs; exact absurd hc hir
  envok := (j.envok.mono e.toExt0).put _ hu
  elen := by rw [put_length]; exact j.elen
  vals := j.vals' hi hr hrest hrest2 _ (fun d h => .inr (.inl ⟨i, hi, hr, .inr rfl, h, hir, rfl⟩)) hS
  defers := put_defers j.defers _ _
  down := j.downs hi hready }

theorem Good.alike (g : Good G pr n ops env0 M0 rs) (j : J ops env0 M0 rs K0 S a K done rest env β ζ) (hmax : ∀ c, rest.head? = some c → ¬ S c) (hi : i < ops.toList.length) (hS : ¬ S i)
    (hready : ∀ e ∈ ops.toList[i].after, Region.binds .any e = true → S e.on) :
    rest.headD ops.size ∈ win (tb ops) i ops.size (chainsL 0 M0 rs) ∧ Alike ops ops.toList[i] (ev ops rs env0 i) env := by
  have hanc : ∀ b, ((tb ops).getD i 0).testBit b = true → S b := tab_done g.lt S j.down i hi hready
  have hW : rest.headD ops.size ∈ win (tb ops) i ops.size (chainsL 0 M0 rs) := by
    rw [j.split]
    refine win_mem done rest (fun c hc => ?_) (fun h => hS (j.done i h)) (fun c hc => ?_)
    · cases h : ((tb ops).getD c 0).testBit i with
      | false => rfl
      | true =>
        have hcl : c < ops.toList.length := by
          rw [← g.len]
          exact (g.mem.1 (by rw [j.split]; exact List.mem_append_left _ hc)).1
        exact absurd (tab_done g.lt S j.down c hcl (j.down c hcl (j.done c hc)) i h) hS
    · cases h : ((tb ops).getD i 0).testBit c with
      | false => rfl
      | true => exact absurd (hanc c h) (hmax c hc)
  refine ⟨hW, by simp only [ev, putAll_length, j.elen], fun d hd => ?_⟩
  by_cases hdl : d < env0.length
  · have hbelow : ∀ b, ((tb ops).getD i 0).testBit b = true → b < i :=
      tab_done g.lt (fun b => b < i) (fun k hk hki e he hb => Nat.lt_trans (g.lt k hk e he hb) hki) i hi (g.lt i hi)
    rcases j.vals d hdl with ⟨h1, h2⟩ | ⟨k, hk, hk', hSk, hkd, _, hx⟩ | ⟨k, hk, hkr, hSk, hkd⟩
    · rw [h2]
      refine putAll_none _ _ _ _ fun o ho hod => ?_
      obtain ⟨k, hk, rfl⟩ := List.mem_iff_getElem.1 (List.mem_of_mem_take ho)
      rcases g.looks hi hk hd hod with h3 | ⟨h3, _⟩
      · exact h1 k hk (hanc k h3.1) hod
      · obtain ⟨q, hq, hqe⟩ := List.mem_iff_getElem.1 ho
        have hqi : q < i := by rw [List.length_take] at hq; omega
        have : ops.toList[q]'(by rw [List.length_take] at hq; omega) = ops.toList[k] := by rw [← hqe]; simp
        have := g.dst' (i := q) (j := k) (by rw [List.length_take] at hq; omega) hk (by rw [this]; exact hod) hod
        omega
    · rw [hx]
      have hno : ((tb ops).getD k 0).testBit i = true → False := fun h => hS (tab_done g.lt S j.down k hk (j.down k hk hSk) i h)
      have hki := hbelow k ((g.looks hi hk hd hkd).resolve_right fun h => hno h.2).1
      have := putAll_some (ops.toList.take i) (rs.take i) env0 d k (by rw [List.length_take]; omega) (by rw [List.length_take]; omega) (by simpa using hkd)
        (fun k' hk2 hlt h2 => by
          have hk2' : k' < ops.toList.length := by rw [List.length_take] at hk2; omega
          have := g.dst' hk2' hk (by simpa using h2) hkd
          omega) hdl
      rw [ev, this, List.getElem_take]
    · have hkc : k ∈ chainsL 0 M0 rs := by rw [j.split]; exact List.mem_append_right _ hkr
      have hno : ((tb ops).getD k 0).testBit i = true → False := fun h => hS (tab_done g.lt S j.down k hk (j.down k hk hSk) i h)
      have h1 := ((g.looks hi hk hd hkd).resolve_right fun h => hno h.2).2 hkc _ hW
      have hs := chainsL_sorted rs 0 M0
      rw [j.split] at hs
      have := head_le (N := ops.size) (List.pairwise_append.1 hs).2.1 hkr
      omega
  · have e1 : (ev ops rs env0 i).length = env0.length := putAll_length _ _ _
    have e2 := j.elen
    simp only [List.getD_eq_getElem?_getD, List.getElem?_eq_none (show (ev ops rs env0 i).length ≤ d from e1 ▸ Nat.le_of_not_lt hdl), List.getElem?_eq_none (show env.length ≤ d from e2 ▸ Nat.le_of_not_lt hdl)]
end
end Go.Adm
set_option linter.unusedVariables false
set_option linter.unusedSimpArgs false
namespace Go.Adm
open Go

section
variable {P : Program} {G : Prg} {pr : Prim} {n : Nat} {ops : Array Oper} {env0 : List AV} {M0 : List AObj} {rs : List Acted}
variable {K0 K : Ctx} {S : Nat → Prop} {a : Act} {done rest : List Nat} {env : List AV} {β : Nat → Nat} {ζ : Nat → List AV} {i : Nat}

/-- A variable is made, and no object is told of it yet. -/
theorem alloc_pend (hG : PrgOK G P) (hI : Inv K) {o : Oper} {t : TypeId} (ho : o.op = .alloc t) (hc : (G.ty t).zero.cells.all AV.cell = true) (a : Act) :
    ∃ K' : Ctx, (execOp a.eval o).run P K.w = .ok (.value (.pointer (some (ad K.w.heap.size 0)))) K'.w ∧ K'.M = K.M ∧ K'.ι = K.ι ∧ Ext K K' ∧ Inv K' ∧ K.w.heap.size < K'.w.heap.size ∧ K'.F K.w.heap.size = 0 ∧
      ∃ c fr, K'.w.heap[K.w.heap.size]? = some (.cells c t fr) ∧ RepL K' (G.ty t).zero.cells c.toList ∧ ∀ off, off < c.size → K'.w.frozen? (ad K.w.heap.size off) = false := by
  have hz : zeroOK G P t := by
    rcases hG.ty t with ⟨_, _, hb'⟩ | ⟨_, hz, _⟩
    · rw [hb'] at hc; simp [AV.cells, AV.cell] at hc
    · exact hz
  obtain ⟨z, hz1, hz2, _⟩ := zero_ok hz hc
  obtain ⟨e1, i1⟩ := new_ok hI (.cells z.cells t) (K.w.alloc (.cells z.cells t)) 0 rfl rfl rfl rfl (fun _ _ _ _ h => absurd h (Nat.not_lt_zero _))
  have hb : (K.w.alloc (.cells z.cells t)).heap[K.w.heap.size]? = some (.cells z.cells t (0, 0)) := by
    show (K.w.heap.push _)[K.w.heap.size]? = _
    simp
  refine ⟨⟨K.M, K.ι, fun b => if b = K.w.heap.size then 0 else K.F b, K.w.alloc (.cells z.cells t), K.B⟩, ?_, rfl, rfl, e1, i1, ?_, by simp, z.cells, (0, 0), hb, (hz2 _).cells hc, fun off ho => ?_⟩
  · simp only [execOp, ho, Instr.alloc, newVar, Sem.run_bind, hz1, run_newRow, Result.andThen_ok, Sem.run_pure]
  · show _ < (K.w.heap.push _).size
    simp
  · simp only [World.frozen?, hb]
    simp

theorem J.step (hG : PrgOK G P) (hs : SStep P G pr n) (hsd : ∀ o st r, step G pr n o st = some r → ActDirty st.2.1 r) (g : Good G pr n ops env0 M0 rs) (hI0 : Inv K0) (j : J ops env0 M0 rs K0 S a K done rest env β ζ) (hmax : ∀ c, rest.head? = some c → ¬ S c)
    (hi : i < ops.toList.length) (hS : ¬ S i) (hready : ∀ e ∈ ops.toList[i].after, Region.binds .any e = true → S e.on) (Kn : Act → World → Prop) (Q : Exit → Act → World → Prop)
    (hn : ∀ a' K' done' rest' env' β' ζ', J ops env0 M0 rs K0 (fun x => S x ∨ x = i) a' K' done' rest' env' β' ζ' → Kn a' K'.w) : wpOp P ops Q i Kn a K.w := by
  have hr : i < rs.length := by rw [g.len]; exact hi
  have hoi : ops[i]? = some ops.toList[i] := by rw [← Array.getElem?_toList, List.getElem?_eq_getElem hi]
  obtain ⟨hW, hal⟩ := g.alike j hmax hi hS hready
  have hsorted := chainsL_sorted rs 0 M0
  rw [j.split] at hsorted
  have hdn : i ∉ done := fun h => hS (j.done i h)
  have hpl : rest.headD ops.size ≤ rs.length := by
    cases hr' : rest with
    | nil => simp [g.len]
    | cons c r =>
      have := (g.mem.1 (show c ∈ chainsL 0 M0 rs by rw [j.split, hr']; simp)).1
      simp; omega
  unfold wpOp
  simp only [hoi]
  rcases g.run i hi hr with ⟨hw, hres⟩ | ⟨hw, hst⟩
  · rw [wanted_ok j.envok (hal.wanted ▸ hw)]
    simp only [Bool.false_eq_true, if_false]
    have hir : i ∉ rest := fun h => by
      obtain ⟨_, h2⟩ := g.mem.1 (show i ∈ chainsL 0 M0 rs by rw [j.split]; exact List.mem_append_right _ h)
      rw [hres] at h2
      simp [stays] at h2
    exact hn _ K done rest _ _ _ (j.next g (Ext.refl K) j.inv hi hr hS hready (u := undef) (by rw [hres]; exact .un) j.split j.M (fun c h => .inl h) (fun k h => h) (fun k h _ => h) hir)
  · rw [wanted_ok j.envok (hal.wanted ▸ hw)]
    simp only [if_true]
    refine .inl ?_
    have hdyn := g.dyn hi hr
    have hcong : ∀ M, sp G pr n ops.toList[i] env M = sp G pr n ops.toList[i] (ev ops rs env0 i) M := fun M => (step_congr hal.ops).symm
    by_cases hic : i ∈ chainsL 0 M0 rs
    · have hir : i ∈ rest := by
        rw [j.split] at hic
        exact (List.mem_append.1 hic).resolve_left hdn
      simp only [List.contains_iff_mem, hic, if_true, Bool.or_eq_true, List.all_eq_true, beq_iff_eq] at hdyn
      rcases hdyn with hdyn | hdyn
      · -- a variable is made
        unfold isAlloc at hdyn
        split at hdyn
        · rename_i t d ho hd
          have hbox : boxOp G (matAt M0 rs i) t (G.ty t).zero = some rs[i] := by
            cases n with
            | zero => simp [sp, Adm.step] at hst
            | succ n =>
              simp only [sp, Adm.step, quietOp, actOp, ho] at hst
              split at hst
              · rename_i r h1
                rw [h1]; exact hst
              · cases hst
          unfold boxOp at hbox
          split at hbox
          · rename_i hzc
            simp only [Option.some.injEq] at hbox
            obtain ⟨K', h1, h2, h2', h3, h4, h5, h6, h7⟩ := alloc_pend hG j.inv ho hzc a
            unfold Oper.wp
            rw [h1]
            show Kn (a.put ops.toList[i].dst (.pointer (some (ad K.w.heap.size 0)))) K'.w
            refine hn _ K' done rest (put env ops.toList[i].dst .any) (fun x => if x = i then K.w.heap.size else β x) (fun x => if x = i then (G.ty t).zero.cells else ζ x) ?_
            refine ⟨j.split, by rw [h2]; exact j.M, j.ext.trans h3, h4, fun c hc => .inl (j.done c hc), fun c hc hs => ?_, fun c c' hc hc' hs hs' he => ?_, (j.envok.mono h3.toExt0).put _ (.any _), by rw [put_length]; exact j.elen,
              j.vals' hi hr (fun k h => h) (fun k h _ => h) _ (fun d h => .inr (.inr ⟨i, hi, hir, .inr rfl, h⟩)) hS, put_defers j.defers _ _, j.downs hi hready⟩
            · by_cases hci : c = i
              · subst hci
                simp only [if_true]
                refine ⟨⟨hi, d, hd, fun hsz => ?_⟩, ⟨t, hr, hbox.symm⟩, hzc, j.ext.heap, h5, fun o ho' => ?_, h6, by
                  obtain ⟨c1, f1, q1, q2, q3⟩ := h7
                  refine ⟨c1, t, f1, q1, q2, q3, fun _ M' ty cs' he => ?_⟩
                  rw [← hbox] at he
                  have := (List.append_inj' he rfl).2
                  injection this with e1 _
                  injection e1⟩
                · simp only [Act.put, hd, Array.size_setIfInBounds] at hsz ⊢
                  simp [hsz]
                · rw [h2'] at ho'
                  have h8 := h4.lt o (by rw [h2']; exact ho')
                  have h9 := j.inv.lt o ho'
                  have h10 : K'.at o = K.at o := by simp only [Ctx.at, h2']
                  rw [h10]; omega
              · rcases hs with hs | hs
                · simp only [hci, if_false]
                  refine ((j.pend c hc hs).ext h3 j.inv).put _ _ fun hcl d' g1 g2 => ?_
                  exact hci (g.dst' hcl hi g1 g2)
                · exact absurd hs hci
            · by_cases hci : c = i
              · by_cases hci' : c' = i
                · rw [hci, hci']
                · have hs2 : S c' := hs'.resolve_right hci'
                  simp only [hci, hci', if_true, if_false] at he
                  have := (j.pend c' hc' hs2).hi
                  omega
              · have hs1 : S c := hs.resolve_right hci
                by_cases hci' : c' = i
                · simp only [hci, hci', if_true, if_false] at he
                  have := (j.pend c hc hs1).hi
                  omega
                · simp only [hci, hci', if_false] at he
                  exact j.inj c c' hc hc' hs1 (hs'.resolve_right hci') he
          · cases hbox
        · cases hdyn
      · have hp := hdyn _ hW
        cases hr' : rest with
        | nil => rw [hr'] at hir; cases hir
        | cons c rest' =>
          have hci : c = i := by rw [hr'] at hp; simpa using hp
          subst hci
          have hM : K.M = matAt M0 rs c := by rw [j.M, hr']; rfl
          refine hs _ (env, matAt M0 rs c, []) rs[c] ((hcong _).trans hst) K a hM j.inv j.envok _ _ fun K' u hM' e' hI' hu => ?_
          have hsp : chainsL 0 M0 rs = (done ++ [c]) ++ rest' := by rw [j.split, hr']; simp
          have hcn : c ∉ rest' := fun h => by
            rw [hr'] at hsorted
            exact Nat.lt_irrefl _ ((List.pairwise_cons.1 (List.pairwise_append.1 hsorted).2.1).1 c h)
          refine hn _ K' (done ++ [c]) rest' _ _ _ (j.next g e' hI' hi hr hS hready hu hsp ?_ (fun x hx => ?_) (fun k h => by rw [hr']; exact List.mem_cons_of_mem _ h) (fun k h hk => ?_) hcn)
          · rw [hM', g.after (by rw [j.split, hr']), matAt_succ _ _ _ hr]
          · rcases List.mem_append.1 hx with hx | hx
            · exact .inl hx
            · simp at hx; exact .inr hx
          · rw [hr'] at h
            cases h with
            | head => exact absurd rfl hk
            | tail _ h => exact h
    · have hir : i ∉ rest := fun h => hic (by rw [j.split]; exact List.mem_append_right _ h)
      have hstay := g.stay hr hic
      simp only [List.contains_iff_mem, hic, if_false] at hdyn
      have hp := List.all_eq_true.1 hdyn _ hW
      simp only [Bool.or_eq_true] at hp
      have hrun : ∃ r, sp G pr n ops.toList[i] (ev ops rs env0 i) (matAt M0 rs (rest.headD ops.size)) = some r ∧ r.1 = rs[i].1 ∧ r.2.1 = matAt M0 rs (rest.headD ops.size) := by
        rcases hp with (hp | hp) | hp
        · have hsame : matAt M0 rs (rest.headD ops.size) = matAt M0 rs i := by
            rw [List.all_eq_true] at hp
            rcases Nat.le_total i (rest.headD ops.size) with hle | hle
            · refine g.same' hle hpl fun c hc hh => ?_
              have := hp c hc
              simp only [Bool.and_eq_true, Bool.not_eq_true', Bool.and_eq_false_iff, decide_eq_false_iff_not] at this
              omega
            · refine (g.same' hle (Nat.le_of_lt hr) fun c hc hh => ?_).symm
              have := hp c hc
              simp only [Bool.and_eq_true, Bool.not_eq_true', Bool.and_eq_false_iff, decide_eq_false_iff_not] at this
              omega
          exact ⟨rs[i], by rw [hsame]; exact hst, rfl, by rw [hstay, hsame]⟩
        · obtain ⟨h1, _⟩ := pure_step (M' := matAt M0 rs (rest.headD ops.size)) hp hst
          exact ⟨_, h1, rfl, rfl⟩
        · rw [hw] at hp
          simp only at hp
          split at hp
          · rename_i v M' D h1
            simp only [Bool.and_eq_true] at hp
            have hd := hsd _ _ _ h1
            have := stays_eq hd (by simpa [stays] using And.intro hp.1.2 hp.2)
            simp only [Prod.mk.injEq] at this
            exact ⟨_, h1, AV.eqb_eq hp.1.1, this.1⟩
          · cases hp
      obtain ⟨r, h1, h2, h3⟩ := hrun
      refine hs _ (env, matAt M0 rs (rest.headD ops.size), []) r ((hcong _).trans h1) K a j.M j.inv j.envok _ _ fun K' u hM' e' hI' hu => ?_
      rw [h2] at hu
      exact hn _ K' done rest _ _ _ (j.next g e' hI' hi hr hS hready hu j.split (hM'.trans h3) (fun c h => .inl h) (fun k h => h) (fun k h _ => h) hir)
end
end Go.Adm
set_option linter.unusedVariables false
set_option linter.unusedSimpArgs false
namespace Go.Adm
open Go

section
variable {P : Program} {G : Prg} {pr : Prim} {n : Nat} {ops : Array Oper} {env0 : List AV} {M0 : List AObj} {rs : List Acted}

def Sof (listed : Array Bool) (i : Nat) : Prop := listed.getD i false = true

theorem J.congr {K0 K : Ctx} {S S' : Nat → Prop} {a : Act} {done rest : List Nat} {env : List AV} {β : Nat → Nat} {ζ : Nat → List AV} (j : J ops env0 M0 rs K0 S a K done rest env β ζ) (h : ∀ i, S i ↔ S' i) : J ops env0 M0 rs K0 S' a K done rest env β ζ := by
  have : S = S' := funext fun i => propext (h i)
  exact this ▸ j

theorem lists_set {listed : Array Bool} {i : Nat} (hi : i < listed.size) (x : Nat) : (Sof listed x ∨ x = i) ↔ Sof (listed.setIfInBounds i true) x := by
  unfold Sof
  simp only [Array.getD_eq_getD_getElem?, Array.getElem?_setIfInBounds]
  by_cases h : i = x
  · subst h; simp [hi]
  · have : x ≠ i := fun e => h e.symm
    simp [h, this]

/-- How many are not yet done. -/
def left (listed : Array Bool) : Nat := listed.toList.count false

theorem left_set {listed : Array Bool} {i : Nat} (hi : i < listed.size) (h : listed.getD i true = false) : left (listed.setIfInBounds i true) + 1 = left listed := by
  unfold left
  have hg : listed[i] = false := by simpa [Array.getD_eq_getD_getElem?, hi] using h
  rw [Array.toList_setIfInBounds]
  have : ∀ (l : List Bool) (i : Nat) (hi : i < l.length), l[i] = false → (l.set i true).count false + 1 = l.count false := by
    intro l
    induction l with
    | nil => intro i hi; exact absurd hi (Nat.not_lt_zero _)
    | cons x l ih =>
      intro i hi hx
      cases i with
      | zero =>
        have hx' : x = false := hx
        subst hx'
        simp
      | succ i =>
        have := ih i (by simpa using hi) (by simpa using hx)
        simp only [List.set_cons_succ, List.count_cons]
        omega
  exact this _ i (by simpa using hi) (by simpa using hg)

theorem wpAny_ok (hG : PrgOK G P) (hs : SStep P G pr n) (hsd : ∀ o st r, step G pr n o st = some r → ActDirty st.2.1 r) (g : Good G pr n ops env0 M0 rs) {K0 : Ctx} (hI0 : Inv K0) (Q : Exit → Act → World → Prop)
    (hQ : ∀ a' K' env' β ζ done, J ops env0 M0 rs K0 (fun i => i < ops.toList.length) a' K' done [] env' β ζ → Q .normal a' K'.w) :
    ∀ (fuel : Nat) (listed : Array Bool) (a : Act) (K : Ctx) (done rest : List Nat) (env : List AV) (β : Nat → Nat) (ζ : Nat → List AV), listed.size = ops.toList.length → left listed = fuel →
      J ops env0 M0 rs K0 (Sof listed) a K done rest env β ζ → wpAny P .any ops Q fuel listed a K.w := by
  have hfin : ∀ (listed : Array Bool) (a : Act) (K : Ctx) (done rest : List Nat) (env : List AV) (β : Nat → Nat) (ζ : Nat → List AV), listed.size = ops.toList.length →
      J ops env0 M0 rs K0 (Sof listed) a K done rest env β ζ → Region.ready .any ops listed = [] → Q .normal a K.w := by
    intro listed a K done rest env β ζ hsz j hr
    have hall : ∀ i, i < ops.toList.length → Sof listed i := by
      intro i
      induction i using Nat.strongRecOn with
      | _ i ih =>
        intro hi
        cases hl : listed.getD i false with
        | true => exact hl
        | false =>
          have hl' : listed.getD i true = false := by
            have : i < listed.size := by omega
            simpa [Array.getD_eq_getD_getElem?, this] using hl
          have : i ∈ Region.ready .any ops listed := mem_ready.2 ⟨hl', ops.toList[i], by rw [← Array.getElem?_toList, List.getElem?_eq_getElem hi], fun e he hb => ih e.on (g.lt i hi e he hb) (Nat.lt_trans (g.lt i hi e he hb) hi)⟩
          rw [hr] at this
          cases this
    obtain ⟨K', d', r', env', hw, j', hm⟩ := J.max g hI0 _ _ _ _ j
    have hr0 : r' = [] := by
      cases hr' : r' with
      | nil => rfl
      | cons c r =>
        have hc : c < rs.length := (g.mem.1 (show c ∈ chainsL 0 M0 rs by rw [j'.split, hr']; simp)).1
        exact absurd (hall c (by rw [← g.len]; exact hc)) (hm c (by rw [hr']; rfl))
    subst hr0
    rw [← hw]
    exact hQ a K' env' β ζ d' (j'.congr fun i => ⟨fun h => by
      unfold Sof at h
      by_cases hi : i < listed.size
      · omega
      · simp [Array.getD_eq_getD_getElem?, Array.getElem?_eq_none (Nat.le_of_not_lt hi)] at h, hall i⟩)
  intro fuel
  induction fuel with
  | zero =>
    intro listed a K done rest env β ζ hsz hl j
    have hr : Region.ready .any ops listed = [] := by
      apply List.eq_nil_iff_forall_not_mem.2
      intro i hi
      obtain ⟨h1, o, h2, _⟩ := mem_ready.1 hi
      have hi' : i < listed.size := by
        rcases Nat.lt_or_ge i listed.size with h | h
        · exact h
        · simp [Array.getD_eq_getD_getElem?, Array.getElem?_eq_none h] at h1
      have := left_set hi' h1
      omega
    exact ⟨hr, hfin listed a K done rest env β ζ hsz j hr⟩
  | succ fuel ih =>
    intro listed a K done rest env β ζ hsz hl j
    refine ⟨fun hr => hfin listed a K done rest env β ζ hsz j hr, fun i hi => ?_⟩
    obtain ⟨h1, o, h2, h3⟩ := mem_ready.1 hi
    have hi' : i < listed.size := by
      rcases Nat.lt_or_ge i listed.size with h | h
      · exact h
      · simp [Array.getD_eq_getD_getElem?, Array.getElem?_eq_none h] at h1
    have hil : i < ops.toList.length := by omega
    have ho : o = ops.toList[i] := by
      rw [← Array.getElem?_toList, List.getElem?_eq_getElem hil] at h2
      exact (Option.some.inj h2).symm
    subst ho
    obtain ⟨K', d', r', env', hw, j', hm⟩ := J.max g hI0 _ _ _ _ j
    rw [← hw]
    refine j'.step hG hs hsd g hI0 hm hil (fun h => by
      unfold Sof at h
      simp [Array.getD_eq_getD_getElem?, hi'] at h h1
      rw [h] at h1; cases h1) (fun e he hb => h3 e he hb) _ _ fun a2 K2 d2 r2 env2 β2 ζ2 j2 => ?_
    exact ih (listed.setIfInBounds i true) a2 K2 d2 r2 env2 β2 ζ2 (by simpa using hsz) (by have := left_set hi' h1; omega) (j2.congr fun x => lists_set hi' x)

theorem sdrawn (hm : P.follows .mixedOrders = true) (hG : PrgOK G P) (hs : SStep P G pr n) (hsd : ∀ o st r, step G pr n o st = some r → ActDirty st.2.1 r) : SDrawn P G pr n := by
  intro ops st st' h K a Q hM hI hE hd hQ id
  unfold drawn at h
  split at h
  · cases h
  · rename_i rs hrs
    split at h
    · rename_i hchk
      simp only [Option.some.injEq] at h
      subst h
      obtain ⟨hlen, hrun⟩ := traceL_ok _ _ _ _ hrs
      have g : Good G pr n ops st.1 st.2.1 rs := by
        refine ⟨hlen, hrun, fun i hi hr => by simpa using chkL_ok _ 0 _ _ hchk i hi hr, fun i hr => ?_⟩
        rcases hrun i (by omega) hr with ⟨_, h2⟩ | ⟨_, h2⟩
        · rw [h2]; exact .same _ _
        · exact hsd _ _ _ h2
      obtain ⟨e1, i1⟩ := drew_ok hI
      refine wp_region_any hm ?_
      have hw : ({ K.w with drawn := K.w.drawn + 1 } : World) = K.w.drew := rfl
      rw [hw]
      let K1 : Ctx := ⟨K.M, K.ι, K.F, K.w.drew, K.B⟩
      have hno : ∀ i, ¬ Sof (Array.replicate ops.size false) i := fun i h => by
        unfold Sof at h
        rw [Array.getD_eq_getD_getElem?] at h
        by_cases hi : i < (Array.replicate ops.size false).size
        · rw [Array.getElem?_eq_getElem hi] at h
          simp at h
        · rw [Array.getElem?_eq_none (Nat.le_of_not_lt hi)] at h
          simp at h
      refine wpAny_ok (K0 := K1) hG hs hsd g i1 Q ?_ ops.size _ a K1 [] (chainsL 0 st.2.1 rs) st.1 (fun _ => 0) (fun _ => []) (by simp) (by simp [left, Array.toList_replicate]) ?_
      · intro a' K' env' β ζ done j
        refine hQ a' K'.w ⟨trivial, K', rfl, ?_, e1.trans j.ext, j.inv, ?_, j.defers⟩
        · rw [j.M]
          simp [hlen]
        · have henv : env' = putAll ops.toList rs st.1 := by
            apply List.ext_getElem?
            intro d
            by_cases hdl : d < st.1.length
            · have h1 : env'[d]? = some (env'.getD d .un) := by
                rw [List.getD_eq_getElem?_getD, List.getElem?_eq_getElem (by rw [j.elen]; exact hdl)]; rfl
              have h2 : (putAll ops.toList rs st.1)[d]? = some ((putAll ops.toList rs st.1).getD d .un) := by
                rw [List.getD_eq_getElem?_getD, List.getElem?_eq_getElem (by rw [putAll_length]; exact hdl)]; rfl
              rw [h1, h2]
              congr 1
              rcases j.vals d hdl with ⟨h1, h2⟩ | ⟨k, hk, hk', hSk, hkd, _, hx⟩ | ⟨k, hk, hkr, hSk, hkd⟩
              · rw [h2, putAll_none]
                intro o ho hod
                obtain ⟨k, hk, rfl⟩ := List.mem_iff_getElem.1 ho
                exact h1 k hk hk hod
              · rw [hx, putAll_some _ _ _ d k hk hk' hkd (fun k' hk2 hlt h2 => by
                  have := g.dst' hk2 hk h2 hkd
                  omega) hdl]
              · cases hkr
            · rw [List.getElem?_eq_none (by rw [j.elen]; omega), List.getElem?_eq_none (by rw [putAll_length]; omega)]
          show EnvOK K' (putAll ops.toList rs st.1) a'
          rw [← henv]
          exact j.envok
      · refine ⟨rfl, ?_, Ext.refl _, i1, (fun c hc => by cases hc), fun c _ h => absurd h (hno c), fun c c' _ _ h => absurd h (hno c), hE.mono e1.toExt0, rfl, fun d hd => .inl ⟨fun i _ h => absurd h (hno i), rfl⟩, hd, fun i _ h => absurd h (hno i)⟩
        show K.M = _
        rw [hM]
        have := g.same' (p := 0) (q := (chainsL 0 st.2.1 rs).headD ops.size) (Nat.zero_le _) (by
          cases hc : chainsL 0 st.2.1 rs with
          | nil => simp [hlen]
          | cons c r =>
            have : c < rs.length := (g.mem.1 (show c ∈ chainsL 0 st.2.1 rs by rw [hc]; simp)).1
            simp; omega) (fun c hc hh => by
          have := head_le (N := ops.size) (chainsL_sorted rs 0 st.2.1) hc
          omega)
        rw [this]
        rfl
    · cases h

theorem sound (hm : P.follows .mixedOrders = true) (hG : PrgOK G P) (hp : PrimsOK P pr) (hpd : PrimsDirty pr) : ∀ n, SExec P G pr n ∧ SOps P G pr n ∧ SStep P G pr n ∧ SCall P G pr n ∧ SBody P G pr n
  | 0 => ⟨fun c st r h => by simp [exec] at h, fun all l st st' h => by simp [execOps] at h, fun o st r h => by simp [step] at h, fun f args M r h => by simp [callF] at h, fun f args M r h => by simp [body] at h⟩
  | n + 1 => by
    obtain ⟨h1, h2, h3, h4, h5⟩ := sound hm hG hp hpd n
    exact ⟨sexec h1 h2 (sdrawn hm hG h3 (all_dirty G pr hpd n).2.2.1), sops h2 h3, sstep hG h4, scall h5, sbody hG hp hpd h1⟩

/-- A call that the machine by value carries out is carried out. -/
theorem callF_sound (hm : P.follows .mixedOrders = true) (hG : PrgOK G P) (hp : PrimsOK P pr) (hpd : PrimsDirty pr) {n f : Nat} {args : List AV} {M : List AObj} {r : Acted} (h : callF G pr n f args M = some r) {K : Ctx} {vs : List Value}
    (hM : K.M = M) (hI : Inv K) (hR : RepL K args vs) : Calls P f vs.toArray K.w (CallPost K r) :=
  ((sound hm hG hp hpd n).2.2.2.1 f args M r h).2 K vs hM hI hR
end
end Go.Adm
set_option linter.unusedVariables false
set_option linter.unusedSimpArgs false
namespace Go.Adm
open Go

/-! ### The table of types, read off the program -/
def hasT (P : Program) (t : TypeId) : Bool := decide (t < P.types.size) && ((P.info? t).isSome && (P.underlying t).isSome)

def keyD : Option TypeDesc → TyD
  | some (.int k) => .int k
  | some .string => .str
  | some .bool => .bool
  | _ => .bad

def cmpFs (P : Program) : Nat → List Field → Option (List TyD)
  | _, [] => some []
  | j, f :: fs => if f.name = "_" then none else if f.offset = j then match keyD (P.underlying f.type) with
    | .bad => none
    | d => match cmpFs P (j + 1) fs with | some l => some (d :: l) | none => none
    else none

def cmpOf (P : Program) (cmpOn : TypeId → Bool) (t : TypeId) (fs : List Field) : Option (List TyD) :=
  if cmpOn t then if P.stoodInHeld t || P.eqGuardType P.depth t then none else cmpFs P 0 fs else none

def descOf (P : Program) (cmpOn : TypeId → Bool) (t : TypeId) : TypeDesc → TyD
  | .int k => .int k
  | .bool => .bool
  | .string => .str
  | .pointer e => .ptr e
  | .unsafePointer => .uptr
  | .slice e => .slice e
  | .array n e => .arr n e
  | .map k e => match keyD (P.underlying k) with | .bad => .other | _ => .map k e
  | .struct fs => .struct (fs.toList.map fun f => (f.offset, f.type)) (cmpOf P cmpOn t fs.toList)
  | .func .. => .func
  | .interface _ => .iface
  | _ => .other

def zeroV : Value → AV
  | .agg cs => .agg (cs.toList.map ofVal)
  | v => ofVal v

def zeroOf (size : Nat) : Option Value → AV
  | some z => if (zeroV z).cells.length = size ∧ (zeroV z).cells.all AV.cell = true ∧ z.cells.size = size then zeroV z else .any
  | none => .any

def tyOf (P : Program) (cmpOn : TypeId → Bool) (t : TypeId) : TyI :=
  if t < P.types.size then match P.info? t, P.underlying t with
  | some i, some d => ⟨descOf P cmpOn t d, i.size, i.bytes, zeroOf i.size i.zero⟩
  | _, _ => ⟨.bad, 0, 0, .any⟩
  else ⟨.bad, 0, 0, .any⟩

def depsOf : Option TypeDesc → List TypeId
  | some (.slice e) => [e]
  | some (.pointer e) => [e]
  | some (.array _ e) => [e]
  | some (.map k e) => [k, e]
  | some (.struct fs) => fs.toList.map (·.type)
  | _ => []

theorem Rep.zeroV (K : Ctx) (z : Value) : Rep K (Adm.zeroV z) z := by
  unfold Adm.zeroV
  split
  · rename_i cs
    have : ∀ l : List Value, RepL K (l.map Adm.ofVal) l := fun l => by
      induction l with
      | nil => exact .nil
      | cons v l ih => exact .cons _ _ _ _ (Rep.ofVal v) ih
    have h := Rep.agg (K := K) _ _ (this cs.toList)
    simpa using h
  · exact Rep.ofVal z

section
variable {G : Prg} {P : Program} {cmpOn : TypeId → Bool}

theorem sizeOK_of (hG : ∀ t, G.ty t = tyOf P cmpOn t) {t : TypeId} (h : hasT P t = true) : sizeOK G P t := by
  simp only [hasT, Bool.and_eq_true, decide_eq_true_eq, Option.isSome_iff_exists] at h
  obtain ⟨h0, ⟨i, h1⟩, d, h2⟩ := h
  refine ⟨i, h1, ?_, ?_⟩ <;> simp [Prg.size, hG, tyOf, h0, h1, h2]

theorem zeroOK_of (hG : ∀ t, G.ty t = tyOf P cmpOn t) (t : TypeId) : zeroOK G P t := by
  unfold zeroOK
  by_cases h0 : t < P.types.size
  case neg => exact .inl (by simp [hG, tyOf, h0])
  cases h1 : P.info? t with
  | none => exact .inl (by simp [hG, tyOf, h0, h1])
  | some i =>
    cases h2 : P.underlying t with
    | none => exact .inl (by simp [hG, tyOf, h0, h1, h2])
    | some d =>
      have e : G.ty t = ⟨descOf P cmpOn t d, i.size, i.bytes, zeroOf i.size i.zero⟩ := by simp [hG, tyOf, h0, h1, h2]
      simp only [e, Prg.size]
      cases hz : i.zero with
      | none => exact .inl rfl
      | some z =>
        simp only [zeroOf]
        split
        · rename_i hc
          exact .inr ⟨i, z, rfl, hz, fun K => Rep.zeroV K z, hc.1, hc.2.1, hc.2.2⟩
        · exact .inl rfl

theorem keyD_ok {t : TypeId} (h : keyD (P.underlying t) ≠ .bad) : KindOK P t (keyD (P.underlying t)) := by
  unfold keyD at h ⊢
  split
  · rename_i k hk; exact ⟨k, hk⟩
  · rename_i hk; exact hk
  · rename_i hk; exact hk
  · rename_i h1 h2 h3
    split at h <;> first | exact absurd rfl h | (rename_i hk; first | exact absurd hk (h1 _) | exact absurd hk h2 | exact absurd hk h3)

theorem cmpFs_ok : ∀ (fs : List Field) (j : Nat) (ks : List TyD), cmpFs P j fs = some ks → CmpFields P j ks fs := by
  intro fs
  induction fs with
  | nil => intro j ks h; simp only [cmpFs, Option.some.injEq] at h; subst h; trivial
  | cons f fs ih =>
    intro j ks h
    unfold cmpFs at h
    split at h
    · cases h
    · rename_i hn
      split at h
      · rename_i ho
        split at h
        · cases h
        · rename_i hnb
          split at h
          · rename_i l hl
            simp only [Option.some.injEq] at h
            subst h
            exact ⟨hn, ho, keyD_ok hnb, ih _ _ hl⟩
          · cases h
      · cases h

theorem tyOK_of (hG : ∀ t, G.ty t = tyOf P cmpOn t) (hd : ∀ t, hasT P t = true → ∀ e ∈ depsOf (P.underlying t), hasT P e = true) (t : TypeId) : TyOK G P t := by
  unfold TyOK
  by_cases h0 : t < P.types.size
  case neg => exact .inl (by simp [hG, tyOf, h0])
  cases h1 : P.info? t with
  | none => exact .inl (by simp [hG, tyOf, h0, h1])
  | some i =>
    cases h2 : P.underlying t with
    | none => exact .inl (by simp [hG, tyOf, h0, h1, h2])
    | some d =>
      have e : G.ty t = ⟨descOf P cmpOn t d, i.size, i.bytes, zeroOf i.size i.zero⟩ := by simp [hG, tyOf, h0, h1, h2]
      have hh : hasT P t = true := by simp [hasT, h0, h1, h2]
      have hde := hd t hh
      rw [h2] at hde
      refine .inr ⟨sizeOK_of hG hh, zeroOK_of hG t, ?_⟩
      rw [e]
      cases d with
      | int k => exact rfl
      | bool => exact rfl
      | string => exact rfl
      | pointer x => exact ⟨rfl, sizeOK_of hG (hde x (by simp [depsOf]))⟩
      | unsafePointer => exact rfl
      | slice x => exact ⟨rfl, sizeOK_of hG (hde x (by simp [depsOf]))⟩
      | array n x => exact ⟨rfl, sizeOK_of hG (hde x (by simp [depsOf]))⟩
      | map k x =>
        simp only [descOf]
        cases hk : keyD (P.underlying k) with
        | bad => exact ⟨_, rfl, (fun fs h => by cases h), (fun n e h => by cases h)⟩
        | _ =>
          refine ⟨rfl, ?_, zeroOK_of hG x⟩
          have hhk := hde k (by simp [depsOf])
          have : (G.ty k).d = keyD (P.underlying k) := by
            simp only [hasT, Bool.and_eq_true, decide_eq_true_eq, Option.isSome_iff_exists] at hhk
            obtain ⟨q0, ⟨ik, q1⟩, dk, q2⟩ := hhk
            simp only [hG, tyOf, q0, if_true, q1, q2]
            rw [q2] at hk
            cases dk <;> simp_all [keyD, descOf]
          rw [this]
          exact keyD_ok (by rw [hk]; simp)
      | struct fs =>
        refine ⟨fs, rfl, rfl, fun f hf => sizeOK_of hG (hde f.type (by simp only [depsOf]; exact List.mem_map_of_mem hf)), fun ks hk => ?_⟩
        unfold cmpOf at hk
        split at hk
        · split at hk
          · cases hk
          · rename_i hc
            simp only [Bool.or_eq_true, not_or, Bool.not_eq_true] at hc
            exact ⟨hc.1, hc.2, cmpFs_ok _ _ _ hk⟩
        · cases hk
      | func a b c => exact ⟨a, b, c, rfl⟩
      | interface ms => exact ⟨ms, rfl⟩
      | _ => exact ⟨_, rfl, (fun fs h => by cases h), (fun n e h => by cases h)⟩
end
end Go.Adm
set_option linter.unusedVariables false
set_option linter.unusedSimpArgs false
namespace Go.Adm
open Go

section
variable {P : Program} {G : Prg} {pr : Prim}

/-- One more summary. -/
def addPrim (pr : Prim) (f : FuncId) (p : List AV → List AObj → Option Acted) : Prim := fun g => if g = f then some p else pr g

/-- A summary of what a body does may stand in the body's place. -/
theorem addPrim_ok (hm : P.follows .mixedOrders = true) (hG : PrgOK G P) (hp : PrimsOK P pr) (hpd : PrimsDirty pr) {f : FuncId} {p : List AV → List AObj → Option Acted}
    (hf : ∃ F : Func, P.funcs[f]? = some F ∧ F.body.isSome = true ∧ (F.name == "runtime.NumGoroutine") = false)
    (h : ∀ args M r, p args M = some r → ∃ n, body G pr n f args M = some r) : PrimsOK P (addPrim pr f p) ∧ PrimsDirty (addPrim pr f p) := by
  constructor
  · intro g q hq
    unfold addPrim at hq
    split at hq
    · rename_i e
      subst e
      simp only [Option.some.injEq] at hq
      subst hq
      exact ⟨hf, fun K xs vs r hI hR hr => by
        obtain ⟨n, hn⟩ := h xs K.M r hr
        exact ((sound hm hG hp hpd n).2.2.2.2 g xs K.M r hn).2 K vs rfl hI hR⟩
    · exact hp g q hq
  · intro g q hq
    unfold addPrim at hq
    split at hq
    · rename_i e
      subst e
      simp only [Option.some.injEq] at hq
      subst hq
      intro args M r hr
      obtain ⟨n, hn⟩ := h args M r hr
      exact (all_dirty G pr hpd n).2.2.2.2 g args M r hn
    · exact hpd g q hq

/-- With no summaries. -/
theorem noPrim_ok : PrimsOK P (fun _ => none) ∧ PrimsDirty (fun _ => none) := ⟨(fun _ _ h => by cases h), (fun _ _ h => by cases h)⟩
end
end Go.Adm
