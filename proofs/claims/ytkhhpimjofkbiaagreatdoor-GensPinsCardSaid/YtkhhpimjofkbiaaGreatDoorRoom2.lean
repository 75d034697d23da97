/- Part Room2 of the proof of GensPins. -/
import Derived.Laws.BytesString
import Derived.Laws.Strings2
import Derived.Laws.BytesArg
import Derived.MapKept
import Derived.Laws.CopyRow
import Derived.Test.YtkhhpimjofkbiaaGreatDoorRoom1
set_option linter.unusedVariables false
set_option linter.unusedSimpArgs false
set_option linter.unusedVariables false
set_option linter.unusedSimpArgs false
namespace Go.Adm
open Go

section
variable {P : Program} {K : Ctx}

theorem boolBin {G : Prg} (hG : PrgOK G P) {t : TypeId} {lit : Bool} {op : BinOp} {x y r : AV} {v u : Value}
    (hi : ∀ k a k' c, ¬ (x = .i k a ∧ y = .i k' c)) (hs : ∀ a c, ¬ (x = .s a ∧ y = .s c))
    (h : (match op with
    | .eql => (equal (G.ty t).d lit x y).map AV.b
    | .neq => (equal (G.ty t).d lit x y).map fun r => AV.b (!r)
    | _ => none) = some r) (hx : Rep K x v) (hy : Rep K y u) (w : World) : ∃ q, (Go.binOp op t v u).run P w = .ok q w ∧ Rep K r q := by
  have key : ∀ b, equal (G.ty t).d lit x y = some b → (Go.binOp .eql t v u).run P w = .ok (.bool b) w ∧ (Go.binOp .neq t v u).run P w = .ok (.bool (!b)) w := fun b hb => by
    have he := equal_ok hG hb hx hy w
    unfold equal at hb
    split at hb <;> first
      | (cases hb; done)
      | (cases hx; cases hy
         refine ⟨?_, ?_⟩ <;> (simp only [Go.binOp, Sem.run_bind, he, Result.andThen_ok, Sem.run_pure]))
  split at h
  · obtain ⟨b, hb, rfl⟩ := Option.map_eq_some_iff.1 h
    exact ⟨_, (key b hb).1, .b _⟩
  · obtain ⟨b, hb, rfl⟩ := Option.map_eq_some_iff.1 h
    exact ⟨_, (key b hb).2, .b _⟩
  · cases h

theorem eqGuard_other {op : BinOp} (h1 : op ≠ .eql) (h2 : op ≠ .neq) (t : TypeId) (xo yo : Operand) (v u : Value) (w : World) : (eqGuard op t xo yo v u).run P w = .ok () w := by
  cases op <;> first
    | exact absurd rfl h1
    | exact absurd rfl h2
    | simp [eqGuard]

theorem eqGuard_plain {op : BinOp} (t : TypeId) (xo yo : Operand) (v u : Value) (w : World) (h1 : v = .nilIface → u = .nilIface → litOf xo yo = true)
    (h2 : ∀ a b, v = .agg a → u = .agg b → P.eqGuardType P.depth t = false) : (eqGuard op t xo yo v u).run P w = .ok () w := by
  by_cases e1 : op = .eql ∨ op = .neq
  · have : (eqGuard op t xo yo v u).run P w = (match v, u with
      | .nilIface, .nilIface => (if litOf xo yo then (pure () : Sem Unit) else do
        if ← Op.eqGuardIn Op.maxDepth t v u then unsupported (.noEntry "binop/eql: two nil values of an interface type with methods, neither of them the literal nil"))
      | .agg _, .agg _ => do
        if !(← program).eqGuardType (← program).depth t then return
        if ← Op.eqGuardIn Op.maxDepth t v u then unsupported (.noEntry "binop/eql: two nil values of an interface type with methods, in a part of a struct or an array")
      | _, _ => (pure () : Sem Unit)).run P w := by
      rcases e1 with rfl | rfl <;> (unfold eqGuard; cases v <;> cases u <;> first | rfl | (cases xo <;> cases yo <;> rfl))
    rw [this]
    split
    · simp [h1 rfl rfl]
    · simp [h2 _ _ rfl rfl]
    · rfl
  · exact eqGuard_other (fun h => e1 (.inl h)) (fun h => e1 (.inr h)) t xo yo v u w

theorem binop_equal {d : TyD} {lit : Bool} {op : BinOp} {x y r : AV} (h : binop d lit op x y = some r) (hop : op = .eql ∨ op = .neq) (hx : (∀ k n, x ≠ .i k n) ∧ ∀ s, x ≠ .s s) : ∃ b, equal d lit x y = some b := by
  unfold binop at h
  split at h
  · exact absurd rfl (hx.1 _ _)
  · exact absurd rfl (hx.2 _)
  · rcases hop with rfl | rfl <;> (obtain ⟨b, hb, _⟩ := Option.map_eq_some_iff.1 h; exact ⟨b, hb⟩)

theorem binOp_ok {G : Prg} (hG : PrgOK G P) {t : TypeId} {op : BinOp} {xo yo : Operand} {x y r : AV} {v u : Value}
    (h : binop (G.ty t).d (litOf xo yo) op x y = some r) (hx : Rep K x v) (hy : Rep K y u) (w : World) :
    ∃ q, ((do eqGuard op t xo yo v u; Go.binOp op t v u) : Sem Value).run P w = .ok q w ∧ Rep K r q := by
  have hg : (eqGuard op t xo yo v u).run P w = .ok () w := by
    by_cases e1 : op = .eql ∨ op = .neq
    · refine eqGuard_plain t xo yo v u w (fun e2 e3 => ?_) (fun a b e2 e3 => ?_)
      · subst e2; subst e3
        have hx' : x = .nili ∨ x = .any := by cases hx <;> simp
        have hy' : y = .nili ∨ y = .any := by cases hy <;> simp
        obtain ⟨b, hb⟩ := binop_equal h e1 (by rcases hx' with rfl | rfl <;> simp)
        unfold equal at hb
        split at hb <;> first
          | (cases hb; done)
          | (simp_all; done)
          | skip
      · subst e2; subst e3
        have hx' : (∃ l, x = .agg l) ∨ x = .any := by cases hx <;> simp
        obtain ⟨b', hb⟩ := binop_equal h e1 (by rcases hx' with ⟨l, rfl⟩ | rfl <;> simp)
        unfold equal at hb
        split at hb <;> first
          | (cases hb; done)
          | (simp_all; done)
          | skip
        rename_i hd
        have ht := hG.ty t
        unfold TyOK at ht
        simp only [hd, reduceCtorEq, false_and, false_or] at ht
        obtain ⟨_, _, fields, hu, hfs, _, hc⟩ := ht
        exact (hc _ rfl).2.1
    · exact eqGuard_other (fun h => e1 (.inl h)) (fun h => e1 (.inr h)) t xo yo v u w
  simp only [Sem.run_bind, hg, Result.andThen_ok]
  unfold binop at h
  split at h
  · cases hx; cases hy
    exact shift_ok t h w
  · cases hx; cases hy
    exact strBin_ok t h w
  · rename_i h1 h2
    exact boolBin hG (fun k a k' c ⟨e1, e2⟩ => h1 _ _ _ _ e1 e2) (fun a c ⟨e1, e2⟩ => h2 _ _ e1 e2) h hx hy w
end
end Go.Adm
set_option linter.unusedVariables false
set_option linter.unusedSimpArgs false
namespace Go.Adm
open Go

section
variable {P : Program} {K : Ctx}

theorem unop_ok {op : UnOp} {x r : AV} {v : Value} (h : unop op x = some r) (hx : Rep K x v) (w : World) : ∃ q, (Op.unary op v).run P w = .ok q w ∧ Rep K r q := by
  unfold unop at h
  split at h
  · cases hx
    simp only [Option.some.injEq] at h
    subst h
    exact ⟨_, by simp [Op.unary, Op.intArith], .i _ _⟩
  · cases hx
    simp only [Option.some.injEq] at h
    subst h
    exact ⟨_, by simp [Op.unary], .b _⟩
  · cases h

theorem extract_ok {x r : AV} {v : Value} {ix : Nat} (h : (match x with | .tup vs => vs[ix]? | _ => none) = some r) (hx : Rep K x v) (w : World) :
    ∃ q, (Instr.extract v ix).run P w = .ok q w ∧ Rep K r q := by
  cases hx <;> simp only [reduceCtorEq] at h
  rename_i cs vs hr
  obtain ⟨hl, rfl⟩ := List.getElem?_eq_some_iff.1 h
  have hl' : ix < vs.length := by rw [← hr.length]; exact hl
  exact ⟨vs[ix], by simp [Instr.extract, hl'], hr.get ix hl hl'⟩

theorem pick_ok {c x y r : AV} {cv xv yv : Value} (h : (match c with | .b true => some x | .b false => some y | _ => none) = some r) (hc : Rep K c cv) (hx : Rep K x xv) (hy : Rep K y yv) (w : World) :
    ∃ q, ((do pure (Next.value (if ← asBool cv then xv else yv))) : Sem Next).run P w = .ok (.value q) w ∧ Rep K r q := by
  split at h
  · cases hc
    simp only [Option.some.injEq] at h; subst h
    exact ⟨xv, by simp [asBool], hx⟩
  · cases hc
    simp only [Option.some.injEq] at h; subst h
    exact ⟨yv, by simp [asBool], hy⟩
  · cases h

theorem nilCheck_ok {x r : AV} {v : Value} (h : (match x with | .ptr o off => some (AV.ptr o off) | .bp o v off => some (.bp o v off) | .ep cs => some (.ep cs) | .fn f c => some (.fn f c) | .gp g => some (.gp g) | _ => none) = some r)
    (hx : Rep K x v) : r = x ∧ v ≠ .pointer none ∧ v ≠ .nilIface ∧ v ≠ .nilFunc ∧ ∀ n f c, v ≠ .func (.method n) f c := by
  cases hx <;> simp_all

theorem toBytes_ok {cs : List AV} {s : List UInt8} (h : toBytes cs = some s) : ∃ ns : List Int, cs = ns.map (fun n => AV.i .u8 n) ∧ s = ns.map fun n => UInt8.ofNat n.toNat := by
  induction cs generalizing s with
  | nil => simp only [toBytes, Option.some.injEq] at h; subst h; exact ⟨[], rfl, rfl⟩
  | cons x r ih =>
    unfold toBytes at h
    split at h
    · rename_i heq; cases heq
    · rename_i n r' heq
      cases heq
      cases hr : toBytes r with
      | none => simp [hr] at h
      | some l =>
        simp only [hr, Option.some.injEq] at h
        obtain ⟨ns, h1, h2⟩ := ih hr
        exact ⟨n :: ns, by simp [h1], by simp [← h, h2]⟩
    · cases h

theorem RepL.nums {k : IntKind} {ns : List Int} {vs : List Value} (h : RepL K (ns.map fun n => AV.i k n) vs) : vs = ns.map fun n => Value.int k n := by
  induction ns generalizing vs with
  | nil => cases h; rfl
  | cons n ns ih => cases h with | cons _ _ _ _ h t => cases h; simp [ih t]

/-- A slice's cells, as they lie in memory. -/
theorem sliceCells_ok (hI : Inv K) {x : AV} {v : Value} (hx : Rep K x v) {sz n : Nat} {cs : List AV} (h : sliceCells K.M sz x = some (cs, n)) :
    ∃ a c, v = .slice a n c ∧ ∃ vs, RepL K cs vs ∧ (cs ≠ [] → ∃ b off, a = some (ad b off) ∧ ∀ j (hj : j < vs.length), K.w.cell? (ad b (off + j)) = some vs[j]) := by
  cases hx with
  | bsl o ez ver off len a c ho hv ha hc hn =>
    simp only [sliceCells] at h
    have ho' : o < K.M.length := by rw [← hI.len]; exact ho
    have hob := hI.obj o ho'
    rw [List.getElem?_eq_getElem ho'] at h
    split at h
    · rename_i e ocs v fz he
      simp only [Option.some.injEq] at he
      rw [he] at hob
      split at h
      · rename_i hle
        obtain ⟨hv1, hse, hle⟩ := hle
        simp only [Option.some.injEq, Prod.mk.injEq] at h
        obtain ⟨rfl, rfl⟩ := h
        obtain ⟨c', t, fr, h1, h2, h3, h4, h5⟩ := hob
        have hL : K.L o = v := by simp [Ctx.L, List.getElem?_eq_getElem ho', he, verO]
        refine ⟨a, c, rfl, ((c'.toList.take ocs.length).drop off).take (len * sz), (h3.drop off).take _, fun hne => ?_⟩
        have hp : 0 < len := by
          rcases Nat.eq_zero_or_pos len with h0 | h0
          · subst h0; simp at hne
          · exact h0
        refine ⟨K.at o, off, (ha (by omega) (.inl hp)).1, fun j hj => ?_⟩
        simp only [List.length_take, List.length_drop, Array.length_toList] at hj
        simp only [World.cell?, h1, Option.isSome_none, Bool.false_eq_true, if_false, List.getElem_take, List.getElem_drop, Array.getElem_toList]
        exact Array.getElem?_eq_getElem (by omega)
      · cases h
    · cases h
  | asl o off len a c ho hE ha hc hn =>
    simp only [sliceCells] at h
    have ho' : o < K.M.length := by rw [← hI.len]; exact ho
    have hob := hI.obj o ho'
    rw [List.getElem?_eq_getElem ho'] at h
    split at h
    · rename_i ocs he
      simp only [Option.some.injEq] at he
      rw [he] at hob
      split at h
      · rename_i hle
        simp only [Option.some.injEq, Prod.mk.injEq] at h
        obtain ⟨rfl, rfl⟩ := h
        obtain ⟨c', t, fr, h1, h2, h3, h4, h5⟩ := hob
        have hl := h2.length
        simp only [Array.length_toList] at hl
        refine ⟨a, c, rfl, (c'.toList.drop off).take (len * sz), (h2.drop off).take _, fun hne => ?_⟩
        have hp : 0 < len := by
          rcases Nat.eq_zero_or_pos len with h0 | h0
          · subst h0; simp at hne
          · exact h0
        refine ⟨K.at o, off, ha hp, fun j hj => ?_⟩
        simp only [List.length_take, List.length_drop, Array.length_toList] at hj
        simp only [World.cell?, h1, Option.isSome_none, Bool.false_eq_true, if_false, List.getElem_take, List.getElem_drop, Array.getElem_toList]
        exact Array.getElem?_eq_getElem (by omega)
      · cases h
    · cases h
  | sl ocs len k a c b off vs hr ha hf hcell hk hc =>
    simp only [sliceCells] at h
    simp only [Option.some.injEq, Prod.mk.injEq] at h
    obtain ⟨rfl, rfl⟩ := h
    exact ⟨a, c, rfl, vs, hr, fun hne => ⟨b, off, ha hne, hcell⟩⟩
  | _ => simp [sliceCells] at h

end
end Go.Adm
set_option linter.unusedVariables false
set_option linter.unusedSimpArgs false
namespace Go.Adm
open Go

section
variable {P : Program} {K : Ctx}

inductive OptRep (K : Ctx) : Option AV → Option Value → Prop
  | none : OptRep K none none
  | some (x : AV) (v : Value) (h : Rep K x v) : OptRep K (some x) (some v)

theorem run_sliceBound_ok {k : IntKind} {i y : Nat} (code : BoundsCode) (h : i ≤ y) (w : World) : (Instr.sliceBound (.int k (i : Int)) y code).run P w = .ok i w := by
  have : 0 ≤ (i : Int) ∧ (i : Int) ≤ (y : Int) := by omega
  simp [Instr.sliceBound, asIntOf, h]

theorem run_sliceBounds_ok {b : Bool} {len cap l h m : Nat} {lo hi mx : Option AV} {lv hv mv : Option Value} (hlo : OptRep K lo lv) (hhi : OptRep K hi hv) (hmx : OptRep K mx mv)
    (h1 : optNat 0 lo = some l) (h2 : optNat len hi = some h) (h3 : optNat cap mx = some m) (hl : l ≤ h) (hh : h ≤ m) (hm : m ≤ cap) (hn : mx.isSome = true → hi.isSome = true) (w : World) :
    (Instr.sliceBounds b len cap lv hv mv).run P w = .ok (l, h, m) w := by
  cases hmx with
  | none =>
    simp only [optNat, Option.some.injEq] at h3
    subst h3
    cases hhi with
    | none =>
      simp only [optNat, Option.some.injEq] at h2
      subst h2
      cases hlo with
      | none =>
        simp only [optNat, Option.some.injEq] at h1
        subst h1
        simp [Instr.sliceBounds]
      | some x v hx =>
        simp only [optNat] at h1
        obtain ⟨k, rfl⟩ := natOf_ok hx h1
        simp [Instr.sliceBounds, run_sliceBound_ok _ hl]
    | some y u hy =>
      simp only [optNat] at h2
      obtain ⟨k', rfl⟩ := natOf_ok hy h2
      cases hlo with
      | none =>
        simp only [optNat, Option.some.injEq] at h1
        subst h1
        simp [Instr.sliceBounds, run_sliceBound_ok _ hh]
      | some x v hx =>
        simp only [optNat] at h1
        obtain ⟨k, rfl⟩ := natOf_ok hx h1
        simp [Instr.sliceBounds, run_sliceBound_ok _ hl, run_sliceBound_ok _ hh]
  | some z zv hz =>
    simp only [optNat] at h3
    obtain ⟨k'', rfl⟩ := natOf_ok hz h3
    cases hhi with
    | none => simp at hn
    | some y u hy =>
      simp only [optNat] at h2
      obtain ⟨k', rfl⟩ := natOf_ok hy h2
      cases hlo with
      | none =>
        simp only [optNat, Option.some.injEq] at h1
        subst h1
        simp [Instr.sliceBounds, run_sliceBound_ok _ hh, run_sliceBound_ok _ hm]
      | some x v hx =>
        simp only [optNat] at h1
        obtain ⟨k, rfl⟩ := natOf_ok hx h1
        simp [Instr.sliceBounds, run_sliceBound_ok _ hl, run_sliceBound_ok _ hh, run_sliceBound_ok _ hm]

theorem str_ty {G : Prg} (hG : PrgOK G P) {t : TypeId} (hd : (G.ty t).d = .str) : P.underlying t = some .string := by
  have ht := hG.ty t
  unfold TyOK at ht
  simp only [hd, reduceCtorEq, false_and, false_or] at ht
  exact ht.2.2

theorem int_ty {G : Prg} (hG : PrgOK G P) {t : TypeId} {k : IntKind} (hd : (G.ty t).d = .int k) : P.underlying t = some (.int k) := by
  have ht := hG.ty t
  unfold TyOK at ht
  simp only [hd, reduceCtorEq, false_and, false_or] at ht
  exact ht.2.2


theorem run_slice_slice {t e : TypeId} {sz : Nat} (hu : P.underlying t = some (.slice e)) {w : World} (hs : (sizeOf e).run P w = .ok sz w) {lo hi mx : Option AV} {lv hv mv : Option Value}
    (hlo : OptRep K lo lv) (hhi : OptRep K hi hv) (hmx : OptRep K mx mv) {l h m len c : Nat} (h1 : optNat 0 lo = some l) (h2 : optNat len hi = some h) (h3 : optNat len mx = some m)
    (hl : l ≤ h) (hh : h ≤ m) (hm : m ≤ len) (hn : mx.isSome = true → hi.isSome = true) (hc : len ≤ c) (a : Option Addr) :
    ∃ m', h ≤ m' ∧ m' ≤ c ∧ (Instr.sliceAt t (.slice a len c) lv hv mv).run P w = .ok (.slice (if m' = l then a else a.map (·.add (l * sz))) (h - l) (m' - l)) w := by
  have h4 : ∃ m', optNat c mx = some m' ∧ h ≤ m' ∧ m' ≤ c := by
    cases mx with
    | none => exact ⟨c, rfl, by omega, by omega⟩
    | some z => exact ⟨m, h3, hh, by omega⟩
  obtain ⟨m', h4, h5, h6⟩ := h4
  refine ⟨m', h5, h6, ?_⟩
  simp only [Instr.sliceAt, Sem.run_bind, run_underlying_ok hu, Result.andThen_ok, Instr.slice, run_sliceBounds_ok hlo hhi hmx h1 h2 h4 hl h5 h6 hn, hs, Sem.run_pure]

theorem slice_ok {G : Prg} (hG : PrgOK G P) {t : TypeId} {x r : AV} {v : Value} {lo hi mx : Option AV} {lv hv mv : Option Value} (h : sliceOp G t x lo hi mx = some r)
    (hx : Rep K x v) (hlo : OptRep K lo lv) (hhi : OptRep K hi hv) (hmx : OptRep K mx mv) : ∃ q, (Instr.sliceAt t v lv hv mv).run P K.w = .ok q K.w ∧ Rep K r q := by
  unfold sliceOp at h
  split at h
  · rename_i c hd
    have hu := str_ty hG hd
    cases hx
    split at h
    · rename_i l hh h1 h2
      split at h
      · rename_i hle
        simp only [Option.some.injEq] at h
        subst h
        cases hmx
        have hb := run_sliceBounds_ok (P := P) (b := false) (len := c.length) (cap := c.length) hlo hhi (.none : OptRep K none none) h1 h2 rfl hle.1 hle.2 (Nat.le_refl _) (by simp) K.w
        refine ⟨_, ?_, .s _⟩
        have hsz : (ByteArray.mk c.toArray).size = c.length := by simp [ByteArray.size]
        simp only [Instr.sliceAt, Sem.run_bind, run_underlying_ok hu, Result.andThen_ok, Instr.slice, Option.isSome_none, Bool.false_eq_true, if_false, Sem.run_pure, hsz, hb, ByteArray.extract_mk]
        congr 4
        rw [List.drop_take]
      · cases h
    · cases h
  · rename_i e cs len k hd
    obtain ⟨hu, hs⟩ := slice_ty hG hd
    cases hx with | sl _ _ _ a c b off vs hr ha hf hcell hk hc =>
    split at h
    · rename_i l hh m h1 h2 h3
      split at h
      · rename_i hle
        obtain ⟨e1, e2, e3, e4⟩ := hle
        simp only [Option.some.injEq] at h
        subst h
        obtain ⟨m', g1, g2, hrun⟩ := run_slice_slice (P := P) hu (run_sizeOf_ok hs K.w) hlo hhi hmx h1 h2 h3 e1 e2 e3 e4 hc a
        refine ⟨_, hrun, ?_⟩
        have hlen := hr.length
        have hne : ∀ {z : List AV}, z = (cs.take (hh * G.size e)).drop (l * G.size e) → z ≠ [] → cs ≠ [] ∧ l * G.size e < hh * G.size e ∧ l * G.size e < cs.length := by
          rintro z rfl hz
          have := List.length_pos_iff.2 hz
          simp only [List.length_drop, List.length_take] at this
          exact ⟨fun e0 => by subst e0; simp at this, by omega, by omega⟩
        refine .sl _ _ _ _ _ b (off + l * G.size e) ((vs.take (hh * G.size e)).drop (l * G.size e)) ((hr.take _).drop _) (fun hz => ?_) (fun hz => ?_) (fun j hj => ?_) trivial (by omega)
        · obtain ⟨z1, z2, _⟩ := hne rfl hz
          have hlh : l < hh := Nat.lt_of_mul_lt_mul_right z2
          rw [if_neg (by omega), ha z1, Option.map_some, ad_add]
        · obtain ⟨z1, z2, z3⟩ := hne rfl hz
          have := hf z1
          simp only [List.length_drop, List.length_take]
          omega
        · simp only [List.length_drop, List.length_take] at hj
          simp only [List.getElem_drop, List.getElem_take]
          rw [← hcell (l * G.size e + j) (by omega)]
          congr 2
          omega
      · cases h
    · cases h
  · rename_i e o ez ver off len hd
    obtain ⟨hu, hs⟩ := slice_ty hG hd
    cases hx with | bsl _ _ _ _ _ a c ho hv ha hc hn =>
    split at h
    · rename_i l hh m h1 h2 h3
      split at h
      · rename_i hle
        obtain ⟨e1, e2, e3, e4, e5⟩ := hle
        simp only [Option.some.injEq] at h
        subst h
        obtain ⟨m', g1, g2, hrun⟩ := run_slice_slice (P := P) hu (run_sizeOf_ok hs K.w) hlo hhi hmx h1 h2 h3 e1 e2 e3 e4 hc a
        refine ⟨_, hrun, .bsl _ _ _ _ _ _ _ ho hv (fun hv' hp => ?_) (Nat.sub_le_sub_right g1 l) ?_⟩
        · subst e5
          by_cases hml : m' = l
          · have hh0 : hh - l = 0 := by omega
            rw [hh0] at hp
            have hoff : off = 0 ∧ l * G.size e = 0 := by
              rcases hp with hp | hp
              · exact absurd hp (Nat.lt_irrefl 0)
              · exact Nat.add_eq_zero_iff.1 hp
            obtain ⟨p1, n, p2, p3⟩ := ha hv' (.inr hoff.1)
            refine ⟨by rw [if_pos hml, p1, hoff.1, hoff.2], n, p2, ?_⟩
            rw [hml, Nat.sub_self, hoff.1, hoff.2]
            simp
          · have hp' : 0 < len ∨ off = 0 := by omega
            obtain ⟨p1, n, p2, p3⟩ := ha hv' hp'
            refine ⟨by rw [if_neg hml, p1, Option.map_some, ad_add], n, p2, ?_⟩
            have : (m' - l) * G.size e + l * G.size e ≤ c * G.size e := by
              rw [← Nat.add_mul]
              exact Nat.mul_le_mul_right _ (by omega)
            omega
        · split
          · exact hn
          · cases a with
            | none => exact absurd rfl hn
            | some a => simp
      · cases h
    · cases h
  · rename_i e o off len hd
    obtain ⟨hu, hs⟩ := slice_ty hG hd
    cases hx with | asl _ _ _ a c ho hE ha hc hn =>
    split at h
    · rename_i l hh m h1 h2 h3
      split at h
      · rename_i hle
        obtain ⟨e1, e2, e3, e4⟩ := hle
        simp only [Option.some.injEq] at h
        subst h
        obtain ⟨m', g1, g2, hrun⟩ := run_slice_slice (P := P) hu (run_sizeOf_ok hs K.w) hlo hhi hmx h1 h2 h3 e1 e2 e3 e4 hc a
        refine ⟨_, hrun, .asl _ _ _ _ _ ho hE (fun hp => ?_) (by omega) ?_⟩
        · rw [if_neg (by omega), ha (by omega), Option.map_some, ad_add]
        · split
          · exact hn
          · cases a with
            | none => exact absurd rfl hn
            | some a => simp
      · cases h
    · cases h
  · rename_i n e o off hd
    obtain ⟨hu, hs⟩ := arr_ty hG hd
    cases hx with | ptr _ _ ho hE =>
    split at h
    · rename_i l hh h1 h2
      split at h
      · rename_i hle
        simp only [Option.some.injEq] at h
        subst h
        cases hmx
        have hb := run_sliceBounds_ok (P := P) (b := false) (len := n) (cap := n) hlo hhi (.none : OptRep K none none) h1 h2 rfl hle.1 hle.2 (Nat.le_refl _) (by simp) K.w
        refine ⟨.slice (some (if n = l then ad (K.at o) off else (ad (K.at o) off).add (l * G.size e))) (hh - l) (n - l), ?_, .asl _ _ _ _ _ ho hE (fun hp => ?_) (by omega) (by simp)⟩
        · simp only [Instr.sliceAt, Sem.run_bind, run_underlying_ok hu, Result.andThen_ok, Instr.sureAddr, Sem.run_pure, hb, run_sizeOf_ok hs]
        · rw [if_neg (by omega), ad_add]
      · cases h
    · cases h
  · cases h
end
end Go.Adm
set_option linter.unusedVariables false
set_option linter.unusedSimpArgs false
namespace Go.Adm
open Go

section
variable {P : Program} {K : Ctx}

theorem part_ok {G : Prg} (hG : PrgOK G P) {t : TypeId} {cs : List AV} {vs : List Value} {y : AV} {off : Nat} (hr : RepL K cs vs)
    (hm : mkVar (G.isAgg t) ((cs.drop off).take (G.size t)) = some y) (w : World) : ∃ u, (part t vs.toArray off).run P w = .ok u w ∧ Rep K y u := by
  have hr' := (hr.drop off).take (G.size t)
  have ht := hG.ty t
  rcases mkVar_ok hm hr' with ⟨h1, h2⟩ | ⟨h1, u, h3, h2⟩
  · have hso : sizeOK G P t := by
      rcases ht with ⟨h, _⟩ | ⟨h, _⟩
      · simp [Prg.isAgg, h] at h1
      · exact h
    have hag := run_isAgg_ok ht (.inr h1) w
    rw [h1] at hag
    refine ⟨_, ?_, h2⟩
    simp only [part, Sem.run_bind, hag, Result.andThen_ok, if_true, run_sizeOf_ok hso, Sem.run_map, Sem.run_pure]
    congr 2
    apply Array.ext'
    simp [List.drop_take]
  · have hl : 0 < G.size t ∧ vs[off]? = some u := by
      have hlen := congrArg List.length h3
      simp only [List.length_take, List.length_drop, List.length_cons, List.length_nil] at hlen
      refine ⟨by omega, ?_⟩
      have := congrArg (·[0]?) h3
      simp only [List.getElem?_cons_zero] at this
      rw [← this, List.getElem?_take_of_lt (by omega), List.getElem?_drop]
      simp
    have hag := run_isAgg_ok ht (.inl hl.1) w
    rw [h1] at hag
    refine ⟨u, ?_, h2⟩
    have hu : vs.toArray[off]? = some u := by simpa using hl.2
    simp only [part, Sem.run_bind, hag, Result.andThen_ok, Bool.false_eq_true, if_false, hu, Sem.run_pure]

theorem field_ok {G : Prg} (hG : PrgOK G P) {t : TypeId} {f : Nat} {x y : AV} {v : Value} (hx : Rep K x v)
    (h : fieldOp G t f x = some y) (w : World) : ∃ u, (Instr.field t v f).run P w = .ok u w ∧ Rep K y u := by
  have ht := hG.ty t
  unfold TyOK at ht
  unfold fieldOp at h
  split at h
  · rename_i fs c cs hd
    simp only [hd, reduceCtorEq, false_and, false_or] at ht
    obtain ⟨_, _, fields, hu, hfs, hsz, _⟩ := ht
    cases hx with | agg _ vs hr =>
    split at h
    · rename_i off ft hf
      rw [hfs, List.getElem?_map] at hf
      obtain ⟨fd, hfd, he⟩ := Option.map_eq_some_iff.1 hf
      simp only [Prod.mk.injEq] at he
      obtain ⟨rfl, rfl⟩ := he
      have hfd' : fields[f]? = some fd := by simpa using hfd
      obtain ⟨u, h1, h2⟩ := part_ok hG hr h w
      exact ⟨u, by simp only [Instr.field, Sem.run_bind, run_underlying_ok hu, Result.andThen_ok, hfd', asAgg, Sem.run_pure, h1], h2⟩
    · cases h
  · cases h

theorem index_ok {G : Prg} (hG : PrgOK G P) {t : TypeId} {x ix y : AV} {v iv : Value} (hx : Rep K x v) (hix : Rep K ix iv)
    (h : indexOp G t x ix = some y) (w : World) : ∃ u, (Instr.index t v iv).run P w = .ok u w ∧ Rep K y u := by
  unfold indexOp at h
  split at h
  · rename_i c i hd hn
    have hu := str_ty hG hd
    obtain ⟨k, rfl⟩ := natOf_ok hix hn
    cases hx
    split at h
    · rename_i b hb
      simp only [Option.some.injEq] at h
      subst h
      obtain ⟨hi, rfl⟩ := List.getElem?_eq_some_iff.1 hb
      refine ⟨_, ?_, .i _ _⟩
      have : (ByteArray.mk c.toArray)[i]? = some c[i] := by
        rw [ByteArray.getElem?_lt' _ _ (by simpa [ByteArray.size] using hi)]
        rfl
      simp only [Instr.index, asIntOf, Sem.run_bind, Sem.run_pure, Result.andThen_ok, run_underlying_ok hu]
      rw [if_pos (by omega)]
      simp only [Int.toNat_natCast, this, Sem.run_pure]
    · cases h
  · rename_i n e cs i hd hn
    obtain ⟨hu, hs⟩ := arr_ty hG hd
    obtain ⟨k, rfl⟩ := natOf_ok hix hn
    cases hx with | agg _ vs hr =>
    split at h
    · rename_i hlt
      obtain ⟨u, h1, h2⟩ := part_ok hG hr h w
      refine ⟨u, ?_, h2⟩
      simp only [Instr.index, asIntOf, Sem.run_bind, Sem.run_pure, Result.andThen_ok, run_underlying_ok hu]
      rw [if_pos (by omega)]
      simp only [run_sizeOf_ok hs, Result.andThen_ok, Sem.run_bind, Int.toNat_natCast, h1]
    · cases h
  · cases h

theorem sliceLen_ok {x : AV} {v : Value} {n : Nat} (h : sliceLen x = some n) (hx : Rep K x v) : ∃ a c, v = .slice a n c := by
  cases hx <;> simp [sliceLen] at h <;> subst h <;> exact ⟨_, _, rfl⟩

theorem len_ok {G : Prg} (hG : PrgOK G P) (hI : Inv K) {t : TypeId} {x y : AV} {v : Value} (hx : Rep K x v)
    (h : lenOp G K.M t x = some y) (ty : TypeId) (ts : List TypeId) (l : List Value) : ∃ u, (Builtin.len_ (t :: ts).toArray ty (v :: l).toArray).run P K.w = .ok u K.w ∧ Rep K y u := by
  have ht := hG.ty t
  unfold TyOK at ht
  unfold lenOp at h
  split at h
  · rename_i c hd
    simp only [hd, reduceCtorEq, false_and, false_or] at ht
    cases hx
    simp only [Option.some.injEq] at h
    subst h
    have hsz : (ByteArray.mk c.toArray).size = c.length := by simp [ByteArray.size]
    refine ⟨_, ?_, .i _ _⟩
    have h0 : (t :: ts).toArray[0]? = some t := rfl
    have h1 : (Value.string ⟨c.toArray⟩ :: l).toArray[0]? = some (Value.string ⟨c.toArray⟩) := rfl
    simp only [Builtin.len_, h0, h1, Sem.run_bind, run_underlying_ok ht.2.2, Result.andThen_ok, Sem.run_pure, goInt, hsz]
  · rename_i hd
    simp only [hd, reduceCtorEq, false_and, false_or] at ht
    cases hx
    simp only [Option.some.injEq] at h
    subst h
    exact ⟨_, by simp [Builtin.len_, run_underlying_ok ht.2.2.1, goInt], .i _ _⟩
  · rename_i o hd
    simp only [hd, reduceCtorEq, false_and, false_or] at ht
    cases hx with | mp _ ho hE =>
    have ho' : o < K.M.length := by rw [← hI.len]; exact ho
    have hob := hI.obj o ho'
    rw [List.getElem?_eq_getElem ho'] at h
    split at h
    · rename_i es cl he
      simp only [Option.some.injEq] at he
      rw [he] at hob
      obtain ⟨ents, h1, ⟨h2', _⟩, _⟩ := hob
      have h2 : es.length = ents.size := by simpa using h2'
      simp only [Option.some.injEq] at h
      subst h
      refine ⟨.int .i64 ents.size, ?_, by rw [h2]; exact .i _ _⟩
      have hg : (getObj (K.at o)).run P K.w = .ok (.map ents cl) K.w := by simp only [getObj, Sem.run, h1]
      simp [Builtin.len_, run_underlying_ok ht.2.2.1, goInt, hg]
    · cases h
  · rename_i e hd
    simp only [hd, reduceCtorEq, false_and, false_or] at ht
    obtain ⟨n, hn, rfl⟩ := Option.map_eq_some_iff.1 h
    have := sliceLen_ok hn hx
    obtain ⟨a, c, rfl⟩ := this
    exact ⟨_, by simp [Builtin.len_, run_underlying_ok ht.2.2.1, goInt], .i _ _⟩
  · cases h

theorem max2_ok {x y r : AV} {v u : Value} (h : max2 x y = some r) (hx : Rep K x v) (hy : Rep K y u) (w : World) : ∃ q, (Builtin.max2 v u).run P w = .ok q w ∧ Rep K r q := by
  unfold max2 at h
  split at h
  · cases hx; cases hy
    simp only [Option.some.injEq] at h
    subst h
    exact ⟨_, by simp [Builtin.max2], .i _ _⟩
  · cases h

theorem min2_ok {x y r : AV} {v u : Value} (h : min2 x y = some r) (hx : Rep K x v) (hy : Rep K y u) (w : World) : ∃ q, (Builtin.min2 v u).run P w = .ok q w ∧ Rep K r q := by
  unfold min2 at h
  split at h
  · cases hx; cases hy
    simp only [Option.some.injEq] at h
    subst h
    exact ⟨_, by simp [Builtin.min2], .i _ _⟩
  · cases h

theorem foldO_ok {f : AV → AV → Option AV} {g : Value → Value → Sem Value} {w : World} (hf : ∀ {x y r : AV} {v u : Value}, f x y = some r → Rep K x v → Rep K y u → ∃ q, (g v u).run P w = .ok q w ∧ Rep K r q) :
    ∀ {l : List AV} {vs : List Value} {x r : AV} {v : Value}, foldO f x l = some r → Rep K x v → RepL K l vs → ∃ q, (vs.foldlM g v).run P w = .ok q w ∧ Rep K r q := by
  intro l
  induction l with
  | nil =>
    intro vs x r v h hx hl
    cases hl
    simp only [foldO, Option.some.injEq] at h
    subst h
    exact ⟨v, by simp, hx⟩
  | cons y l ih =>
    intro vs x r v h hx hl
    cases hl with | cons _ u _ us hy hl =>
    simp only [foldO] at h
    split at h
    · rename_i a ha
      obtain ⟨q, h1, h2⟩ := hf ha hx hy
      obtain ⟨q', h3, h4⟩ := ih h h2 hl
      exact ⟨q', by simp only [List.foldlM_cons, Sem.run_bind, h1, Result.andThen_ok, h3], h4⟩
    · cases h
end
end Go.Adm
set_option linter.unusedVariables false
set_option linter.unusedSimpArgs false
namespace Go.Adm
open Go

section
variable {P : Program} {K : Ctx}

theorem TyOK.und {G : Prg} {t : TypeId} (h : TyOK G P t) (hb : (G.ty t).d ≠ .bad) : ∃ d, P.underlying t = some d := by
  rcases h with ⟨h, _⟩ | ⟨_, _, h⟩
  · exact absurd h hb
  · generalize (G.ty t).d = d at h
    cases d <;> simp only at h
    · exact ⟨_, h⟩
    · exact ⟨_, h⟩
    · exact ⟨_, h⟩
    · exact ⟨_, h.1⟩
    · exact ⟨_, h⟩
    · exact ⟨_, h.1⟩
    · exact ⟨_, h.1⟩
    · exact ⟨_, h.1⟩
    · obtain ⟨f, h, _⟩ := h; exact ⟨_, h⟩
    · obtain ⟨a, b, c, h⟩ := h; exact ⟨_, h⟩
    · obtain ⟨a, h⟩ := h; exact ⟨_, h⟩
    · obtain ⟨d, h, _⟩ := h; exact ⟨_, h⟩

theorem bytes_of_slice (hI : Inv K) {x : AV} {v : Value} (hx : Rep K x v) {n : Nat} {cs : List AV} {s : List UInt8} (h : sliceCells K.M 1 x = some (cs, n)) (hl : cs.length = n) (hb : toBytes cs = some s)
    {src dst e : TypeId} (hs : P.underlying src = some (.slice e)) (he : P.underlying e = some (.int .u8)) (hd : P.underlying dst = some .string) : (convert src dst v).run P K.w = .ok (.string ⟨s.toArray⟩) K.w := by
  obtain ⟨a, c, rfl, vs, hr, hc⟩ := sliceCells_ok hI hx h
  obtain ⟨ns, h1, h2⟩ := toBytes_ok hb
  subst h1
  have hv := hr.nums
  subst hv
  by_cases hne : ns = []
  · subst hne
    simp at hl h2
    subst hl; subst h2
    cases a with
    | none => rw [run_convert_bytes_nil K.w src e hs he 0 c dst hd]; rfl
    | some a =>
      rw [run_convert_bytes_string K.w src dst e _ 0 c hs he hd]
      rw [run_bytesToString K.w a 0 c [] (by simp [loadCells, loadCellsFrom])]
      rfl
  · obtain ⟨b, off, rfl, hc2⟩ := hc (by simpa using hne)
    have hl' : ns.length = n := by simpa using hl
    rw [run_convert_bytes_arg K.w src e hs he b off n c ns hl' (fun i hi => by
      have := hc2 i (by simp; omega)
      have hi' : i < ns.length := by omega
      simpa [List.getD_eq_getElem?_getD, List.getElem?_eq_getElem hi'] using this) dst hd]
    rw [h2]
    rfl

theorem convert_ok {G : Prg} (hG : PrgOK G P) (hI : Inv K) {src dst : TypeId} {x y : AV} {v : Value} (hx : Rep K x v)
    (h : convertOp (G.ty src).d (G.ty dst).d (match (G.ty src).d with | .slice e => (G.ty e).d | _ => .other) K.M x = some y) : ∃ u, (convert src dst v).run P K.w = .ok u K.w ∧ Rep K y u := by
  unfold convertOp at h
  split at h
  · cases h
  · rename_i k q n hd hb
    have hu2 := int_ty hG hd
    obtain ⟨d1, hu1⟩ := (hG.ty src).und (fun e => hb e)
    cases hx
    simp only [Option.some.injEq] at h
    subst h
    exact ⟨_, by simp [convert, run_underlying_ok hu1, run_underlying_ok hu2, Conv.intToInt], .i _ _⟩
  · rename_i q hd hb
    have hu2 := str_ty hG hd
    obtain ⟨d1, hu1⟩ := (hG.ty src).und (fun e => hb e)
    cases hx
    simp only [Option.some.injEq] at h
    subst h
    exact ⟨_, by simp [convert, run_underlying_ok hu1, run_underlying_ok hu2], .s _⟩
  · rename_i e hs hd hb
    obtain ⟨hu1, _⟩ := slice_ty hG hs
    have hu2 := str_ty hG hd
    simp only [hs] at h
    split at h
    · rename_i he
      have hu3 := int_ty hG he
      split at h
      · rename_i cs n hsc
        split at h
        · rename_i hl
          obtain ⟨s, hb, rfl⟩ := Option.map_eq_some_iff.1 h
          exact ⟨_, bytes_of_slice hI hx hsc hl hb hu1 hu3 hu2, .s _⟩
        · cases h
      · cases h
    · cases h
  · cases h

theorem kindEq_now {kd : TyD} {x y : AV} {v u : Value} {b : Bool} (h : kindEq kd x y = some b) (hx : Rep K x v) (hy : Rep K y u) {t : TypeId} (ht : KindOK P t kd) :
    ∃ d, P.underlying t = some d ∧ Instr.sameNow d v u = some b := by
  unfold kindEq at h
  split at h
  · cases hx; cases hy
    simp only [Option.some.injEq] at h
    subst h
    exact ⟨_, ht, rfl⟩
  · cases hx; cases hy
    obtain ⟨q, hq⟩ := ht
    split at h
    · rename_i hk
      simp only [Option.some.injEq] at h
      subst h
      exact ⟨_, hq, by simp [Instr.sameNow, hk]⟩
    · cases h
  · cases hx; cases hy
    simp only [Option.some.injEq] at h
    subst h
    have hq : P.underlying t = some .string := ht
    refine ⟨_, hq, ?_⟩
    simp only [Instr.sameNow, Option.some.injEq]
    rw [beq_toListBytes]
    simp
  · cases h

theorem RepE.tail {x : AV × AV × Nat} {es : List (AV × AV × Nat)} {e : MapEntry} {ents : List MapEntry} (h : RepE K (x :: es) (e :: ents)) : RepE K es ents :=
  ⟨by simpa using h.1, fun j h1 h2 => h.2 (j + 1) (by simpa using h1) (by simpa using h2)⟩

theorem findEntry_ok {kd : TyD} {k : AV} {kv : Value} (hk : Rep K k kv) {t : TypeId} (ht : KindOK P t kd) :
    ∀ (es : List (AV × AV × Nat)) (ents : List MapEntry) (i : Nat) (r : Option (Nat × AV × Nat)), RepE K es ents → findEntry kd k es i = some r →
      ∃ d, P.underlying t = some d ∧ ((r = none ∧ Instr.findNow d kv ents i = some none) ∨
        ∃ j x born e, r = some (j, x, born) ∧ i ≤ j ∧ ents[j - i]? = some e ∧ (∃ k', es[j - i]? = some (k', x, born) ∧ kindEq kd k k' = some true) ∧ Instr.findNow d kv ents i = some (some (j, e.val))) := by
  have hd : ∃ d, P.underlying t = some d := by
    cases kd <;> simp only [KindOK] at ht
    · obtain ⟨q, ht⟩ := ht; exact ⟨_, ht⟩
    · exact ⟨_, ht⟩
    · exact ⟨_, ht⟩
  obtain ⟨d, hd⟩ := hd
  intro es
  induction es with
  | nil =>
    intro ents i r hr h
    cases ents with
    | cons _ _ => simp [RepE] at hr
    | nil =>
      simp only [findEntry, Option.some.injEq] at h
      exact ⟨d, hd, .inl ⟨h.symm, rfl⟩⟩
  | cons x es ih =>
    intro ents i r hr h
    cases ents with
    | nil => simp [RepE] at hr
    | cons e ents =>
      obtain ⟨k', v, born⟩ := x
      have h0 := hr.2 0 (by simp) (by simp)
      simp only [List.getElem_cons_zero] at h0
      simp only [findEntry] at h
      split at h
      · rename_i hb
        simp only [Option.some.injEq] at h
        subst h
        obtain ⟨d', hd', hn⟩ := kindEq_now hb hk h0.1 ht
        rw [hd] at hd'
        cases hd'
        exact ⟨d, hd, .inr ⟨i, v, born, e, rfl, Nat.le_refl _, by simp, ⟨k', by simp, hb⟩, by simp [Instr.findNow, hn]⟩⟩
      · rename_i hb
        obtain ⟨d', hd', hn⟩ := kindEq_now hb hk h0.1 ht
        rw [hd] at hd'
        cases hd'
        obtain ⟨d', hd', h2⟩ := ih ents (i + 1) r hr.tail h
        rw [hd] at hd'
        cases hd'
        refine ⟨d, hd, ?_⟩
        rcases h2 with ⟨h2, h3⟩ | ⟨j, x, born', e', h2, h3, h4, ⟨k2, h5, h6⟩, h7⟩
        · exact .inl ⟨h2, by simp [Instr.findNow, hn, h3]⟩
        · have e1 : j - i = (j - (i + 1)) + 1 := by omega
          exact .inr ⟨j, x, born', e', h2, by omega, by rw [e1]; simpa using h4, ⟨k2, by rw [e1]; simpa using h5, h6⟩, by simp [Instr.findNow, hn, h7]⟩
      · cases h

theorem run_checkKey_kind {t : TypeId} {kd : TyD} (ht : KindOK P t kd) (b : Bool) (n : Nat) (v : Value) (w : World) : (Instr.checkKey b (n + 1) t v).run P w = .ok () w := by
  cases kd <;> simp only [KindOK] at ht
  · obtain ⟨q, ht⟩ := ht
    cases v <;> simp [Instr.checkKey, run_underlying_ok ht]
  · cases v <;> simp [Instr.checkKey, run_underlying_ok ht]
  · cases v <;> simp [Instr.checkKey, run_underlying_ok ht]

theorem run_findKey_now {t : TypeId} {d : TypeDesc} (hd : P.underlying t = some d) {k : Value} {es : List MapEntry} {r : Option (Nat × Value)} (h : Instr.findNow d k es 0 = some r) (w : World) :
    (Instr.findKey t k es).run P w = .ok r w := by
  simp [Instr.findKey, run_underlying_ok hd, h]

theorem map_ty {G : Prg} (hG : PrgOK G P) {t k e : TypeId} (hd : (G.ty t).d = .map k e) : P.underlying t = some (.map k e) ∧ KindOK P k (G.ty k).d ∧ zeroOK G P e := by
  have ht := hG.ty t
  unfold TyOK at ht
  simp only [hd, reduceCtorEq, false_and, false_or] at ht
  exact ht.2.2

theorem zero_ok {G : Prg} {e : TypeId} (h : zeroOK G P e) (hc : (G.ty e).zero.cells.all AV.cell = true) : ∃ z, (∀ w, (zeroValue e).run P w = .ok z w) ∧ (∀ K, Rep K (G.ty e).zero z) ∧ (G.ty e).zero.cells.length = G.size e ∧ z.cells.size = G.size e := by
  rcases h with h | ⟨i, z, h1, h2, h3, h4, h5, h6⟩
  · rw [h] at hc
    simp [AV.cells, AV.cell] at hc
  · exact ⟨z, fun w => by simp [zeroValue, typeInfo, h1, h2], h3, h4, h6⟩
end
end Go.Adm
set_option linter.unusedVariables false
set_option linter.unusedSimpArgs false
namespace Go.Adm
open Go

section
variable {P : Program} {K : Ctx}

theorem run_getObj_map {w : World} {b : Nat} {ents : Array MapEntry} {c : Nat} (h : w.heap[b]? = some (.map ents c)) : (getObj b).run P w = .ok (.map ents c) w := by
  simp only [getObj, Sem.run, h]

theorem obj_map (hI : Inv K) {o : Nat} (ho : o < K.ι.length) {es : List (AV × AV × Nat)} {c : Nat} (h : K.M[o]? = some (.map es c)) : ∃ ents : Array MapEntry, K.w.heap[K.at o]? = some (.map ents c) ∧ RepE K es ents.toList := by
  have ho' : o < K.M.length := by rw [← hI.len]; exact ho
  have hob := hI.obj o ho'
  rw [List.getElem?_eq_getElem ho', Option.some.injEq] at h
  rw [h] at hob
  obtain ⟨ents, h1, h2, _⟩ := hob
  exact ⟨ents, h1, h2⟩

theorem lookup_ok {G : Prg} (hG : PrgOK G P) (hI : Inv K) {t : TypeId} {x k r : AV} {v kv : Value} {ok : Bool} (hx : Rep K x v) (hk : Rep K k kv) (h : lookupOp G K.M t x k ok = some r) :
    ∃ u, (Instr.lookup t v kv ok).run P K.w = .ok u K.w ∧ Rep K r u := by
  unfold lookupOp at h
  split at h
  · rename_i kt e hd
    obtain ⟨hu, hkt, hz⟩ := map_ty hG hd
    split at h
    · rename_i hc
      obtain ⟨z, hz1, hz2, _⟩ := zero_ok hz hc.2
      have hck : ∀ b, (Instr.checkKey b 10000 kt kv).run P K.w = .ok () K.w := fun b => run_checkKey_kind hkt b 9999 kv K.w
      have fin : ∀ {av : AV} {a : Value} (b : Bool), Rep K av a → Rep K (if ok then .tup [av, .b b] else av) (if ok then .tuple #[a, .bool b] else a) := fun b ha => by
        split
        · exact .tup [_, _] [_, _] (.cons _ _ _ _ ha (.cons _ _ _ _ (.b _) .nil))
        · exact ha
      split at h
      · cases hx
        simp only [Option.some.injEq] at h
        subst h
        refine ⟨_, ?_, fin false (hz2 K)⟩
        have hf : ∃ d, P.underlying kt = some d := by
          generalize (G.ty kt).d = kd at hkt
          cases kd <;> simp only [KindOK] at hkt
          · obtain ⟨q, hkt⟩ := hkt; exact ⟨_, hkt⟩
          · exact ⟨_, hkt⟩
          · exact ⟨_, hkt⟩
        obtain ⟨d, hf⟩ := hf
        have hfk := run_findKey_now (P := P) hf (k := kv) (es := []) (r := none) rfl K.w
        simp only [Instr.lookup, Sem.run_bind, run_underlying_ok hu, Result.andThen_ok, Sem.run_pure, hck, hfk, hz1]
      · rename_i o
        cases hx with | mp _ ho hE =>
        split at h
        · rename_i es c hm
          obtain ⟨ents, h1, h2⟩ := obj_map hI ho hm
          have hgo := run_getObj_map (P := P) h1
          split at h
          · rename_i j x born hfe
            obtain ⟨d, hd', hcase⟩ := findEntry_ok hk hkt es ents.toList 0 _ h2 hfe
            simp only [Option.some.injEq] at h
            subst h
            rcases hcase with ⟨h3, _⟩ | ⟨j', x', born', en, h3, h4, h5, ⟨k', h6, h7⟩, h8⟩
            · cases h3
            · simp only [Option.some.injEq, Prod.mk.injEq] at h3
              obtain ⟨rfl, rfl, rfl⟩ := h3
              simp only [Nat.sub_zero] at h5 h6
              obtain ⟨g1, g2⟩ := List.getElem?_eq_some_iff.1 h5
              obtain ⟨g3, g4⟩ := List.getElem?_eq_some_iff.1 h6
              have hr := (h2.2 j g3 g1).2.1
              rw [g4, g2] at hr
              have hfk := run_findKey_now (P := P) hd' h8 K.w
              refine ⟨_, ?_, fin true hr⟩
              simp only [Instr.lookup, Sem.run_bind, run_underlying_ok hu, Result.andThen_ok, Sem.run_pure, hgo, hck, hfk]
          · rename_i hfe
            obtain ⟨d, hd', hcase⟩ := findEntry_ok hk hkt es ents.toList 0 _ h2 hfe
            simp only [Option.some.injEq] at h
            subst h
            rcases hcase with ⟨_, h8⟩ | ⟨j', x', born', en, h3, _⟩
            · have hfk := run_findKey_now (P := P) hd' h8 K.w
              refine ⟨_, ?_, fin false (hz2 K)⟩
              simp only [Instr.lookup, Sem.run_bind, run_underlying_ok hu, Result.andThen_ok, Sem.run_pure, hgo, hck, hfk, hz1]
            · cases h3
          · cases h
        · cases h
      · cases h
    · cases h
  · cases h
end
end Go.Adm
set_option linter.unusedVariables false
set_option linter.unusedSimpArgs false
namespace Go.Adm
open Go

section
variable {P : Program} {K : Ctx}

theorem writeAt_length {α : Type} (vs : List α) : ∀ (cs : List α) (off : Nat), (writeAt cs off vs).length = cs.length := by
  induction vs with
  | nil => intro cs off; rw [writeAt_nil]
  | cons v vs ih => intro cs off; simp [writeAt_cons, ih]

theorem RepL.writeAt {xs : List AV} {ys : List Value} (h : RepL K xs ys) : ∀ {cs : List AV} {vs : List Value} (off : Nat), RepL K cs vs → RepL K (writeAt cs off xs) (Adm.writeAt vs off ys) := by
  induction xs generalizing ys with
  | nil => intro cs vs off hr; cases h; rw [writeAt_nil, writeAt_nil]; exact hr
  | cons x xs ih =>
    intro cs vs off hr
    cases h with | cons _ y _ ys h t => rw [writeAt_cons, writeAt_cons]; exact ih t (off + 1) (hr.set off h)

theorem Rep.cells {x : AV} {v : Value} (h : Rep K x v) (hc : x.cells.all AV.cell = true) : RepL K x.cells v.cells.toList := by
  cases h <;> first
    | exact .cons _ _ _ _ (by constructor <;> assumption) .nil
    | (simp [AV.cells, AV.cell] at hc; done)
    | skip
  case agg cs vs h => simpa [AV.cells, Value.cells] using h

theorem foldl_writeAt (off : Nat) : ∀ (l : List Value) (k : Nat) (arr : Array Value),
    ((l.zipIdx k).foldl (fun (cs : Array Value) (p : Value × Nat) => cs.setIfInBounds (off + p.2) p.1) arr).toList = writeAt arr.toList (off + k) l := by
  intro l
  induction l with
  | nil => intro k arr; rw [writeAt_nil]; rfl
  | cons v l ih =>
    intro k arr
    simp only [List.zipIdx_cons, List.foldl_cons, writeAt_cons]
    rw [ih, Array.toList_setIfInBounds]
    rfl

theorem fill_ok {sz : Nat → Option (Nat × Nat)} {place : Nat → Option (Nat × Nat)} (hp : ∀ i p, sz i = some p → place i = some p) :
    ∀ (parts : List (Nat × AV)) (vparts : List (Nat × Value)) (cs : List AV) (vs : List Value) (r : List AV), parts.map (·.1) = vparts.map (·.1) → RepL K (parts.map (·.2)) (vparts.map (·.2)) → RepL K cs vs →
      fillAt sz parts cs = some r → ∃ us, Instr.fill place vs.toArray vparts = some us.toArray ∧ RepL K r us ∧ us.length = vs.length := by
  intro parts
  induction parts with
  | nil =>
    intro vparts cs vs r h1 h2 h3 h
    cases vparts with
    | cons _ _ => simp at h1
    | nil =>
      simp only [fillAt, Option.some.injEq] at h
      subst h
      exact ⟨vs, rfl, h3, rfl⟩
  | cons p parts ih =>
    intro vparts cs vs r h1 h2 h3 h
    cases vparts with
    | nil => simp at h1
    | cons q vparts =>
      obtain ⟨i, x⟩ := p
      obtain ⟨i', v⟩ := q
      simp only [List.map_cons, List.cons.injEq] at h1
      obtain ⟨rfl, h1⟩ := h1
      cases h2 with | cons _ _ _ _ hx h2 =>
      simp only [fillAt] at h
      split at h
      · rename_i p hsz
        split at h
        · rename_i hc
          obtain ⟨hc1, hc2, hc3⟩ := hc
          have hcells := hx.cells hc3
          have hl1 := hcells.length
          have hl2 := h3.length
          obtain ⟨us, h4, h5, h6⟩ := ih vparts (writeAt cs p.1 x.cells) (writeAt vs p.1 v.cells.toList) r h1 h2 (hcells.writeAt p.1 h3) h
          refine ⟨us, ?_, h5, by rw [h6, writeAt_length]⟩
          have hf := foldl_writeAt p.1 v.cells.toList 0 vs.toArray
          simp only [Instr.fill, hp _ _ hsz]
          rw [if_neg (by simp only [Array.length_toList] at hl1; simp; omega)]
          rw [← h4]
          congr 1
          apply Array.ext'
          rw [← Array.foldl_toList, Array.toList_zipIdx]
          simpa using hf
        · cases h
      · cases h
end
end Go.Adm
set_option linter.unusedVariables false
set_option linter.unusedSimpArgs false
namespace Go.Adm
open Go

section
variable {P : Program} {K : Ctx}

theorem run_shapeC {b : Nat} {c : Array Value} {t : TypeId} {fr : Nat × Nat} {w : World} (h : w.heap[b]? = some (.cells c t fr)) : (shape b).run P w = .ok (some (t, c.size)) w := by
  simp [World.shape?, h]

theorem run_seenAt {b off : Nat} {c : Array Value} {t : TypeId} {fr : Nat × Nat} {w : World} (h : w.heap[b]? = some (.cells c t fr)) : (Conv.seenAt (ad b off)).run P w = .ok (ad b off) w := by
  simp [Conv.seenAt, viewAt, run_shapeC h]

theorem run_cellsIn {b : Nat} {c : Array Value} {t : TypeId} {fr : Nat × Nat} {w : World} (h : w.heap[b]? = some (.cells c t fr)) : (cellsIn b).run P w = .ok (some c.size) w := by
  simp [cellsIn, run_shapeC h]

theorem depth_pos (P : Program) : ∃ d, P.depth = d + 2 := ⟨_, rfl⟩

theorem lies_self {e : TypeId} {count off n : Nat} (hs : P.cellsOf e ≠ 0) (h1 : off % P.cellsOf e = 0) (h2 : off / P.cellsOf e + n ≤ count) : liesAt P P.depth e count off e n = true := by
  obtain ⟨d, hd⟩ := depth_pos P
  have hsame : sameLayout P P.depth e e = true := by rw [hd]; simp [sameLayout]
  have hrow : rowAt P (sameLayout P P.depth · e) P.depth e count off n = true := by
    rw [hd]
    simp only [rowAt]
    rw [if_neg hs]
    simp only [h1, beq_self_eq_true, Bool.true_and, Bool.or_eq_true, Bool.and_eq_true, decide_eq_true_eq]
    refine .inl ⟨h2, ?_⟩
    rw [← hd]
    exact hsame
  have h3 : liesAt P (d + 2) e count off e n = (rowAt P (sameLayout P P.depth · e) P.depth e count off n ||
    match P.underlying e with
    | some (.array m u') => liesAt P (d + 1) e count off u' (n * m)
    | _ => false) := by
    rw [liesAt]
    cases P.underlying e with
    | none => rfl
    | some d => cases d <;> rfl
  rw [hd, h3, hrow]
  rfl

theorem cellsOf_ok {G : Prg} {e : TypeId} (h : sizeOK G P e) : P.cellsOf e = G.size e := by
  obtain ⟨i, h1, h2, _⟩ := h
  simp [Program.cellsOf, h1, h2]

theorem uconv_ok {G : Prg} (hG : PrgOK G P) (hI : Inv K) {src dst : TypeId} {x r : AV} {v : Value} (hx : Rep K x v) (h : uconvOp G K.M src dst x = some r) : ∃ u, (Go.convert src dst v).run P K.w = .ok u K.w ∧ Rep K r u := by
  unfold uconvOp at h
  have hts := hG.ty src
  have htd := hG.ty dst
  unfold TyOK at hts htd
  split at h
  · rename_i e o off hs hd
    simp only [hs, reduceCtorEq, false_and, false_or] at hts
    simp only [hd, reduceCtorEq, false_and, false_or] at htd
    obtain ⟨_, _, hus, hse⟩ := hts
    obtain ⟨_, _, hud⟩ := htd
    split at h
    · rename_i ty cs hM
      split at h
      · rename_i hc
        simp only [Option.some.injEq] at h
        subst h
        cases hx with
        | ptr _ _ ho hE =>
          have ho' : o < K.M.length := by rw [← hI.len]; exact ho
          have hob := hI.obj o ho'
          rw [List.getElem?_eq_getElem ho', Option.some.injEq] at hM
          rw [hM] at hob
          obtain ⟨c, t, fr, h1, h2, _⟩ := hob
          have hl := h2.length
          simp only [Array.length_toList] at hl
          have hoff : ¬ off ≥ c.size := by omega
          have hz : ¬ G.size e = 0 := by omega
          refine ⟨.pointer (some (ad (K.at o) off)), ?_, .ptr _ _ ho hE⟩
          simp only [Go.convert, Sem.run_bind, run_underlying_ok hus, run_underlying_ok hud, Result.andThen_ok, Conv.unsafePointer, run_seenAt h1, run_cellsIn h1, run_sizeOf_ok hse, hoff, hz]
          simp
      · cases h
    · cases h
  · rename_i u o hs hd
    simp only [hs, reduceCtorEq, false_and, false_or] at hts
    simp only [hd, reduceCtorEq, false_and, false_or] at htd
    obtain ⟨_, _, hus⟩ := hts
    obtain ⟨_, _, hud, hse⟩ := htd
    split at h
    · rename_i ty cs hM
      split at h
      · rename_i hc
        obtain ⟨rfl, hc1, hc2⟩ := hc
        simp only [Option.some.injEq] at h
        subst h
        cases hx with
        | ptr _ _ ho hE =>
          have ho' : o < K.M.length := by rw [← hI.len]; exact ho
          have hob := hI.obj o ho'
          rw [List.getElem?_eq_getElem ho', Option.some.injEq] at hM
          rw [hM] at hob
          obtain ⟨c, t, fr, h1, h2, _, _, _, rfl⟩ := hob
          have hl := h2.length
          simp only [Array.length_toList] at hl
          have hz : ¬ G.size t = 0 := by omega
          have hlies : liesAt P P.depth t (c.size / P.cellsOf t) 0 t 1 = true := by
            refine lies_self ?_ (Nat.zero_mod _) ?_
            · rw [cellsOf_ok hse]; exact hz
            · rw [cellsOf_ok hse, ← hl, hc1, Nat.div_self hc2]; simp
          have hvar : (variablesAt (ad (K.at o) 0) t 1).run P K.w = .ok true K.w := by
            simp only [variablesAt, Sem.run_bind, run_program, Result.andThen_ok, run_shapeC h1]
            rw [hlies]
            simp
          refine ⟨.pointer (some (ad (K.at o) 0)), ?_, .ptr _ _ ho hE⟩
          simp only [Go.convert, Sem.run_bind, run_underlying_ok hus, run_underlying_ok hud, Result.andThen_ok, Conv.unsafePointer, run_seenAt h1, run_sizeOf_ok hse, hz, hvar]
          simp
      · cases h
    · cases h
  · cases h

theorem sliceData_ok {x r : AV} {v : Value} (hx : Rep K x v) (h : sliceDataOp x = some r) (ats : Array TypeId) (t : TypeId) (w : World) : ∃ u, (Builtin.unsafeSliceData_ ats t #[v]).run P w = .ok u w ∧ Rep K r u := by
  unfold sliceDataOp at h
  split at h
  · simp only [Option.some.injEq] at h
    subst h
    cases hx with
    | sl _ _ _ a c b off vs hr ha hf hc hk hlc =>
      obtain ⟨rfl, _, rfl⟩ := hk
      exact ⟨.pointer none, rfl, .nilp⟩
  · rename_i o ez ver off len
    split at h
    · rename_i hl
      simp only [Option.some.injEq] at h
      subst h
      cases hx with
      | bsl _ _ _ _ _ a c ho hv ha hlc hn =>
        cases a with
        | none => exact absurd rfl hn
        | some a =>
          have hc : c ≠ 0 := by omega
          refine ⟨.pointer (some a), ?_, .bp _ _ _ _ ho hv fun e => ?_⟩
          · show ((if c ≠ 0 then pure (.pointer (some a)) else do
              if (← viewAt a.block).isSome then pure (.pointer (some a)) else pure (.pointer (some ⟨← newObj (.view a (← elemOf t)), 0, none⟩))) : Sem Value).run P w = _
            rw [if_pos hc]
            rfl
          have := (ha e (.inl hl)).1
          simpa using this
    · cases h
  · cases h
end
end Go.Adm
set_option linter.unusedVariables false
set_option linter.unusedSimpArgs false
namespace Go.Adm
open Go

section
variable {P : Program} {K : Ctx}

theorem EnvOK.parts {env : List AV} {a : Act} (h : EnvOK K env a) (ps : List (Nat × Operand)) :
    (ps.map fun p => (p.1, Adm.eval env p.2)).map (·.1) = (ps.map fun p => (p.1, a.eval p.2)).map (·.1) ∧ RepL K ((ps.map fun p => (p.1, Adm.eval env p.2)).map (·.2)) ((ps.map fun p => (p.1, a.eval p.2)).map (·.2)) := by
  constructor
  · simp [Function.comp_def]
  · have := h.args (ps.map (·.2))
    simpa [Function.comp_def, List.map_map] using this

theorem mapM_places {G : Prg} {fields : List Field} (hs : ∀ f ∈ fields, sizeOK G P f.type) (w : World) :
    (fields.mapM fun (f : Field) => (do pure (f.offset, ← sizeOf f.type) : Sem (Nat × Nat))).run P w = .ok (fields.map fun f => (f.offset, G.size f.type)) w := by
  induction fields with
  | nil => simp
  | cons f fs ih =>
    have h1 := run_sizeOf_ok (hs f (by simp)) w
    have h2 := ih fun g hg => hs g (by simp [hg])
    simp only [List.mapM_cons, Sem.run_bind, h1, Result.andThen_ok, Sem.run_pure, h2, List.map_cons]

theorem build_ok {G : Prg} (hG : PrgOK G P) {env : List AV} {a : Act} (hE : EnvOK K env a) {t : TypeId} {ps : List (Nat × Operand)} {r : AV}
    (h : buildOp G t (ps.map fun p => (p.1, eval env p.2)) = some r) (w : World) : ∃ u, (Instr.build t (ps.map fun p => (p.1, a.eval p.2)).toArray).run P w = .ok u w ∧ Rep K r u := by
  have ht := hG.ty t
  obtain ⟨hp1, hp2⟩ := hE.parts ps
  unfold buildOp at h
  split at h
  · rename_i hc
    have hz : zeroOK G P t := by
      rcases ht with ⟨hb, _⟩ | ⟨_, hz, _⟩
      · simp [hb] at h
      · exact hz
    obtain ⟨z, hz1, hz2, hz3, hz4⟩ := zero_ok hz hc
    have hzr := (hz2 K).cells hc
    unfold TyOK at ht
    split at h
    · rename_i fs cmp hd
      simp only [hd, reduceCtorEq, false_and, false_or] at ht
      obtain ⟨_, _, fields, hu, hfs, hsz, _⟩ := ht
      obtain ⟨rs, hf, rfl⟩ := Option.map_eq_some_iff.1 h
      obtain ⟨us, h1, h2, _⟩ := fill_ok (place := (((fields.toList.map fun f => (f.offset, G.size f.type)).toArray)[·]?)) (fun i p hi => by
        rw [hfs] at hi
        simpa using hi) _ _ _ _ _ hp1 hp2 hzr hf
      refine ⟨.agg us.toArray, ?_, .agg _ _ h2⟩
      have hm : (fields.mapM fun (f : Field) => (do pure (f.offset, ← sizeOf f.type) : Sem (Nat × Nat))).run P w = .ok (fields.toList.map fun f => (f.offset, G.size f.type)).toArray w := by
        have := mapM_places hsz w
        rw [Array.mapM_eq_mapM_toList]
        simp only [Sem.run_map, this, Result.andThen_ok]
      simp only [Array.toArray_toList] at h1
      simp only [Instr.build, Sem.run_bind, hz1, Result.andThen_ok, run_underlying_ok hu, hm, h1, Sem.run_pure]
    · rename_i n e hd
      obtain ⟨hu, hs⟩ := arr_ty hG hd
      obtain ⟨rs, hf, rfl⟩ := Option.map_eq_some_iff.1 h
      obtain ⟨us, h1, h2, _⟩ := fill_ok (place := fun i => some (i * G.size e, G.size e)) (fun i p hi => hi) _ _ _ _ _ hp1 hp2 hzr hf
      refine ⟨.agg us.toArray, ?_, .agg _ _ h2⟩
      simp only [Array.toArray_toList] at h1
      simp only [Instr.build, Sem.run_bind, hz1, Result.andThen_ok, run_underlying_ok hu, run_sizeOf_ok hs, h1, Sem.run_pure]
    · cases h
  · cases h

/-- The quiet operations: the world stays. -/
theorem quiet_ok {G : Prg} (hG : PrgOK G P) (hI : Inv K) {env : List AV} {a : Act} (hE : EnvOK K env a) {o : Oper} {r : AV} (h : quietOp G K.M env o = some r) :
    ∃ u, (execOp a.eval o).run P K.w = .ok (.value u) K.w ∧ Rep K r u := by
  have key : ∀ {s : Sem Value} {r : AV}, (∃ u, s.run P K.w = .ok u K.w ∧ Rep K r u) → ∃ u, ((do pure (Next.value (← s))) : Sem Next).run P K.w = .ok (.value u) K.w ∧ Rep K r u := fun ⟨u, h1, h2⟩ => ⟨u, by simp [h1], h2⟩
  unfold quietOp at h
  unfold execOp
  split at h <;> rename_i ho
  all_goals simp only [ho]
  -- move, assign
  · simp only [Option.some.injEq] at h; subst h; exact ⟨_, rfl, hE.eval _⟩
  · simp only [Option.some.injEq] at h; subst h; exact ⟨_, rfl, hE.eval _⟩
  -- pick
  · exact pick_ok h (hE.eval _) (hE.eval _) (hE.eval _) K.w
  -- build
  · rename_i t ps
    have h2 := build_ok hG hE h K.w
    refine key ?_
    have e : (ps.map fun x => (x.fst, a.eval x.snd)) = (ps.toList.map fun p => (p.1, a.eval p.2)).toArray := by
      apply Array.ext'
      simp
    rw [e]
    exact h2
  -- load
  · split at h
    · rename_i cs hcs
      exact key (load_ok hG hI (hE.eval _) hcs h)
    · cases h
  -- nilCheck
  · obtain ⟨rfl, h1, h2, h3, h4⟩ := nilCheck_ok h (hE.eval _)
    rename_i x
    refine ⟨a.eval x, ?_, hE.eval _⟩
    split
    · rename_i e; exact absurd e h1
    · rename_i e; exact absurd e h2
    · rename_i e; exact absurd e h3
    · rename_i e; exact absurd e (h4 _ _ _)
    · rfl
  -- binOp
  · exact key (binOp_ok hG h (hE.eval _) (hE.eval _) K.w)
  -- unOp
  · exact key (unop_ok h (hE.eval _) K.w)
  -- convert
  · split at h
    · rename_i v hv
      simp only [Option.some.injEq] at h
      subst h
      exact key (uconv_ok hG hI (hE.eval _) hv)
    · exact key (convert_ok hG hI (hE.eval _) h)
  -- makeFunc
  · rename_i f first cap
    split at h
    · rename_i hf
      subst hf
      simp only [Option.some.injEq] at h
      subst h
      refine ⟨.func (.func f) #[] (cap.toList.map a.eval).toArray, ?_, .fn _ _ _ (hE.args _)⟩
      have e : cap.map a.eval = (cap.toList.map a.eval).toArray := by apply Array.ext'; simp
      simp [Instr.makeFunc, e]
    · cases h
  -- slice
  · have hO : ∀ x : Option Operand, OptRep K (x.map (Adm.eval env)) (x.map a.eval) := fun x => by
      cases x
      · exact .none
      · exact .some _ _ (hE.eval _)
    exact key (slice_ok hG h (hE.eval _) (hO _) (hO _) (hO _))
  -- fieldAddr
  · exact key (fieldAt_ok hG (hE.eval _) h)
  -- field
  · exact key (field_ok hG (hE.eval _) h K.w)
  -- indexAddr
  · exact key (indexAt_ok hG (hE.eval _) (hE.eval _) h)
  -- index
  · exact key (index_ok hG (hE.eval _) (hE.eval _) h K.w)
  -- lookup
  · exact key (lookup_ok hG hI (hE.eval _) (hE.eval _) h)
  -- extract
  · exact key (extract_ok h (hE.eval _) K.w)
  -- call
  · rename_i c
    split at h <;> rename_i hc
    · split at h
      · rename_i t ts x xs h1 h2
        have e1 : c.argTypes = (t :: ts).toArray := by apply Array.ext'; simpa using h1
        have e2 : c.args.map a.eval = (a.eval x :: xs.map a.eval).toArray := by apply Array.ext'; simp [h2]
        have := len_ok hG hI (hE.eval x) h o.type ts (xs.map a.eval)
        obtain ⟨u, g1, g2⟩ := this
        refine ⟨u, ?_, g2⟩
        simp only [resolve, hc, Sem.run_bind, Sem.run_pure, Result.andThen_ok, invoke, Go.builtin, e1, e2, g1]
      · cases h
    · split at h
      · rename_i x hl
        have e2 : c.args.map a.eval = #[a.eval x] := by apply Array.ext'; simp [hl]
        obtain ⟨u, g1, g2⟩ := sliceData_ok (P := P) (hE.eval x) h c.argTypes o.type K.w
        refine ⟨u, ?_, g2⟩
        simp only [resolve, hc, Sem.run_bind, Sem.run_pure, Result.andThen_ok, invoke, Go.builtin, e2, g1]
      · cases h
    · split at h
      · rename_i x xs hl
        have hr := hE.args c.args.toList
        rw [hl] at hr
        cases hm : c.args.toList.map a.eval with
        | nil => rw [hm] at hr; cases hr
        | cons v vs =>
          rw [hm] at hr
          cases hr with | cons _ _ _ _ hx hxs =>
          obtain ⟨u, g1, g2⟩ := foldO_ok (P := P) (w := K.w) (fun h1 h2 h3 => max2_ok h1 h2 h3 K.w) h hx hxs
          refine ⟨u, ?_, g2⟩
          have e2 : (c.args.map a.eval).toList = v :: vs := by simpa using hm
          simp only [resolve, hc, Sem.run_bind, Sem.run_pure, Result.andThen_ok, invoke, Go.builtin, Builtin.max_, e2, g1]
      · cases h
    · split at h
      · rename_i x xs hl
        have hr := hE.args c.args.toList
        rw [hl] at hr
        cases hm : c.args.toList.map a.eval with
        | nil => rw [hm] at hr; cases hr
        | cons v vs =>
          rw [hm] at hr
          cases hr with | cons _ _ _ _ hx hxs =>
          obtain ⟨u, g1, g2⟩ := foldO_ok (P := P) (w := K.w) (fun h1 h2 h3 => min2_ok h1 h2 h3 K.w) h hx hxs
          refine ⟨u, ?_, g2⟩
          have e2 : (c.args.map a.eval).toList = v :: vs := by simpa using hm
          simp only [resolve, hc, Sem.run_bind, Sem.run_pure, Result.andThen_ok, invoke, Go.builtin, Builtin.min_, e2, g1]
      · cases h
    · rename_i fo
      split at h
      · rename_i f' hf
        split at h
        · rename_i p hp
          have hr := hE.eval fo
          rw [hf] at hr
          generalize hv : a.eval fo = v at hr
          cases hr with | fn _ _ vs hcap =>
          cases hcap
          obtain ⟨u, g1, g2⟩ := hG.ext f' p hp K _ _ _ (hE.args c.args.toList) h
          refine ⟨u, ?_, g2⟩
          have e2 : c.args.map a.eval = (c.args.toList.map a.eval).toArray := by apply Array.ext'; simp
          simp only [resolve, hc, hv, Deferred.ofValue, Sem.run_bind, Sem.run_pure, Result.andThen_ok, invoke, e2]
          simpa using g1
        · cases h
      · cases h
    · cases h
  · cases h
end
end Go.Adm
set_option linter.unusedVariables false
set_option linter.unusedSimpArgs false
namespace Go.Adm
open Go

section
variable {P : Program} {K : Ctx}

theorem RepE.mono {K' : Ctx} (e : Ext0 K K') {es : List (AV × AV × Nat)} {ents : List MapEntry} (h : RepE K es ents) : RepE K' es ents :=
  ⟨h.1, fun j h1 h2 => ⟨(h.2 j h1 h2).1.mono e, (h.2 j h1 h2).2.1.mono e, (h.2 j h1 h2).2.2⟩⟩

theorem ObjOK.mono {K' : Ctx} (e : Ext0 K K') {b : Nat} {x : AObj} (hh : K'.w.heap[b]? = K.w.heap[b]?) (hF : K'.F b = K.F b) (h : ObjOK K b x) : ObjOK K' b x := by
  have hfr : ∀ off, K'.w.frozen? (ad b off) = K.w.frozen? (ad b off) := fun off => by simp only [World.frozen?, hh]
  cases x with
  | box ty cs =>
    obtain ⟨c, t, fr, h1, h2, h3, h4, h5⟩ := h
    exact ⟨c, t, fr, hh.trans h1, h2.mono e, fun off ho => (hfr off).trans (h3 off ho), hF.trans h4, h5⟩
  | buf ez cs ver fz =>
    obtain ⟨c, t, fr, h1, h2, h3, h4, h5, h6, h7, h8, h9⟩ := h
    exact ⟨c, t, fr, hh.trans h1, h2, h3.mono e, fun off hz ho => (hfr off).trans (h4 off hz ho), by rw [hF]; exact h5, h6, h7, h8, h9⟩
  | map es c =>
    obtain ⟨ents, h1, h2, h3⟩ := h
    exact ⟨ents, hh.trans h1, h2.mono e, hF.trans h3⟩

theorem Inv.at_lt (hI : Inv K) {o : Nat} (ho : o < K.M.length) : K.at o < K.w.heap.size := hI.lt o (by rw [hI.len]; exact ho)

theorem Ctx.L_eq (K : Ctx) (o : Nat) : K.L o = verO K.M[o]? := rfl

theorem cell_of_block {w w' : World} {b : Nat} (h : w'.heap[b]? = w.heap[b]?) (off : Nat) : w'.cell? (ad b off) = w.cell? (ad b off) := by
  simp only [World.cell?, h]

theorem bsize_lt {w : World} {b n : Nat} (h : bsize w b = some n) : b < w.heap.size := by
  unfold bsize at h
  split at h
  · rename_i hh; exact (Array.getElem?_eq_some_iff.1 hh).1
  · cases h

theorem Inv.obj_F (hI : Inv K) {o : Nat} (ho : o < K.M.length) : (∀ n, bsize K.w (K.at o) = some n → K.F (K.at o) ≤ n) ∧ (bsize K.w (K.at o) = none → K.F (K.at o) = 0) := by
  have hob := hI.obj o ho
  cases hx : K.M[o] with
  | box ty cs =>
    rw [hx] at hob
    obtain ⟨c, t, fr, h1, h2, h3, h4, h5⟩ := hob
    exact ⟨fun n h => by omega, fun _ => h4⟩
  | buf ez cs ver fz =>
    rw [hx] at hob
    obtain ⟨c, t, fr, h1, h2, h3, h4, h5, h6, h7, h8, h9⟩ := hob
    refine ⟨fun n h => ?_, fun h => ?_⟩
    · simp only [bsize, h1, Option.some.injEq] at h
      omega
    · simp [bsize, h1] at h
  | map es c =>
    rw [hx] at hob
    obtain ⟨ents, h1, h2, h3⟩ := hob
    exact ⟨fun n h => by omega, fun _ => h3⟩

/-- An object is turned; its block may be a new one. -/
theorem upd_ok (hI : Inv K) {o : Nat} (ho : o < K.M.length) (x : AObj) (b' : Nat) (w' : World)
    (hb : b' = K.at o ∨ K.w.heap.size ≤ b') (hb2 : b' < w'.heap.size) (hsz : K.w.heap.size ≤ w'.heap.size) (hos : w'.os = K.w.os) (htape : w'.tape = K.w.tape) (hout : w'.output = K.w.output)
    (hheap : ∀ b, b < K.w.heap.size → b ≠ K.at o → w'.heap[b]? = K.w.heap[b]?) (hbs : ∀ n, bsize K.w (K.at o) = some n → bsize w' (K.at o) = some n)
    (hF : ∀ off, off < K.F (K.at o) → w'.cell? (ad (K.at o) off) = K.w.cell? (ad (K.at o) off))
    (hE : eszO (some x) = K.E o) (hL : K.L o ≤ verO (some x)) (hL' : verO (some x) = K.L o → b' = K.at o) (hE0 : K.E o = 0 → b' = K.at o)
    (hob : Ext K ⟨K.M.set o x, K.ι.set o b', K.F, w', K.B⟩ → ObjOK ⟨K.M.set o x, K.ι.set o b', K.F, w', K.B⟩ b' x) :
    Ext K ⟨K.M.set o x, K.ι.set o b', K.F, w', K.B⟩ ∧ Inv ⟨K.M.set o x, K.ι.set o b', K.F, w', K.B⟩ := by
  have hoι : o < K.ι.length := by rw [hI.len]; exact ho
  have hat : ∀ i, i ≠ o → (⟨K.M.set o x, K.ι.set o b', K.F, w', K.B⟩ : Ctx).at i = K.at i := fun i hi => by
    simp only [Ctx.at, List.getD_eq_getElem?_getD, List.getElem?_set_ne (Ne.symm hi)]
  have hato : (⟨K.M.set o x, K.ι.set o b', K.F, w', K.B⟩ : Ctx).at o = b' := by
    simp only [Ctx.at, List.getD_eq_getElem?_getD, List.getElem?_set_self hoι, Option.getD_some]
  have hLi : ∀ i, i ≠ o → (⟨K.M.set o x, K.ι.set o b', K.F, w', K.B⟩ : Ctx).L i = K.L i := fun i hi => by
    simp only [Ctx.L, List.getElem?_set_ne (Ne.symm hi)]
  have hLo : (⟨K.M.set o x, K.ι.set o b', K.F, w', K.B⟩ : Ctx).L o = verO (some x) := by
    simp only [Ctx.L, List.getElem?_set_self ho]
  have hEi : ∀ i, (⟨K.M.set o x, K.ι.set o b', K.F, w', K.B⟩ : Ctx).E i = K.E i := fun i => by
    by_cases hi : i = o
    · subst hi
      simp only [Ctx.E, List.getElem?_set_self ho]
      exact hE
    · simp only [Ctx.E, List.getElem?_set_ne (Ne.symm hi)]
  have hext : Ext K ⟨K.M.set o x, K.ι.set o b', K.F, w', K.B⟩ := by
    refine ⟨⟨rfl, by simp, fun i _ => hEi i, fun i hi => ?_, fun i hi hl => ?_, fun i hi he => ?_, fun b off hf => ?_, fun b n hn => ?_, hsz, hos, htape, hout⟩, fun i hi => ?_, fun b hb' hn => ?_, fun _ _ _ => rfl⟩
    · by_cases e : i = o
      · subst e; rw [hLo]; exact hL
      · rw [hLi i e]; exact Nat.le_refl _
    · by_cases e : i = o
      · subst e; rw [hato]; exact hL' (by rw [← hLo]; exact hl)
      · exact hat i e
    · by_cases e : i = o
      · subst e; rw [hato]; exact hE0 he
      · exact hat i e
    · refine ⟨hf, ?_⟩
      by_cases e : b = K.at o
      · subst e; exact hF off hf
      · exact cell_of_block (hheap b (hI.F b (by omega)) e) off
    · by_cases e : b = K.at o
      · subst e; exact hbs n hn
      · have hlt : b < K.w.heap.size := by
          unfold bsize at hn
          split at hn
          · rename_i h; exact (Array.getElem?_eq_some_iff.1 h).1
          · cases hn
        unfold bsize
        rw [hheap b hlt e]
        exact hn
    · by_cases e : i = o
      · subst e; rw [hato]
        rcases hb with hb | hb
        · exact .inl ⟨_, hoι, hb⟩
        · exact .inr hb
      · exact .inl ⟨i, by simpa using hi, hat i e⟩
    · exact .inl (hheap b hb' (fun e => hn o hoι e.symm))
  refine ⟨hext, ⟨by simpa using hI.len, fun i j hi hj hij => ?_, fun i hi => ?_, fun i hi => ?_, fun i hi => ?_, fun b hb' => Nat.lt_of_lt_of_le (hI.F b hb') hsz, Nat.le_trans hI.baseH hsz, fun b n hn hm => ?_, hI.glob.ext hext hI.base hI.baseH⟩⟩
  · simp only [List.length_set] at hi hj
    by_cases e1 : i = o
    · by_cases e2 : j = o
      · omega
      · subst e1
        rw [hato, hat j e2] at hij
        rcases hb with hb | hb
        · exact hI.inj _ _ hi hj (hb.symm.trans hij)
        · have := hI.lt j hj; omega
    · by_cases e2 : j = o
      · subst e2
        rw [hato, hat i e1] at hij
        rcases hb with hb | hb
        · exact hI.inj _ _ hi hj (hij.trans hb)
        · have := hI.lt i hi; omega
      · rw [hat i e1, hat j e2] at hij
        exact hI.inj _ _ hi hj hij
  · simp only [List.length_set] at hi
    by_cases e1 : i = o
    · subst e1; rw [hato]; exact hb2
    · rw [hat i e1]; exact Nat.lt_of_lt_of_le (hI.lt i hi) hsz
  · simp only [List.length_set] at hi
    by_cases e1 : i = o
    · subst e1; rw [hato]
      have h1 := hI.base i hi
      have h2 := hI.lt i hi
      rcases hb with hb | hb
      · show K.B ≤ b'; omega
      · show K.B ≤ b'; omega
    · rw [hat i e1]; exact hI.base i hi
  · simp only [List.length_set] at hi
    by_cases e1 : i = o
    · subst e1
      simp only [List.getElem_set_self]
      rw [hato]
      exact hob hext
    · simp only [List.getElem_set_ne (Ne.symm e1)]
      rw [hat i e1]
      have hne : K.at i ≠ K.at o := fun e => e1 (hI.inj i o (by rw [hI.len]; exact hi) hoι e)
      exact (hI.obj i hi).mono hext.toExt0 (hheap _ (hI.at_lt hi) hne) rfl
  · have hlt := hI.F b (Nat.lt_of_le_of_lt (Nat.zero_le n) hm)
    have hne : b ≠ K.at o := fun e => by
      subst e
      cases hh : bsize K.w (K.at o) with
      | none => have := (hI.obj_F ho).2 hh; have hm' : n < K.F (K.at o) := hm; omega
      | some m =>
        have h1 := hbs m hh
        have h2 := (hI.obj_F ho).1 m hh
        have h3 : m = n := by
          have : bsize w' (K.at o) = some n := hn
          rw [h1] at this
          simpa using this
        have hm' : n < K.F (K.at o) := hm
        omega
    have h1 := hheap b hlt hne
    have h2 : bsize K.w b = some n := by
      have : bsize w' b = some n := hn
      unfold bsize at this ⊢
      rw [← h1]; exact this
    obtain ⟨c, t, h3⟩ := hI.mark b n h2 hm
    exact ⟨c, t, by rw [h1]; exact h3⟩

/-- A new block that is no object's; what of it is frozen at once. -/
theorem new_ok (hI : Inv K) (x : Obj) (w1 : World) (n : Nat) (hw : w1.heap = K.w.heap.push x) (hos : w1.os = K.w.os) (htape : w1.tape = K.w.tape) (hout : w1.output = K.w.output)
    (hxm : ∀ c t fr, x = .cells c t fr → c.size < n → fr = (0, 0)) :
    Ext K ⟨K.M, K.ι, fun b => if b = K.w.heap.size then n else K.F b, w1, K.B⟩ ∧ Inv ⟨K.M, K.ι, fun b => if b = K.w.heap.size then n else K.F b, w1, K.B⟩ := by
  have hold : ∀ b, b < K.w.heap.size → w1.heap[b]? = K.w.heap[b]? := fun b hb => by
    rw [hw, Array.getElem?_push, if_neg (by omega)]
  have hF : ∀ b, b < K.w.heap.size → (if b = K.w.heap.size then n else K.F b) = K.F b := fun b hb => by rw [if_neg (by omega)]
  have hext : Ext K ⟨K.M, K.ι, fun b => if b = K.w.heap.size then n else K.F b, w1, K.B⟩ := by
    refine ⟨⟨rfl, Nat.le_refl _, fun _ _ => rfl, fun _ _ => Nat.le_refl _, fun _ _ _ => rfl, fun _ _ _ => rfl, fun b off hf => ?_, fun b m hm => ?_, by rw [hw]; simp, hos, htape, hout⟩, fun i hi => .inl ⟨i, hi, rfl⟩, fun b hb _ => .inl (hold b hb), fun b hb _ => hF b hb⟩
    · have hlt := hI.F b (by omega)
      exact ⟨by show off < (if b = K.w.heap.size then n else K.F b); rw [hF b hlt]; exact hf, cell_of_block (hold b hlt) off⟩
    · have hlt : b < K.w.heap.size := by
        unfold bsize at hm
        split at hm
        · rename_i h; exact (Array.getElem?_eq_some_iff.1 h).1
        · cases hm
      unfold bsize
      rw [hold b hlt]
      exact hm
  refine ⟨hext, ⟨hI.len, hI.inj, fun i hi => ?_, hI.base, fun i hi => ?_, fun b hb => ?_, Nat.le_trans hI.baseH hext.heap, fun b m hm hF' => ?_, hI.glob.ext hext hI.base hI.baseH⟩⟩
  · have := hI.lt i hi
    show K.at i < w1.heap.size
    rw [hw]
    simp
    omega
  · have hlt := hI.at_lt hi
    exact (hI.obj i hi).mono hext.toExt0 (hold _ hlt) (hF _ hlt)
  · show b < w1.heap.size
    rw [hw]
    simp only [Array.size_push]
    by_cases e : b = K.w.heap.size
    · omega
    · have : 0 < K.F b := by simpa [e] using hb
      have := hI.F b this
      omega
  · by_cases e : b = K.w.heap.size
    · subst e
      have hx : w1.heap[K.w.heap.size]? = some x := by rw [hw]; simp
      have h1 : m < n := by
        have : m < (if K.w.heap.size = K.w.heap.size then n else K.F K.w.heap.size) := hF'
        simpa using this
      have h2 : bsize w1 K.w.heap.size = some m := hm
      unfold bsize at h2
      rw [hx] at h2
      split at h2
      · rename_i c t fr he
        simp only [Option.some.injEq] at he h2
        subst he
        have h3 := hxm c t fr rfl (by omega)
        subst h3
        exact ⟨c, t, .inl hx⟩
      · cases h2
    · have hlt : b < K.w.heap.size := by
        have h1 := bsize_lt (w := w1) hm
        rw [hw] at h1
        simp at h1
        omega
      have h1 := hold b hlt
      have h2 : bsize K.w b = some m := by
        have : bsize w1 b = some m := hm
        unfold bsize at this ⊢
        rw [← h1]; exact this
      have h3 : m < K.F b := by
        have : m < (if b = K.w.heap.size then n else K.F b) := hF'
        rwa [if_neg e] at this
      obtain ⟨c, t, h4⟩ := hI.mark b m h2 h3
      exact ⟨c, t, by rw [h1]; exact h4⟩

/-- A block becomes an object's. -/
theorem reg_ok (hI : Inv K) (x : AObj) (b : Nat) (hb : b < K.w.heap.size) (hB : K.B ≤ b) (hn : ∀ o, o < K.ι.length → K.at o ≠ b)
    (hob : Ext0 K ⟨K.M ++ [x], K.ι ++ [b], K.F, K.w, K.B⟩ → ObjOK ⟨K.M ++ [x], K.ι ++ [b], K.F, K.w, K.B⟩ b x) :
    Ext0 K ⟨K.M ++ [x], K.ι ++ [b], K.F, K.w, K.B⟩ ∧ Inv ⟨K.M ++ [x], K.ι ++ [b], K.F, K.w, K.B⟩ ∧
      (∀ K0, Ext K0 K → K0.w.heap.size ≤ b → Ext K0 ⟨K.M ++ [x], K.ι ++ [b], K.F, K.w, K.B⟩) ∧ (⟨K.M ++ [x], K.ι ++ [b], K.F, K.w, K.B⟩ : Ctx).at K.M.length = b := by
  have hat : ∀ i, i < K.ι.length → (⟨K.M ++ [x], K.ι ++ [b], K.F, K.w, K.B⟩ : Ctx).at i = K.at i := fun i hi => by
    simp only [Ctx.at, List.getD_eq_getElem?_getD, List.getElem?_append_left hi]
  have hato : (⟨K.M ++ [x], K.ι ++ [b], K.F, K.w, K.B⟩ : Ctx).at K.ι.length = b := by
    simp only [Ctx.at, List.getD_eq_getElem?_getD, List.getElem?_concat_length, Option.getD_some]
  have hM : ∀ i, i < K.ι.length → (K.M ++ [x])[i]? = K.M[i]? := fun i hi => List.getElem?_append_left (by rw [← hI.len]; exact hi)
  have hext : Ext0 K ⟨K.M ++ [x], K.ι ++ [b], K.F, K.w, K.B⟩ := by
    refine ⟨rfl, by simp, fun i hi => ?_, fun i hi => ?_, fun i hi _ => hat i hi, fun i hi _ => hat i hi, fun _ _ hf => ⟨hf, rfl⟩, fun _ _ h => h, Nat.le_refl _, rfl, rfl, rfl⟩
    · simp only [Ctx.E, hM i hi]
    · simp only [Ctx.L, hM i hi]; exact Nat.le_refl _
  have hcase : ∀ i, i < (K.ι ++ [b]).length → i < K.ι.length ∨ i = K.ι.length := fun i hi => by
    simp only [List.length_append, List.length_cons, List.length_nil] at hi
    omega
  refine ⟨hext, ⟨by simp [hI.len], fun i j hi hj hij => ?_, fun i hi => ?_, fun i hi => ?_, fun i hi => ?_, hI.F, hI.baseH, hI.mark, hI.glob⟩, fun K0 h0 hK0 => ?_, by rw [← hI.len]; exact hato⟩
  · rcases hcase i hi with e1 | e1 <;> rcases hcase j hj with e2 | e2
    · rw [hat i e1, hat j e2] at hij; exact hI.inj i j e1 e2 hij
    · subst e2; rw [hat i e1, hato] at hij; exact absurd hij (hn i e1)
    · subst e1; rw [hat j e2, hato] at hij; exact absurd hij.symm (hn j e2)
    · omega
  · rcases hcase i hi with e1 | e1
    · rw [hat i e1]; exact hI.lt i e1
    · subst e1; rw [hato]; exact hb
  · rcases hcase i hi with e1 | e1
    · rw [hat i e1]; exact hI.base i e1
    · subst e1; rw [hato]; exact hB
  · by_cases e1 : i < K.M.length
    · rw [hat i (by rw [hI.len]; exact e1)]
      simp only [List.getElem_append_left e1]
      exact (hI.obj i e1).mono hext rfl rfl
    · have e2 : i = K.M.length := by simp at hi; omega
      subst e2
      have h2 : (⟨K.M ++ [x], K.ι ++ [b], K.F, K.w, K.B⟩ : Ctx).at K.M.length = b := by rw [← hI.len]; exact hato
      rw [h2]
      simp only [List.getElem_concat_length]
      exact hob hext
  · refine ⟨⟨h0.B, by have := h0.len; simp; omega, fun i hi => ?_, fun i hi => ?_, fun i hi hl => ?_, fun i hi he => ?_, h0.F, h0.bsize, h0.heap, h0.os, h0.tape, h0.output⟩, fun i hi => ?_, h0.frame, h0.frameF⟩
    · rw [hext.E i (Nat.lt_of_lt_of_le hi h0.len)]; exact h0.E i hi
    · exact Nat.le_trans (h0.L i hi) (hext.L i (Nat.lt_of_lt_of_le hi h0.len))
    · have hi' := Nat.lt_of_lt_of_le hi h0.len
      rw [hat i hi']
      refine h0.at_ i hi ?_
      rw [← hl]
      simp only [Ctx.L, hM i hi']
    · rw [hat i (Nat.lt_of_lt_of_le hi h0.len)]; exact h0.at0 i hi he
    · rcases hcase i hi with e1 | e1
      · rw [hat i e1]; exact h0.new i e1
      · subst e1; rw [hato]; exact .inr hK0

/-- A new object. -/
theorem alloc_ok (hI : Inv K) (x : AObj) (ob : Obj) (w1 : World) (hw : w1.heap = K.w.heap.push ob) (hos : w1.os = K.w.os) (htape : w1.tape = K.w.tape) (hout : w1.output = K.w.output)
    (hob : ∀ K' : Ctx, Ext0 K K' → K'.w = w1 → K'.F K.w.heap.size = 0 → ObjOK K' K.w.heap.size x) :
    ∃ K' : Ctx, K'.M = K.M ++ [x] ∧ K'.w = w1 ∧ Ext K K' ∧ Inv K' ∧ K'.at K.M.length = K.w.heap.size ∧ K.M.length < K'.ι.length := by
  obtain ⟨e1, i1⟩ := new_ok hI ob w1 0 hw hos htape hout (fun _ _ _ _ h => absurd h (Nat.not_lt_zero _))
  have hb : K.w.heap.size < w1.heap.size := by rw [hw]; simp
  obtain ⟨e2, i2, e3, e4⟩ := reg_ok i1 x K.w.heap.size hb hI.baseH (fun o ho e => by
      have := hI.lt o ho
      have e' : K.at o = K.w.heap.size := e
      omega) (fun h0 => hob _ ⟨(e1.toExt0.B ▸ h0.B).trans rfl, Nat.le_trans e1.len h0.len, fun o ho => (h0.E o (Nat.lt_of_lt_of_le ho e1.len)).trans (e1.E o ho), fun o ho => Nat.le_trans (e1.L o ho) (h0.L o (Nat.lt_of_lt_of_le ho e1.len)),
        fun o ho hl => by
          have h1 := e1.L o ho
          have h2 := h0.L o (Nat.lt_of_lt_of_le ho e1.len)
          exact (h0.at_ o (Nat.lt_of_lt_of_le ho e1.len) (by omega)).trans (e1.at_ o ho (by omega)),
        fun o ho he => (h0.at0 o (Nat.lt_of_lt_of_le ho e1.len) ((e1.E o ho).trans he)).trans (e1.at0 o ho he),
        fun b off hf => ⟨(h0.F b off (e1.F b off hf).1).1, (h0.F b off (e1.F b off hf).1).2.trans (e1.F b off hf).2⟩, fun b n hn => h0.bsize b n (e1.bsize b n hn), Nat.le_trans e1.heap h0.heap, h0.os.trans e1.os, h0.tape.trans e1.tape, h0.output.trans e1.output⟩ rfl (by simp))
  exact ⟨_, rfl, rfl, e3 K e1 (Nat.le_refl _), i2, e4, by simp [hI.len]⟩

/-- A new row of cells, as an object's block. -/
theorem alloc_box (hI : Inv K) {cs : List AV} {vs : List Value} (hr : RepL K cs vs) (hc : cs.all AV.cell = true) (t : TypeId) (w1 : World) (hw : w1 = K.w.alloc (.cells vs.toArray t)) :
    ∃ K' : Ctx, K'.M = K.M ++ [.box t cs] ∧ K'.w = w1 ∧ Ext K K' ∧ Inv K' ∧ K'.at K.M.length = K.w.heap.size ∧ K.M.length < K'.ι.length := by
  subst hw
  refine alloc_ok hI _ (.cells vs.toArray t) _ rfl rfl rfl rfl fun K' e hw hF => ?_
  have hb : K'.w.heap[K.w.heap.size]? = some (.cells vs.toArray t (0, 0)) := by
    rw [hw]
    show (K.w.heap.push _)[K.w.heap.size]? = _
    simp
  exact ⟨vs.toArray, t, (0, 0), hb, by simpa using hr.mono e, fun off ho => by simp [World.frozen?, hb], hF, hc, rfl⟩

theorem alloc_buf (hI : Inv K) {cs : List AV} {vs more : List Value} (hr : RepL K cs vs) (hc : cs.all AV.cell = true) {ez n : Nat} (hz : 0 < ez) (hn : cs.length = n * ez) (t : TypeId) (fr : Nat × Nat) (mk : Bool) (hmk : mk = false → fr.1 = fr.2 ∨ fr.2 ≤ 0) (w1 : World)
    (hw : w1.heap = K.w.heap.push (.cells (vs ++ more).toArray t fr)) (hfr : ∀ off, off < (vs ++ more).length → (decide (fr.1 ≤ off) && decide (off < fr.2)) = false) (hos : w1.os = K.w.os) (htape : w1.tape = K.w.tape) (hout : w1.output = K.w.output) :
    ∃ K' : Ctx, K'.M = K.M ++ [.buf ⟨ez, t, mk⟩ cs n 0] ∧ K'.w = w1 ∧ Ext K K' ∧ Inv K' ∧ K'.at K.M.length = K.w.heap.size ∧ K.M.length < K'.ι.length := by
  refine alloc_ok hI _ (.cells (vs ++ more).toArray t fr) _ hw hos htape hout fun K' e hw' hF => ?_
  have hb : K'.w.heap[K.w.heap.size]? = some (.cells (vs ++ more).toArray t fr) := by rw [hw', hw]; simp
  have hl := hr.length
  refine ⟨(vs ++ more).toArray, t, fr, hb, by simp; omega, ?_, fun off _ ho => ?_, by omega, by omega, hn, hz, hc, rfl, hmk⟩
  · simp only [List.take_append, hl, List.take_length, Nat.sub_self, List.take_zero, List.append_nil]
    exact hr.mono e
  · obtain ⟨lo, hi⟩ := fr
    simp only [World.frozen?, hb]
    exact hfr off (by simpa using ho)

/-- A new row whose cells never turn. -/
theorem alloc_frozen (hI : Inv K) {cs : List AV} {vs : List Value} (hr : RepL K cs vs) (t : TypeId) {n : Nat} (w1 : World) (hw : w1 = K.w.alloc (.cells vs.toArray t)) :
    ∃ K' : Ctx, K'.M = K.M ∧ K'.w = w1 ∧ Ext K K' ∧ Inv K' ∧ Rep K' (.sl cs n .full) (.slice (some (ad K.w.heap.size 0)) n n) := by
  subst hw
  obtain ⟨e1, i1⟩ := new_ok hI (.cells vs.toArray t) (K.w.alloc (.cells vs.toArray t)) (vs.length + 1) rfl rfl rfl rfl (fun c t fr h _ => by cases h; rfl)
  have hb : (K.w.alloc (.cells vs.toArray t)).heap[K.w.heap.size]? = some (.cells vs.toArray t (0, 0)) := by
    show (K.w.heap.push _)[K.w.heap.size]? = _
    simp
  refine ⟨⟨K.M, K.ι, fun b => if b = K.w.heap.size then vs.length + 1 else K.F b, K.w.alloc (.cells vs.toArray t), K.B⟩, rfl, rfl, e1, i1, .sl cs n .full _ n K.w.heap.size 0 vs (hr.mono e1.toExt0) (fun _ => rfl) (fun _ => by simp [hr.length]) (fun j hj => ?_)
    ⟨rfl, K.w.heap.size, 0, vs.length, rfl, hI.baseH, by simp only [bsize, hb]; simp, by simp⟩ (Nat.le_refl _)⟩
  simp only [World.cell?, hb, Option.isSome_none, Bool.false_eq_true, if_false, Nat.zero_add]
  simp [hj]

/-- A row of the program's own making is marked. -/
theorem mark_ok (hI : Inv K) {b n : Nat} (hB : K.B ≤ b) (hn : bsize K.w b = some n) (hm : n < K.F b) :
    Ext K ⟨K.M, K.ι, K.F, K.w.freeze ⟨b, n, none⟩ 1, K.B⟩ ∧ Inv ⟨K.M, K.ι, K.F, K.w.freeze ⟨b, n, none⟩ 1, K.B⟩ := by
  obtain ⟨c, t, hc⟩ := hI.mark b n hn hm
  have hcn : c.size = n := by
    rcases hc with hc | hc <;> (simp only [bsize, hc, Option.some.injEq] at hn; exact hn)
  have hheap : (K.w.freeze ⟨b, n, none⟩ 1).heap = K.w.heap.setIfInBounds b (.cells c t (n, n + 1)) := by
    simp only [World.freeze, Nat.one_ne_zero, if_false]
    apply Array.ext_getElem?
    intro i
    rw [Array.getElem?_modify, Array.getElem?_setIfInBounds]
    have hlt := bsize_lt hn
    by_cases e : b = i
    · subst e
      rcases hc with hc | hc
      · have hv := (Array.getElem?_eq_some_iff.1 hc).2
        simp [hlt, hv]
      · have hv := (Array.getElem?_eq_some_iff.1 hc).2
        simp [hlt, hv]
    · simp [e]
  have hsz : (K.w.freeze ⟨b, n, none⟩ 1).heap.size = K.w.heap.size := by rw [hheap]; simp
  have hother : ∀ i, i ≠ b → (K.w.freeze ⟨b, n, none⟩ 1).heap[i]? = K.w.heap[i]? := fun i hi => by
    rw [hheap, Array.getElem?_setIfInBounds, if_neg (Ne.symm hi)]
  have hthis : (K.w.freeze ⟨b, n, none⟩ 1).heap[b]? = some (.cells c t (n, n + 1)) := by
    rw [hheap, Array.getElem?_setIfInBounds, if_pos rfl, if_pos (bsize_lt hn)]
  have hnot : ∀ o, o < K.M.length → K.at o ≠ b := fun o ho e => by
    have := (hI.obj_F ho).1 n (by rw [e]; exact hn)
    rw [e] at this
    omega
  have hfro : ∀ off, off < c.size → (K.w.freeze ⟨b, n, none⟩ 1).frozen? (ad b off) = K.w.frozen? (ad b off) := fun off ho => by
    simp only [World.frozen?, hthis]
    rcases hc with hc | hc <;> simp only [hc] <;> (simp; omega)
  have hcell : ∀ i off, (K.w.freeze ⟨b, n, none⟩ 1).cell? (ad i off) = K.w.cell? (ad i off) := fun i off => by
    by_cases e : i = b
    · subst e
      simp only [World.cell?, hthis]
      rcases hc with hc | hc <;> simp only [hc]
    · simp only [World.cell?, hother i e]
  have hbs : ∀ i m, bsize K.w i = some m → bsize (K.w.freeze ⟨b, n, none⟩ 1) i = some m := fun i m h => by
    by_cases e : i = b
    · subst e
      rw [hn] at h
      simp only [bsize, hthis]
      rw [hcn]
      exact h
    · unfold bsize at *
      rw [hother i e]
      exact h
  have hext : Ext K ⟨K.M, K.ι, K.F, K.w.freeze ⟨b, n, none⟩ 1, K.B⟩ := by
    refine ⟨⟨rfl, Nat.le_refl _, fun _ _ => rfl, fun _ _ => Nat.le_refl _, fun _ _ _ => rfl, fun _ _ _ => rfl, fun i off hf => ⟨hf, hcell i off⟩, hbs, Nat.le_of_eq hsz.symm, rfl, rfl, rfl⟩, fun i hi => .inl ⟨i, hi, rfl⟩, fun i hi hne => ?_, fun _ _ _ => rfl⟩
    by_cases e : i = b
    · subst e
      rcases hc with hc | hc
      · exact .inr ⟨hB, c, t, _, _, hc, hthis, hfro⟩
      · exact .inr ⟨hB, c, t, _, _, hc, hthis, hfro⟩
    · exact .inl (hother i e)
  refine ⟨hext, hI.len, hI.inj, fun o ho => ?_, hI.base, fun o ho => ?_, fun i hi => ?_, Nat.le_trans hI.baseH hext.heap, fun i m h1 h2 => ?_, hI.glob.ext hext hI.base hI.baseH⟩
  · show K.at o < _
    rw [hsz]
    exact hI.lt o ho
  · exact (hI.obj o ho).mono hext.toExt0 (hother _ (hnot o ho)) rfl
  · show i < _
    rw [hsz]
    exact hI.F i hi
  · by_cases e : i = b
    · subst e
      have h3 := hbs i n hn
      have h4 : some n = some m := h3.symm.trans h1
      simp only [Option.some.injEq] at h4
      subst h4
      exact ⟨c, t, .inr hthis⟩
    · have h3 : bsize K.w i = some m := by
        have : bsize (K.w.freeze ⟨b, n, none⟩ 1) i = some m := h1
        unfold bsize at this ⊢
        rw [← hother i e]
        exact this
      obtain ⟨c', t', h4⟩ := hI.mark i m h3 h2
      exact ⟨c', t', by rw [hother i e]; exact h4⟩
end
end Go.Adm
set_option linter.unusedVariables false
set_option linter.unusedSimpArgs false
namespace Go.Adm
open Go

section
variable {P : Program} {K : Ctx}

theorem Rep.oneCell {x : AV} {v : Value} (h : Rep K x v) (hc : x.cell = true) : v.oneCell' = true := by
  cases h <;> first
    | rfl
    | (simp [AV.cell] at hc)

theorem RepL.oneCell {xs : List AV} {vs : List Value} (h : RepL K xs vs) (hc : xs.all AV.cell = true) : ∀ v ∈ vs, v.oneCell' = true := by
  induction xs generalizing vs with
  | nil => cases h; simp
  | cons x xs ih =>
    cases h with | cons _ v _ vs h t =>
    simp only [List.all_cons, Bool.and_eq_true] at hc
    intro u hu
    rcases List.mem_cons.1 hu with rfl | hu
    · exact h.oneCell hc.1
    · exact ih t hc.2 u hu

theorem writeAt_get_lt {α : Type} (vs : List α) : ∀ (l : List α) (off j : Nat), j < off → (writeAt l off vs)[j]? = l[j]? := by
  induction vs with
  | nil => intro l off j h; rw [writeAt_nil]
  | cons v vs ih =>
    intro l off j h
    rw [writeAt_cons, ih _ _ _ (by omega), List.getElem?_set_ne (by omega)]

theorem writeAt_take {α : Type} (vs : List α) : ∀ (l : List α) (off n : Nat), off + vs.length ≤ n → (writeAt l off vs).take n = writeAt (l.take n) off vs := by
  induction vs with
  | nil => intro l off n h; rw [writeAt_nil, writeAt_nil]
  | cons v vs ih =>
    intro l off n h
    simp only [List.length_cons] at h
    rw [writeAt_cons, writeAt_cons, ih _ _ _ (by omega), List.take_set]

theorem writeAt_all (vs : List AV) : ∀ (l : List AV) (off : Nat), l.all AV.cell = true → vs.all AV.cell = true → (writeAt l off vs).all AV.cell = true := by
  induction vs with
  | nil => intro l off h _; rw [writeAt_nil]; exact h
  | cons v vs ih =>
    intro l off h hv
    simp only [List.all_cons, Bool.and_eq_true] at hv
    rw [writeAt_cons]
    refine ih _ _ ?_ hv.2
    rw [List.all_eq_true] at *
    intro x hx
    rcases List.mem_or_eq_of_mem_set hx with hx | rfl
    · exact h x hx
    · exact hv.1

theorem run_storeCells_w (g o : Nat) (t : TypeId) (fr : Nat × Nat) : ∀ (vs : List Value) (i : Nat) (cur : Array Value) (w : World), w.heap[g]? = some (.cells cur t fr) → o + i + vs.length ≤ cur.size →
    (∀ off, o + i ≤ off → off < cur.size → w.frozen? (ad g off) = false) → (∀ v ∈ vs, v.oneCell' = true) → (storeCells (ad g o) vs i).run P w = .ok () (w.setRow g (writeAt cur.toList (o + i) vs).toArray)
  | [], i, cur, w, hg, _, _, _ => by
    simp only [storeCells, writeAt_nil, Array.toArray_toList]
    rw [setRow_self w g cur t fr hg]
    rfl
  | v :: rest, i, cur, w, hg, hl, hf, h1 => by
    have hi : o + i < cur.size := by simp at hl; omega
    have hcell : w.cell? (ad g (o + i)) = some cur[o + i] := by simp [World.cell?, hg, hi]
    have hfro := hf (o + i) (Nat.le_refl _) hi
    have hst : (store ((ad g o).add i) v).run P w = .ok () (w.setRow g (cur.setIfInBounds (o + i) v)) := by
      rw [ad_add, run_store P w _ v _ (h1 v (by simp)), hcell]
      simp [hfro, setCell_eq_setRow w g (o + i) cur t fr v hg]
    have hg' := setRow_heap w g cur (cur.setIfInBounds (o + i) v) t fr hg
    have ih := run_storeCells_w g o t fr rest (i + 1) (cur.setIfInBounds (o + i) v) (w.setRow g (cur.setIfInBounds (o + i) v)) hg' (by simp at hl ⊢; omega) (fun off ho1 ho => by
      have := hf off (by omega) (by simpa using ho)
      simp only [World.frozen?, hg', hg] at this ⊢
      exact this) (fun x hx => h1 x (by simp [hx]))
    simp only [storeCells, Sem.run_bind, hst, Result.andThen_ok, ih, setRow_setRow]
    congr 3
    rw [Array.toList_setIfInBounds, writeAt_cons, Nat.add_assoc]

theorem size_setRow' (w : World) (g : Nat) (cs : Array Value) : (w.setRow g cs).heap.size = w.heap.size := by simp [World.setRow]

theorem bsize_setRow (w : World) (g : Nat) (cur cs : Array Value) (t : TypeId) (fr : Nat × Nat) (hg : w.heap[g]? = some (.cells cur t fr)) (hl : cs.size = cur.size) (n : Nat) (h : bsize w g = some n) : bsize (w.setRow g cs) g = some n := by
  unfold bsize at *
  rw [setRow_heap w g cur cs t fr hg]
  rw [hg] at h
  simp only [Option.some.injEq] at h ⊢
  omega

/-- What is written into an object. -/
theorem write_ok (hI : Inv K) {x : AV} {v : Value} (hx : Rep K x v) {xs : List AV} {vs : List Value} (hv : RepL K xs vs) (hc : xs.all AV.cell = true) {M' : List AObj} {o : Nat} (h : writeCells K.M x xs = some (M', o)) :
    ∃ a K', v = .pointer (some a) ∧ (storeCells a vs 0).run P K.w = .ok () K'.w ∧ K'.M = M' ∧ Ext K K' ∧ Inv K' := by
  unfold writeCells at h
  have hl := hv.length
  split at h
  · rename_i o' off
    cases hx with | ptr _ _ ho hE =>
    have ho' : o' < K.M.length := by rw [← hI.len]; exact ho
    have hob := hI.obj o' ho'
    rw [List.getElem?_eq_getElem ho'] at h
    split at h
    · rename_i ty ocs he
      simp only [Option.some.injEq] at he
      rw [he] at hob
      split at h
      · rename_i hle
        simp only [Option.some.injEq, Prod.mk.injEq] at h
        obtain ⟨rfl, rfl⟩ := h
        obtain ⟨c, t, fr, h1, h2, h3, h4, h5, h5'⟩ := hob
        have hlc := h2.length
        simp only [Array.length_toList] at hlc
        have hrun := run_storeCells_w (P := P) (K.at o') off t fr vs 0 c K.w h1 (by omega) (fun off' _ ho2 => h3 off' ho2) (hv.oneCell hc)
        have hsz : (writeAt c.toList off vs).toArray.size = c.size := by simp [writeAt_length]
        have hx1 := setRow_heap K.w (K.at o') c (writeAt c.toList off vs).toArray t fr h1
        obtain ⟨e, i⟩ := upd_ok hI ho' (.box ty (writeAt ocs off xs)) (K.at o') (K.w.setRow (K.at o') (writeAt c.toList off vs).toArray) (.inl rfl) (by rw [size_setRow']; exact hI.at_lt ho') (by rw [size_setRow']; exact Nat.le_refl _) rfl rfl rfl
          (fun b hb hne => setRow_other _ _ _ _ hne) (fun n hn => bsize_setRow _ _ _ _ _ _ h1 hsz n hn) (fun off' hf => by rw [h4] at hf; omega)
          (by rw [Ctx.E, List.getElem?_eq_getElem ho', he]; rfl) (by rw [Ctx.L, List.getElem?_eq_getElem ho', he]; exact Nat.le_refl _) (fun _ => rfl) (fun _ => rfl)
          (fun e => ⟨(writeAt c.toList off vs).toArray, t, fr, hx1, by
            have := (hv.writeAt off h2).mono e.toExt0
            simpa using this, fun off' ho2 => by
              have := h3 off' (by omega)
              simp only [World.frozen?, h1] at this
              simp only [World.frozen?, hx1]
              exact this, h4, writeAt_all _ _ _ h5 hc, h5'⟩)
        exact ⟨_, _, rfl, hrun, rfl, e, i⟩
      · cases h
    · cases h
  · rename_i o' ver off
    cases hx with | bp _ _ _ a ho hv' ha =>
    have ho' : o' < K.M.length := by rw [← hI.len]; exact ho
    have hob := hI.obj o' ho'
    rw [List.getElem?_eq_getElem ho'] at h
    split at h
    · rename_i ez ocs v f he
      simp only [Option.some.injEq] at he
      rw [he] at hob
      split at h
      · rename_i hle
        obtain ⟨hle1, hle2, hle⟩ := hle
        simp only [Option.some.injEq, Prod.mk.injEq] at h
        obtain ⟨rfl, rfl⟩ := h
        obtain ⟨c, t, fr, h1, h2, h3, h4, h5, h6, h7, h8, h9, h9'⟩ := hob
        have hL : K.L o' = v := by simp [Ctx.L, List.getElem?_eq_getElem ho', he, verO]
        have hrun := run_storeCells_w (P := P) (K.at o') off t fr vs 0 c K.w h1 (by omega) (fun off' ho1 ho2 => h4 off' (by omega) ho2) (hv.oneCell hc)
        have hsz : (writeAt c.toList off vs).toArray.size = c.size := by simp [writeAt_length]
        have hx1 := setRow_heap K.w (K.at o') c (writeAt c.toList off vs).toArray t fr h1
        obtain ⟨e, i⟩ := upd_ok hI ho' (.buf ez (writeAt ocs off xs) v f) (K.at o') (K.w.setRow (K.at o') (writeAt c.toList off vs).toArray) (.inl rfl) (by rw [size_setRow']; exact hI.at_lt ho') (by rw [size_setRow']; exact Nat.le_refl _) rfl rfl rfl
          (fun b hb hne => setRow_other _ _ _ _ hne) (fun n hn => bsize_setRow _ _ _ _ _ _ h1 hsz n hn) (fun off' hf => by
            have : (writeAt c.toList off vs)[off']? = c.toList[off']? := writeAt_get_lt _ _ _ _ (by omega)
            simp only [World.cell?, hx1, h1, Option.isSome_none, Bool.false_eq_true, if_false]
            simpa using this)
          (by rw [Ctx.E, List.getElem?_eq_getElem ho', he]; rfl) (by rw [hL]; exact Nat.le_refl _) (fun _ => rfl) (fun _ => rfl)
          (fun e => ⟨(writeAt c.toList off vs).toArray, t, fr, hx1, by rw [hsz, writeAt_length]; exact h2, by
            have := (hv.writeAt off h3).mono e.toExt0
            rw [writeAt_length]
            simp only [writeAt_take _ _ _ _ (show off + vs.length ≤ ocs.length by omega)]
            exact this, fun off' ho1 ho2 => by
              have := h4 off' ho1 (by omega)
              simp only [World.frozen?, h1] at this
              simp only [World.frozen?, hx1]
              exact this, h5, by rw [writeAt_length]; exact h6, by rw [writeAt_length]; exact h7, h8, writeAt_all _ _ _ h9 hc, h9'⟩)
        have hae := ha (by omega)
        subst hae
        exact ⟨_, _, rfl, hrun, rfl, e, i⟩
      · cases h
    · cases h
  · cases h
end
end Go.Adm
set_option linter.unusedVariables false
set_option linter.unusedSimpArgs false
namespace Go.Adm
open Go

section
variable {P : Program} {K : Ctx}

/-- What an acting operation comes to. -/
def Acts (P : Program) (K : Ctx) (s : Sem Value) (r : Acted) : Prop := ∃ u K', s.run P K.w = .ok u K'.w ∧ K'.M = r.2.1 ∧ Ext K K' ∧ Inv K' ∧ Rep K' r.1 u
def ActsU (P : Program) (K : Ctx) (s : Sem Unit) (r : Acted) : Prop := ∃ K', s.run P K.w = .ok () K'.w ∧ K'.M = r.2.1 ∧ Ext K K' ∧ Inv K' ∧ r.1 = .un

theorem run_newRow (t : TypeId) (c : Array Value) (w : World) : (newRow t c).run P w = .ok (ad w.heap.size 0) (w.alloc (.cells c t)) := by
  simp [newRow]

theorem ptr_new {K' : Ctx} {cs : List AV} {t : TypeId} (hM : K'.M = K.M ++ [AObj.box t cs]) (hl : K.M.length < K'.ι.length) (ha : K'.at K.M.length = K.w.heap.size) : Rep K' (.ptr K.M.length 0) (.pointer (some (ad K.w.heap.size 0))) := by
  rw [← ha]
  refine .ptr _ _ hl ?_
  simp [Ctx.E, hM, eszO]

theorem box_ok {G : Prg} (hI : Inv K) {x : AV} {v : Value} (hx : Rep K x v) {r : Acted} (t : TypeId) (h : boxOp G K.M t x = some r) : Acts P K (Instr.box t v) r := by
  unfold boxOp at h
  split at h
  · rename_i hc
    simp only [Option.some.injEq] at h
    subst h
    have hr := hx.cells hc
    obtain ⟨K', h1, h2, h3, h4, h5, h6⟩ := alloc_box hI hr hc t (K.w.alloc (.cells v.cells t)) (by simp)
    refine ⟨_, K', ?_, h1, h3, h4, ptr_new h1 h6 h5⟩
    rw [h2]
    simp only [Instr.box, newVar, Sem.run_bind, run_newRow, Result.andThen_ok, Sem.run_pure]
  · cases h

theorem allocI_ok {G : Prg} (hG : PrgOK G P) (hI : Inv K) {t : TypeId} {r : Acted} (h : boxOp G K.M t (G.ty t).zero = some r) (hb : (G.ty t).d ≠ .bad) : Acts P K (Instr.alloc t true (.tuple #[])) r := by
  have hc : (G.ty t).zero.cells.all AV.cell = true := by
    unfold boxOp at h
    split at h
    · assumption
    · cases h
  have hz : zeroOK G P t := by
    rcases hG.ty t with ⟨hb', _⟩ | ⟨_, hz, _⟩
    · exact absurd hb' hb
    · exact hz
  obtain ⟨z, hz1, hz2, _⟩ := zero_ok hz hc
  obtain ⟨u, K', h1, h2⟩ := box_ok (P := P) hI (hz2 K) t h
  refine ⟨u, K', ?_, h2⟩
  simp only [Instr.box, newVar, Sem.run_bind, run_newRow, Result.andThen_ok, Sem.run_pure] at h1
  simp only [Instr.alloc, newVar, Sem.run_bind, hz1, run_newRow, Result.andThen_ok, Sem.run_pure]
  exact h1

theorem store_ok {G : Prg} (hG : PrgOK G P) (hI : Inv K) {t : TypeId} {x y : AV} {v u : Value} (hx : Rep K x v) (hy : Rep K y u) {r : Acted} (h : storeOp G K.M t x y = some r) : ActsU P K (Instr.storeAt t v u) r := by
  unfold storeOp at h
  split at h
  · rename_i hc
    obtain ⟨h1, h2, h3⟩ := hc
    split at h
    · rename_i M' o hw
      simp only [Option.some.injEq] at h
      subst h
      have hr := hy.cells h2
      obtain ⟨a, K', rfl, hrun, hM, e, i⟩ := write_ok (P := P) hI hx hr h2 hw
      have hs : sizeOK G P t := by
        rcases hG.ty t with ⟨_, hz⟩ | ⟨hs, _⟩
        · have := hz.1; simp only [Prg.size] at h3; omega
        · exact hs
      have hl := hr.length
      refine ⟨K', ?_, hM, e, i, rfl⟩
      simp only [Instr.storeAt, Instr.sureAddr, Sem.run_bind, Sem.run_pure, Result.andThen_ok, storeVar, run_sizeOf_ok hs]
      rw [Sem.run_ite, if_neg (by simp only [Array.length_toList] at hl; omega)]
      exact hrun
    · cases h
  · cases h

theorem makeMap_ok (hI : Inv K) (t : TypeId) : Acts P K (Instr.makeMap t none) (.mp K.M.length, K.M ++ [.map [] 0], []) := by
  obtain ⟨K', h1, h2, h3, h4, h5, h6⟩ := alloc_ok hI (.map [] 0) (.map #[] 0) (K.w.alloc (.map #[] 0)) rfl rfl rfl rfl (fun K' e hw hF => ⟨#[], by rw [hw]; show (K.w.heap.push _)[K.w.heap.size]? = _; simp, by simp [RepE], hF⟩)
  refine ⟨.map (some K.w.heap.size), K', ?_, h1, h3, h4, ?_⟩
  · rw [h2]
    simp [Instr.makeMap]
  · rw [← h5]
    exact .mp _ h6 (by simp [Ctx.E, h1, eszO])

theorem repl_length (n : Nat) (z : List AV) : (repl n z).length = n * z.length := by
  induction n with
  | zero => simp [repl]
  | succ n ih => simp [repl, ih, Nat.succ_mul]; omega

theorem repl_all {n : Nat} {z : List AV} (h : z.all AV.cell = true) : (repl n z).all AV.cell = true := by
  induction n with
  | zero => rfl
  | succ n ih => simp [repl, ih, h]

def replV (n : Nat) (z : List Value) : List Value := match n with | 0 => [] | n + 1 => z ++ replV n z

theorem RepL.repl {n : Nat} {z : List AV} {vs : List Value} (h : RepL K z vs) : RepL K (repl n z) (replV n vs) := by
  induction n with
  | zero => exact .nil
  | succ n ih => exact h.append ih

theorem replV_get (n : Nat) (z : List Value) (j : Nat) (hj : j < n * z.length) : (replV n z)[j]? = z[j % z.length]? := by
  induction n generalizing j with
  | zero => simp at hj
  | succ n ih =>
    simp only [replV]
    by_cases h : j < z.length
    · rw [List.getElem?_append_left h, Nat.mod_eq_of_lt h]
    · have h2 : (n + 1) * z.length = n * z.length + z.length := by rw [Nat.add_mul, Nat.one_mul]
      rw [List.getElem?_append_right (by omega), ih (j - z.length) (by omega)]
      congr 1
      exact (Nat.mod_eq_sub_mod (by omega)).symm

theorem replV_length (n : Nat) (z : List Value) : (replV n z).length = n * z.length := by
  induction n with
  | zero => simp [replV]
  | succ n ih => simp [replV, ih, Nat.succ_mul]; omega

theorem range_zero (n : Nat) (z : Array Value) (m : Nat) (hm : m = n * z.size) : ((Array.range m).map (z[· % z.size]!)) = (replV n z.toList).toArray := by
  subst hm
  apply Array.ext'
  apply List.ext_getElem?
  intro j
  by_cases hj : j < n * z.size
  · rw [replV_get n z.toList j (by simpa using hj)]
    have hz : 0 < z.size := by
      rcases Nat.eq_zero_or_pos z.size with h | h
      · rw [h] at hj; simp at hj
      · exact h
    have hmod : j % z.size < z.size := Nat.mod_lt _ hz
    simp [hj, hmod]
  · have h1 : (replV n z.toList).length ≤ j := by rw [replV_length]; simpa using hj
    simp [hj, List.getElem?_eq_none h1]

end
end Go.Adm
set_option linter.unusedVariables false
set_option linter.unusedSimpArgs false
namespace Go.Adm
open Go

section
variable {P : Program} {K : Ctx}

theorem zc_ok {G : Prg} (hG : PrgOK G P) {e : TypeId} (hs : sizeOK G P e) (hc : G.zcell e = true) : ∃ z, (∀ w, (zeroValue e).run P w = .ok z w) ∧ RepL K (G.zc e) z.cells.toList ∧ (G.zc e).length = G.size e ∧ z.cells.size = G.size e := by
  rcases hG.ty e with ⟨_, _, hb⟩ | ⟨_, hz, _⟩
  · simp [Prg.zcell, Prg.zc, hb, AV.cells, AV.cell] at hc
  · obtain ⟨z, hz1, hz2, hz3, hz4⟩ := zero_ok hz hc
    exact ⟨z, hz1, (hz2 K).cells hc, hz3, hz4⟩

theorem buildSlice_ok {G : Prg} (hG : PrgOK G P) (hI : Inv K) {env : List AV} {a : Act} (hE : EnvOK K env a) {t : TypeId} {n : Nat} {ps : List (Nat × Operand)} {r : Acted}
    (h : buildSliceOp G K.M t n (ps.map fun p => (p.1, eval env p.2)) = some r) : Acts P K (Instr.buildSlice t n (ps.map fun p => (p.1, a.eval p.2)).toArray) r := by
  unfold buildSliceOp at h
  obtain ⟨hp1, hp2⟩ := hE.parts ps
  split at h
  · rename_i e hd
    obtain ⟨hu, hs⟩ := slice_ty hG hd
    split at h
    · rename_i hc
      obtain ⟨z, hz1, hz2, hz3, hz4⟩ := zc_ok (K := K) hG hs hc.1
      obtain ⟨cs, hf, rfl⟩ := Option.map_eq_some_iff.1 h
      obtain ⟨us, h1, h2, h3⟩ := fill_ok (place := fun i => some (i * G.size e, G.size e)) (fun i p hi => hi) _ _ _ _ _ hp1 hp2 (hz2.repl (n := n)) hf
      obtain ⟨K', g1, g2, g3, g4, g5⟩ := alloc_frozen hI h2 e (n := n) (K.w.alloc (.cells us.toArray e)) rfl
      refine ⟨_, K', ?_, g1, g3, g4, g5⟩
      rw [g2]
      simp only [Instr.buildSlice, Sem.run_bind, run_underlying_ok hu, Result.andThen_ok, run_sizeOf_ok hs]
      rw [Sem.run_ite, if_neg (by omega), Sem.run_ite]
      by_cases h0 : n * G.size e = 0
      · have hr0 : replV n z.cells.toList = [] := List.eq_nil_of_length_eq_zero (by rw [replV_length]; simp [hz4, h0])
        have hcells : ∀ f : Nat → Value, (Array.range (n * G.size e)).map f = (replV n z.cells.toList).toArray := fun f => by rw [hr0, h0]; simp
        rw [if_pos h0]
        simp only [Sem.run_bind, Sem.run_pure, Result.andThen_ok, hcells, h1, run_newRow]
      · rw [if_neg h0]
        simp only [Sem.run_bind, Sem.run_pure, Result.andThen_ok, hz1, range_zero n z.cells _ (show n * G.size e = n * z.cells.size by rw [hz4]), h1, run_newRow]
    · cases h
  · cases h

theorem makeSlice_ok {G : Prg} (hG : PrgOK G P) (hI : Inv K) {t : TypeId} {l c : AV} {lv cv : Value} (hl : Rep K l lv) (hc : Rep K c cv) {r : Acted} (h : makeSliceOp G K.M t l c = some r) : Acts P K (Instr.makeSlice t lv cv) r := by
  unfold makeSliceOp at h
  split at h
  · rename_i e l' c' hd hln hcn
    obtain ⟨hu, hs⟩ := slice_ty hG hd
    obtain ⟨k, rfl⟩ := natOf_ok hl hln
    obtain ⟨k', rfl⟩ := natOf_ok hc hcn
    split at h
    · rename_i hh
      obtain ⟨h1, h2, h3, h4⟩ := hh
      simp only [Option.some.injEq] at h
      subst h
      obtain ⟨z, hz1, hz2, hz3, hz4⟩ := zc_ok (K := K) hG hs h3
      obtain ⟨i, hi1, hi2, hi3⟩ := hs
      have hb1 : c' * i.bytes ≤ 1000000000 := by rw [hi3]; rw [Nat.mul_add] at h4; omega
      have hb2 : c' ≤ 1000000000 := by rw [Nat.mul_add, Nat.mul_one] at h4; omega
      have hw1 : IntKind.i64.wrap (l' : Int) = l' := by simp [IntKind.wrap, IntKind.bits, IntKind.signed]; omega
      have hw2 : IntKind.i64.wrap (c' : Int) = c' := by simp [IntKind.wrap, IntKind.bits, IntKind.signed]; omega
      have hsplit : replV c' z.cells.toList = replV l' z.cells.toList ++ replV (c' - l') z.cells.toList := by
        have : ∀ a b, replV (a + b) z.cells.toList = replV a z.cells.toList ++ replV b z.cells.toList := fun a b => by
          induction a with
          | zero => simp [replV]
          | succ a ih => rw [Nat.succ_add]; simp [replV, ih]
        rw [← this]
        congr 1
        omega
      obtain ⟨K', g1, g2, g3, g4, g5, g6⟩ := alloc_buf hI (cs := repl l' (G.zc e)) (vs := replV l' z.cells.toList) (more := replV (c' - l') z.cells.toList) hz2.repl (repl_all h3) h2 (n := l') (by rw [repl_length, hz3]) e (0, 0) false (fun _ => .inl rfl)
        (K.w.alloc (.cells (replV l' z.cells.toList ++ replV (c' - l') z.cells.toList).toArray e)) rfl (fun _ _ => by simp) rfl rfl rfl
      refine ⟨.slice (some (ad K.w.heap.size 0)) l' c', K', ?_, g1, g3, g4, ?_⟩
      · rw [g2]
        have ht1 : (typeInfo e).run P K.w = .ok i K.w := by simp [typeInfo, hi1]
        have hsz : (sizeOf e).run P K.w = .ok (G.size e) K.w := by simp [sizeOf, typeInfo, hi1, hi2]
        have hb3 : ¬ ((i.bytes : Int) * (c' : Int) > 2 ^ 48) := by
          rw [← Int.natCast_mul, Nat.mul_comm]
          omega
        have hb4 : ¬ ((i.bytes : Int) * (l' : Int) > 2 ^ 48) := by
          have : i.bytes * l' ≤ i.bytes * c' := Nat.mul_le_mul_left _ h1
          rw [← Int.natCast_mul]
          rw [Nat.mul_comm] at hb1
          omega
        have hcond : (decide ((c' : Int) < 0) || decide ((i.bytes : Int) * (c' : Int) > 2 ^ 48) || decide ((l' : Int) < 0) || decide ((l' : Int) > (c' : Int))) = false := by
          simp only [Bool.or_eq_false_iff, decide_eq_false_iff_not]
          exact ⟨⟨⟨by omega, hb3⟩, by omega⟩, by omega⟩
        simp only [Instr.makeSlice, Sem.run_bind, run_underlying_ok hu, Result.andThen_ok, asInt, asIntOf, Sem.run_pure, ht1, hw1, hw2, hcond, Bool.false_eq_true, if_false, run_askRoom, hsz, Int.toNat_natCast]
        rw [Sem.run_ite]
        by_cases h0 : c' * G.size e = 0
        · have hr0 : replV c' z.cells.toList = [] := List.eq_nil_of_length_eq_zero (by rw [replV_length]; simp [hz4, h0])
          have hcells : ∀ f : Nat → Value, (Array.range (c' * G.size e)).map f = (replV c' z.cells.toList).toArray := fun f => by rw [hr0, h0]; simp
          rw [if_pos h0]
          simp only [Sem.run_bind, Sem.run_pure, Result.andThen_ok, hcells, run_newRow, hsplit]
        · rw [if_neg h0]
          simp only [Sem.run_bind, Sem.run_pure, Result.andThen_ok, hz1, range_zero c' z.cells _ (show c' * G.size e = c' * z.cells.size by rw [hz4]), run_newRow, hsplit]
      · refine .bsl _ _ _ _ _ _ _ g6 (by simp [Ctx.L, g1, verO]) (fun _ _ => ⟨by rw [g5], _, ?_, Nat.le_refl _⟩) h1 (by simp)
        rw [g5, g2]
        have hb : (K.w.alloc (.cells (replV l' z.cells.toList ++ replV (c' - l') z.cells.toList).toArray e)).heap[K.w.heap.size]? = some (.cells (replV l' z.cells.toList ++ replV (c' - l') z.cells.toList).toArray e (0, 0)) := by
          show (K.w.heap.push _)[K.w.heap.size]? = _
          simp
        simp only [bsize, hb]
        congr 1
        rw [← hsplit, List.size_toArray, replV_length]
        simp [hz4]
    · cases h
  · cases h
end
end Go.Adm
set_option linter.unusedVariables false
set_option linter.unusedSimpArgs false
namespace Go.Adm
open Go

section
variable {P : Program} {K : Ctx}

def bytesV (c : List UInt8) : List Value := c.map fun (b : UInt8) => Value.int .u8 (b.toNat : Int)

theorem RepL.bytes (c : List UInt8) : RepL K (bytesOf c) (bytesV c) := by
  induction c with
  | nil => exact .nil
  | cons b c ih => exact .cons _ _ _ _ (.i _ _) ih

theorem bytesOf_all (c : List UInt8) : (bytesOf c).all AV.cell = true := by
  induction c with
  | nil => rfl
  | cons b c ih => simp [bytesOf, AV.cell]

theorem freeze_heap {w : World} {b : Nat} {c : Array Value} {t : TypeId} (h : w.heap[b]? = some (.cells c t (0, 0))) (off : Nat) : (w.freeze ⟨b, off, none⟩ 1).heap = w.heap.setIfInBounds b (.cells c t (off, off + 1)) := by
  obtain ⟨hlt, hv⟩ := Array.getElem?_eq_some_iff.1 h
  simp only [World.freeze, Nat.one_ne_zero, if_false]
  apply Array.ext_getElem?
  intro i
  rw [Array.getElem?_modify, Array.getElem?_setIfInBounds]
  by_cases e : b = i
  · subst e
    simp [hlt, hv]
  · simp [e]

theorem run_markStringish {w : World} {b : Nat} {c : Array Value} {t : TypeId} {fr : Nat × Nat} (h : w.heap[b]? = some (.cells c t fr)) (off : Nat) :
    (markStringish (ad b off)).run P w = .ok () (w.freeze ⟨b, c.size, none⟩ 1) := by
  have hs : w.shape? b = some (t, c.size) := by simp [World.shape?, h]
  simp only [markStringish, Sem.run_bind, run_shape, hs, Result.andThen_ok, run_freeze]

theorem conv_ok {G : Prg} (hG : PrgOK G P) (hI : Inv K) {src dst : TypeId} {x : AV} {v : Value} (hx : Rep K x v) {r : Acted} (h : convOp G K.M src dst x = some r) : Acts P K (convert src dst v) r := by
  unfold convOp at h
  split at h
  · rename_i e c hs hd
    have hu1 := str_ty hG hs
    obtain ⟨hu2, _⟩ := slice_ty hG hd
    split at h
    · rename_i he
      have hu3 := int_ty hG he
      simp only [Option.some.injEq] at h
      subst h
      cases hx
      let cap := c.length + K.w.tape K.w.drawn (.appendCap c.length 0 e) % (2 ^ 63 - c.length)
      let row : Array Value := (bytesV c ++ List.replicate (cap - c.length) (Value.int .u8 0)).toArray
      let w0 : World := K.w.drew.alloc (.cells row e)
      have hb0 : w0.heap[K.w.heap.size]? = some (.cells row e (0, 0)) := by
        show (K.w.heap.push _)[K.w.heap.size]? = _
        simp
      have hheap : (w0.freeze ⟨K.w.heap.size, row.size, none⟩ 1).heap = K.w.heap.push (.cells row e (row.size, row.size + 1)) := by
        rw [freeze_heap hb0]
        show (K.w.heap.push _).setIfInBounds K.w.heap.size _ = _
        apply Array.ext_getElem?
        intro i
        rw [Array.getElem?_setIfInBounds, Array.getElem?_push, Array.getElem?_push]
        by_cases e1 : K.w.heap.size = i
        · subst e1; simp
        · simp [e1, Ne.symm e1]
      have hwf : (w0.freeze ⟨K.w.heap.size, row.size, none⟩ 1).os = K.w.os ∧ (w0.freeze ⟨K.w.heap.size, row.size, none⟩ 1).tape = K.w.tape ∧ (w0.freeze ⟨K.w.heap.size, row.size, none⟩ 1).output = K.w.output := ⟨rfl, rfl, rfl⟩
      obtain ⟨K', g1, g2, g3, g4, g5, g6⟩ := alloc_buf hI (RepL.bytes c) (bytesOf_all c) (ez := 1) (n := c.length) (more := List.replicate (cap - c.length) (Value.int .u8 0)) (Nat.one_pos) (by simp [bytesOf]) e (row.size, row.size + 1) true (fun h => by cases h)
        (w0.freeze ⟨K.w.heap.size, row.size, none⟩ 1) hheap (fun off ho => by
          have : off < row.size := by simpa [row] using ho
          simp
          omega) hwf.1 hwf.2.1 hwf.2.2
      refine ⟨.slice (some (ad K.w.heap.size 0)) c.length cap, K', ?_, g1, g3, g4, ?_⟩
      · rw [g2]
        have hsz : (ByteArray.mk c.toArray).size = c.length := by simp [ByteArray.size]
        have hq : (Question.appendCap c.length 0 e).forced = false := rfl
        simp only [convert, Sem.run_bind, run_underlying_ok hu1, run_underlying_ok hu2, Result.andThen_ok, run_underlying_ok hu3, Conv.stringToBytes, run_choose, hq, Bool.false_eq_true, if_false, hsz, Question.cut, Sem.run_bind, run_newRow, Sem.run_pure]
        have hrow : (Array.map (fun (b : UInt8) => Value.int .u8 (b.toNat : Int)) c.toArray ++ Array.replicate (cap - c.length) (Value.int .u8 0)) = row := by
          apply Array.ext'
          simp [row, bytesV]
        have hms := run_markStringish (P := P) hb0 0
        show (Sem.run P (markStringish (ad K.w.heap.size 0)) (K.w.drew.alloc (Obj.cells (Array.map (fun (b : UInt8) => Value.int .u8 (b.toNat : Int)) c.toArray ++ Array.replicate (cap - c.length) (Value.int .u8 0)) e))).andThen _ = _
        rw [hrow]
        rw [hms]
        rfl
      · refine .bsl _ _ _ _ _ _ _ g6 (by simp [Ctx.L, g1, verO]) (fun _ _ => ⟨by rw [g5], _, ?_, Nat.le_refl _⟩) (by simp [cap]) (by simp)
        rw [g5, g2]
        have hb : (w0.freeze ⟨K.w.heap.size, row.size, none⟩ 1).heap[K.w.heap.size]? = some (.cells row e (row.size, row.size + 1)) := by rw [hheap]; simp
        simp only [bsize, hb]
        congr 1
        simp [row, cap, bytesV]
    · cases h
  · rename_i e' e cs n hs hd
    split at h
    · rename_i he
      split at h
      · rename_i hsd
        subst hsd
        rw [hs] at hd
        cases hd
        obtain ⟨hu, _⟩ := slice_ty hG hs
        have hu3 := int_ty hG he
        simp only [Option.some.injEq] at h
        subst h
        cases hx with | sl _ _ _ a c b off vs hr ha hf hcell hk hc =>
        obtain ⟨rfl, b', off', n, rfl, hB, hn, hm⟩ := hk
        obtain ⟨e1, i1⟩ := mark_ok hI hB hn hm
        have hms : (markStringish (ad b' off')).run P K.w = .ok () (K.w.freeze ⟨b', n, none⟩ 1) := by
          unfold bsize at hn
          split at hn
          · rename_i c' t' fr' hh
            simp only [Option.some.injEq] at hn
            subst hn
            exact run_markStringish hh off'
          · cases hn
        refine ⟨.slice (some (ad b' off')) c c, ⟨K.M, K.ι, K.F, K.w.freeze ⟨b', n, none⟩ 1, K.B⟩, ?_, rfl, e1, i1, (Rep.sl cs c .full _ c b off vs hr ha hf hcell ⟨rfl, b', off', n, rfl, hB, hn, hm⟩ hc).mono e1.toExt0⟩
        simp only [convert, Sem.run_bind, run_underlying_ok hu, run_underlying_ok hu3, Result.andThen_ok, beq_self_eq_true, hms, Sem.run_pure]
      · cases h
    · cases h
  · cases h
end
end Go.Adm
set_option linter.unusedVariables false
set_option linter.unusedSimpArgs false
namespace Go.Adm
open Go

section
variable {P : Program} {K : Ctx}

theorem RepE.set {es : List (AV × AV × Nat)} {ents : List MapEntry} (h : RepE K es ents) (i : Nat) {k x : AV} {bn : Nat} {e : MapEntry} (hk : Rep K k e.key) (hx : Rep K x e.val) (hb : bn = e.born) : RepE K (es.set i (k, x, bn)) (ents.set i e) := by
  refine ⟨by simpa using h.1, fun j h1 h2 => ?_⟩
  simp only [List.length_set] at h1 h2
  by_cases e1 : i = j
  · subst e1
    simp only [List.getElem_set_self]
    exact ⟨hk, hx, hb⟩
  · simp only [List.getElem_set_ne e1]
    exact h.2 j h1 h2

theorem RepE.push {es : List (AV × AV × Nat)} {ents : List MapEntry} (h : RepE K es ents) {k x : AV} {bn : Nat} {e : MapEntry} (hk : Rep K k e.key) (hx : Rep K x e.val) (hb : bn = e.born) : RepE K (es ++ [(k, x, bn)]) (ents ++ [e]) := by
  refine ⟨by simp [h.1], fun j h1 h2 => ?_⟩
  simp only [List.length_append, List.length_cons, List.length_nil] at h1 h2
  by_cases e1 : j < es.length
  · have e2 : j < ents.length := by rw [← h.1]; exact e1
    simp only [List.getElem_append_left e1, List.getElem_append_left e2]
    exact h.2 j e1 e2
  · have e3 : j = es.length := by omega
    subst e3
    have := h.1
    simp only [List.getElem_concat_length]
    have e4 : (ents ++ [e])[es.length]'(by simp; omega) = e := by simp only [this, List.getElem_concat_length]
    rw [e4]
    exact ⟨hk, hx, hb⟩

theorem RepE.erase {es : List (AV × AV × Nat)} {ents : List MapEntry} (h : RepE K es ents) (i : Nat) : RepE K (es.eraseIdx i) (ents.eraseIdx i) := by
  induction i generalizing es ents with
  | zero =>
    cases es <;> cases ents <;> first | exact h | exact h.tail | (simp [RepE] at h)
  | succ i ih =>
    cases es with
    | nil => cases ents <;> first | exact h | (simp [RepE] at h)
    | cons x es =>
      cases ents with
      | nil => simp [RepE] at h
      | cons e ents =>
        have h1 := ih h.tail
        have h0 := h.2 0 (by simp) (by simp)
        refine ⟨by simp [h1.1], fun j h2 h3 => ?_⟩
        cases j with
        | zero => exact h0
        | succ j =>
          have h4 : j < (es.eraseIdx i).length := by simpa using h2
          have h5 : j < (ents.eraseIdx i).length := by simpa using h3
          exact h1.2 j h4 h5

/-- A map is turned. -/
theorem map_ok (hI : Inv K) {o : Nat} (ho : o < K.ι.length) (hE : K.E o = 0) {es es' : List (AV × AV × Nat)} {c c' : Nat} {ents ents' : Array MapEntry} (hm : K.M[o]? = some (.map es c)) (hh : K.w.heap[K.at o]? = some (.map ents c)) (he : RepE K es' ents'.toList) :
    ∃ K' : Ctx, K'.w = { K.w with heap := K.w.heap.setIfInBounds (K.at o) (.map ents' c') } ∧ K'.M = K.M.set o (.map es' c') ∧ Ext K K' ∧ Inv K' := by
  have ho' : o < K.M.length := by rw [← hI.len]; exact ho
  have hlt := hI.at_lt ho'
  have hF : K.F (K.at o) = 0 := (hI.obj_F ho').2 (by simp [bsize, hh])
  have hL : K.L o = 0 := by simp [Ctx.L, hm, verO]
  obtain ⟨e, i⟩ := upd_ok hI ho' (.map es' c') (K.at o) { K.w with heap := K.w.heap.setIfInBounds (K.at o) (.map ents' c') } (.inl rfl) (by simpa using hlt) (by simp) rfl rfl rfl
    (fun b hb hne => by simp [Array.getElem?_setIfInBounds, Ne.symm hne]) (fun n hn => by simp [bsize, hh] at hn) (fun off hf => by omega)
    (by rw [hE]; rfl) (by rw [hL]; exact Nat.zero_le _) (fun _ => rfl) (fun _ => rfl)
    (fun e => ⟨ents', by simp [Array.getElem?_setIfInBounds, hlt], he.mono e.toExt0, hF⟩)
  exact ⟨_, rfl, rfl, e, i⟩

theorem run_setObj_map {w : World} {b : Nat} {ents : Array MapEntry} {c : Nat} (h : w.heap[b]? = some (.map ents c)) (ob : Obj) : (setObj b ob).run P w = .ok () { w with heap := w.heap.setIfInBounds b ob } := by
  simp only [setObj, Sem.run, h]

theorem isKey_same {kd : TyD} {k k' : AV} {v v' : Value} (h : kindEq kd k k' = some true) (hk : Rep K k v) (hk' : Rep K k' v') : Instr.sameBits 10000 v' v = true := by
  unfold kindEq at h
  split at h
  · cases hk; cases hk'
    simp only [Option.some.injEq, beq_iff_eq] at h
    subst h
    simp [Instr.sameBits]
  · cases hk; cases hk'
    split at h
    · rename_i e
      simp only [Option.some.injEq, beq_iff_eq] at h
      subst h; subst e
      simp [Instr.sameBits]
    · cases h
  · cases hk; cases hk'
    simp only [Option.some.injEq, beq_iff_eq] at h
    subst h
    simp [Instr.sameBits, beq_toListBytes]
  · cases h

theorem modify_set {ents : Array MapEntry} {i : Nat} {e : MapEntry} (h : ents.toList[i]? = some e) (f : MapEntry → MapEntry) : (ents.modify i f).toList = ents.toList.set i (f e) := by
  apply List.ext_getElem?
  intro j
  rw [Array.getElem?_toList, Array.getElem?_modify, List.getElem?_set]
  obtain ⟨hlt, hv⟩ := List.getElem?_eq_some_iff.1 h
  by_cases e1 : i = j
  · subst e1
    have hlt' : i < ents.size := by simpa using hlt
    simp at hv
    simp [hlt', hv]
  · simp [e1]

theorem mapSet_ok {G : Prg} (hG : PrgOK G P) (hI : Inv K) {t : TypeId} {m k x : AV} {mv kv xv : Value} (hm : Rep K m mv) (hk : Rep K k kv) (hx : Rep K x xv) {r : Acted} (h : mapSetOp G K.M t m k x = some r) :
    ActsU P K (Instr.mapUpdate t mv kv xv) r := by
  unfold mapSetOp at h
  split at h
  · rename_i kt e o hd
    obtain ⟨hu, hkt, hz⟩ := map_ty hG hd
    cases hm with | mp _ ho hE =>
    split at h
    · rename_i hc
      split at h
      · rename_i es c hmo
        obtain ⟨ents, h1, h2⟩ := obj_map hI ho hmo
        have hgo := run_getObj_map (P := P) h1
        have hck : (Instr.checkKey false 10000 kt kv).run P K.w = .ok () K.w := run_checkKey_kind hkt false 9999 kv K.w
        split at h
        · rename_i j x0 born hfe
          obtain ⟨d, hd', hcase⟩ := findEntry_ok hk hkt es ents.toList 0 _ h2 hfe
          simp only [Option.some.injEq] at h
          subst h
          rcases hcase with ⟨h3, _⟩ | ⟨j', x', born', en, h3, h4, h5, ⟨k', h6, h7⟩, h8⟩
          · cases h3
          · simp only [Option.some.injEq, Prod.mk.injEq] at h3
            obtain ⟨rfl, rfl, rfl⟩ := h3
            simp only [Nat.sub_zero] at h5 h6
            obtain ⟨g1, g2⟩ := List.getElem?_eq_some_iff.1 h5
            obtain ⟨g3, g4⟩ := List.getElem?_eq_some_iff.1 h6
            have hr := h2.2 j g3 g1
            rw [g4, g2] at hr
            have hfk := run_findKey_now (P := P) hd' h8 K.w
            have hkk : ents[j]? = some en := by rw [← Array.getElem?_toList]; exact h5
            have hsb := isKey_same h7 hk hr.1
            have hkeep : (Instr.keyThatStays en.key kv).run P K.w = .ok kv K.w := by simp [Instr.keyThatStays, hsb]
            obtain ⟨K', g5, g6, g7, g8⟩ := map_ok hI ho hE (c' := c) (ents' := ents.modify j fun e => { e with key := kv, val := xv }) hmo h1 (es' := es.set j (k, x, born)) (by
              rw [modify_set h5]
              exact h2.set j hk hx hr.2.2)
            refine ⟨K', ?_, g6, g7, g8, rfl⟩
            rw [g5]
            simp only [Instr.mapUpdate, Sem.run_bind, run_underlying_ok hu, Result.andThen_ok, hgo, hck, hfk, hkk, Option.map_some, Option.getD_some, hkeep, run_setObj_map h1]
        · rename_i hfe
          obtain ⟨d, hd', hcase⟩ := findEntry_ok hk hkt es ents.toList 0 _ h2 hfe
          simp only [Option.some.injEq] at h
          subst h
          rcases hcase with ⟨_, h8⟩ | ⟨j', x', born', en, h3, _⟩
          · have hfk := run_findKey_now (P := P) hd' h8 K.w
            obtain ⟨K', g5, g6, g7, g8⟩ := map_ok hI ho hE (c' := c + 1) (ents' := ents.push { key := kv, val := xv, born := c }) hmo h1 (es' := es ++ [(k, x, c)]) (by
              rw [Array.toList_push]
              exact h2.push hk hx rfl)
            refine ⟨K', ?_, g6, g7, g8, rfl⟩
            rw [g5]
            simp only [Instr.mapUpdate, Sem.run_bind, run_underlying_ok hu, Result.andThen_ok, hgo, hck, hfk, run_setObj_map h1]
          · cases h3
        · cases h
      · cases h
    · cases h
  · cases h

end
end Go.Adm
set_option linter.unusedVariables false
set_option linter.unusedSimpArgs false
namespace Go.Adm
open Go

section
variable {P : Program} {K : Ctx}

theorem mapEntry_ok {G : Prg} (hG : PrgOK G P) (hI : Inv K) {t : TypeId} {m k : AV} {mv kv : Value} (hm : Rep K m mv) (hk : Rep K k kv) {r : Acted} (h : mapEntryOp G K.M t m k = some r) :
    Acts P K (Instr.mapEntry t mv kv) r := by
  unfold mapEntryOp at h
  split at h
  · rename_i kt e o hd
    obtain ⟨hu, hkt, hz⟩ := map_ty hG hd
    cases hm with | mp _ ho hE =>
    split at h
    · rename_i hc
      obtain ⟨z, hz1, hz2, _⟩ := zero_ok hz hc.2
      split at h
      · rename_i es c hmo
        obtain ⟨ents, h1, h2⟩ := obj_map hI ho hmo
        have hgo := run_getObj_map (P := P) h1
        have hck : (Instr.checkKey false 10000 kt kv).run P K.w = .ok () K.w := run_checkKey_kind hkt false 9999 kv K.w
        split at h
        · rename_i j x0 born hfe
          obtain ⟨d, hd', hcase⟩ := findEntry_ok hk hkt es ents.toList 0 _ h2 hfe
          simp only [Option.some.injEq] at h
          subst h
          rcases hcase with ⟨h3, _⟩ | ⟨j', x', born', en, h3, h4, h5, ⟨k', h6, h7⟩, h8⟩
          · cases h3
          · simp only [Option.some.injEq, Prod.mk.injEq] at h3
            obtain ⟨rfl, rfl, rfl⟩ := h3
            simp only [Nat.sub_zero] at h5 h6
            obtain ⟨g1, g2⟩ := List.getElem?_eq_some_iff.1 h5
            obtain ⟨g3, g4⟩ := List.getElem?_eq_some_iff.1 h6
            have hr := h2.2 j g3 g1
            rw [g4, g2] at hr
            have hfk := run_findKey_now (P := P) hd' h8 K.w
            have hkk : ents[j]? = some en := by rw [← Array.getElem?_toList]; exact h5
            have hsb := isKey_same h7 hk hr.1
            have hkeep : (Instr.keyThatStays en.key kv).run P K.w = .ok kv K.w := by simp [Instr.keyThatStays, hsb]
            obtain ⟨K', g5, g6, g7, g8⟩ := map_ok hI ho hE (c' := c) (ents' := ents.modify j fun e => { e with key := kv }) hmo h1 (es' := es.set j (k, x0, born)) (by
              rw [modify_set h5]
              exact h2.set j hk hr.2.1 hr.2.2)
            refine ⟨.tuple #[en.val, goInt en.born], K', ?_, g6, g7, g8, .tup [_, _] [_, _] (.cons _ _ _ _ (hr.2.1.mono g7.toExt0) (.cons _ _ _ _ (by have hb : born = en.born := hr.2.2; rw [hb]; exact .i _ _) .nil))⟩
            rw [g5]
            simp only [Instr.mapEntry, Sem.run_bind, run_underlying_ok hu, Result.andThen_ok, hgo, hck, hfk, hkk, Option.map_some, Option.getD_some, hkeep, run_setObj_map h1, Sem.run_pure]
        · rename_i hfe
          obtain ⟨d, hd', hcase⟩ := findEntry_ok hk hkt es ents.toList 0 _ h2 hfe
          simp only [Option.some.injEq] at h
          subst h
          rcases hcase with ⟨_, h8⟩ | ⟨j', x', born', en, h3, _⟩
          · have hfk := run_findKey_now (P := P) hd' h8 K.w
            obtain ⟨K', g5, g6, g7, g8⟩ := map_ok hI ho hE (c' := c + 1) (ents' := ents.push { key := kv, val := z, born := c }) hmo h1 (es' := es ++ [(k, (G.ty e).zero, c)]) (by
              rw [Array.toList_push]
              exact h2.push hk (hz2 K) rfl)
            refine ⟨.tuple #[z, goInt c], K', ?_, g6, g7, g8, .tup [_, _] [_, _] (.cons _ _ _ _ (hz2 K') (.cons _ _ _ _ (.i _ _) .nil))⟩
            rw [g5]
            simp only [Instr.mapEntry, Sem.run_bind, run_underlying_ok hu, Result.andThen_ok, hgo, hck, hfk, hz1, run_setObj_map h1, Sem.run_pure]
          · cases h3
        · cases h
      · cases h
    · cases h
  · cases h

theorem findBorn_ok {born : Int} : ∀ (es : List (AV × AV × Nat)) (ents : List MapEntry) (i j : Nat) (k : AV) (bn : Nat), RepE K es ents → findBorn born es i = some (j, k, bn) →
    ∃ e, i ≤ j ∧ ents[j - i]? = some e ∧ Rep K k e.key ∧ bn = e.born ∧ ents.findIdx? (fun e => (e.born : Int) == born) = some (j - i) := by
  intro es
  induction es with
  | nil => intro ents i j k bn hr h; simp [findBorn] at h
  | cons x es ih =>
    intro ents i j k bn hr h
    cases ents with
    | nil => simp [RepE] at hr
    | cons e ents =>
      obtain ⟨k0, v0, b0⟩ := x
      have h0 := hr.2 0 (by simp) (by simp)
      simp only [List.getElem_cons_zero] at h0
      simp only [findBorn] at h
      split at h
      · rename_i hb
        simp only [Option.some.injEq, Prod.mk.injEq] at h
        obtain ⟨rfl, rfl, rfl⟩ := h
        refine ⟨e, Nat.le_refl _, by simp, h0.1, h0.2.2, ?_⟩
        rw [List.findIdx?_cons, ← h0.2.2, hb]
        simp
      · rename_i hb
        obtain ⟨e', h1, h2, h3, h4, h5⟩ := ih ents (i + 1) j k bn hr.tail h
        have e1 : j - i = (j - (i + 1)) + 1 := by omega
        refine ⟨e', by omega, by rw [e1]; simpa using h2, h3, h4, ?_⟩
        rw [List.findIdx?_cons, ← h0.2.2]
        have hb' : ((b0 : Int) == born) = false := by simpa using hb
        simp only [hb', Bool.false_eq_true, if_false, h5, Option.map_some, e1]

theorem entryStore_ok (hI : Inv K) {t : TypeId} {m st x : AV} {mv sv xv : Value} (hm : Rep K m mv) (hs : Rep K st sv) (hx : Rep K x xv) {r : Acted} (h : entryStoreOp K.M m st x = some r) :
    ActsU P K (Instr.entryStore t mv sv xv) r := by
  unfold entryStoreOp at h
  split at h
  · rename_i o k born
    cases hm with | mp _ ho hE =>
    cases hs
    split at h
    · split at h
      · rename_i es c hmo
        obtain ⟨ents, h1, h2⟩ := obj_map hI ho hmo
        have hgo := run_getObj_map (P := P) h1
        split at h
        · rename_i i ky bn hfb
          simp only [Option.some.injEq] at h
          subst h
          obtain ⟨e, _, h4, h5, h6, h7⟩ := findBorn_ok es ents.toList 0 i ky bn h2 hfb
          simp only [Nat.sub_zero] at h4 h7
          have hfi : ents.findIdx? (fun e => (e.born : Int) == born) = some i := by cases ents; simpa using h7
          obtain ⟨K', g5, g6, g7, g8⟩ := map_ok hI ho hE (c' := c) (ents' := ents.modify i fun e => { e with val := xv }) hmo h1 (es' := es.set i (ky, x, bn)) (by
            rw [modify_set h4]
            exact h2.set i h5 hx h6)
          refine ⟨K', ?_, g6, g7, g8, rfl⟩
          rw [g5]
          simp only [Instr.entryStore, Sem.run_bind, Result.andThen_ok, hgo, asInt, asIntOf, Sem.run_pure, hfi, run_setObj_map h1]
        · cases h
      · cases h
    · cases h
  · cases h

theorem delete_ok {G : Prg} (hG : PrgOK G P) (hI : Inv K) {t ty : TypeId} {ts : List TypeId} {m k : AV} {mv kv : Value} (hm : Rep K m mv) (hk : Rep K k kv) {r : Acted} (h : deleteOp G K.M t m k = some r) :
    Acts P K (Builtin.delete_ (t :: ts).toArray ty #[mv, kv]) r := by
  have h0 : (t :: ts).toArray[0]? = some t := rfl
  have ha0 : (#[mv, kv] : Array Value)[0]? = some mv := rfl
  have ha1 : (#[mv, kv] : Array Value)[1]? = some kv := rfl
  unfold deleteOp at h
  split at h
  · split at h
    · rename_i hd
      obtain ⟨hu, hkt, hz⟩ := map_ty hG hd
      cases hm
      simp only [Option.some.injEq] at h
      subst h
      refine ⟨.tuple #[], K, ?_, rfl, Ext.refl K, hI, .tup [] [] .nil⟩
      have hck := run_checkKey_kind (P := P) hkt true 9999 kv K.w
      simp only [Builtin.delete_, h0, ha0, ha1, Sem.run_bind, run_underlying_ok hu, Result.andThen_ok, hck, Sem.run_pure]
    · rename_i kt e o hd
      obtain ⟨hu, hkt, hz⟩ := map_ty hG hd
      cases hm with | mp _ ho hE =>
      split at h
      · rename_i es c hmo
        obtain ⟨ents, h1, h2⟩ := obj_map hI ho hmo
        have hgo := run_getObj_map (P := P) h1
        have hck : ∀ b, (Instr.checkKey b 10000 kt kv).run P K.w = .ok () K.w := fun b => run_checkKey_kind hkt b 9999 kv K.w
        split at h
        · rename_i j x0 born hfe
          obtain ⟨d, hd', hcase⟩ := findEntry_ok hk hkt es ents.toList 0 _ h2 hfe
          simp only [Option.some.injEq] at h
          subst h
          rcases hcase with ⟨h3, _⟩ | ⟨j', x', born', en, h3, h4, h5, ⟨k', h6, h7⟩, h8⟩
          · cases h3
          · simp only [Option.some.injEq, Prod.mk.injEq] at h3
            obtain ⟨rfl, rfl, rfl⟩ := h3
            have hfk := run_findKey_now (P := P) hd' h8 K.w
            obtain ⟨K', g5, g6, g7, g8⟩ := map_ok hI ho hE (c' := c) (ents' := ents.eraseIdxIfInBounds j) hmo h1 (es' := es.eraseIdx j) (by
              rw [Array.toList_eraseIdxIfInBounds]
              exact h2.erase j)
            refine ⟨.tuple #[], K', ?_, g6, g7, g8, .tup [] [] .nil⟩
            rw [g5]
            simp only [Builtin.delete_, h0, ha0, ha1, Sem.run_bind, run_underlying_ok hu, Result.andThen_ok, hgo, hck, hfk, run_setObj_map h1, Sem.run_pure]
        · rename_i hfe
          obtain ⟨d, hd', hcase⟩ := findEntry_ok hk hkt es ents.toList 0 _ h2 hfe
          simp only [Option.some.injEq] at h
          subst h
          rcases hcase with ⟨_, h8⟩ | ⟨j', x', born', en, h3, _⟩
          · have hfk := run_findKey_now (P := P) hd' h8 K.w
            obtain ⟨K', g5, g6, g7, g8⟩ := map_ok hI ho hE (c' := c) (ents' := ents) hmo h1 (es' := es) h2
            refine ⟨.tuple #[], K', ?_, g6, g7, g8, .tup [] [] .nil⟩
            rw [g5]
            simp only [Builtin.delete_, h0, ha0, ha1, Sem.run_bind, run_underlying_ok hu, Result.andThen_ok, hgo, hck, hfk, run_setObj_map h1, Sem.run_pure]
          · cases h3
        · cases h
      · cases h
    · cases h
  · cases h

theorem clear_ok {G : Prg} (hG : PrgOK G P) (hI : Inv K) {t ty : TypeId} {ts : List TypeId} {m : AV} {mv : Value} (hm : Rep K m mv) {r : Acted} (h : clearOp G K.M t m = some r) :
    Acts P K (Builtin.clear_ (t :: ts).toArray ty #[mv]) r := by
  have h0 : (t :: ts).toArray[0]? = some t := rfl
  have ha0 : (#[mv] : Array Value)[0]? = some mv := rfl
  unfold clearOp at h
  split at h
  · rename_i kt e o hd
    obtain ⟨hu, hkt, hz⟩ := map_ty hG hd
    cases hm with | mp _ ho hE =>
    split at h
    · rename_i es c hmo
      obtain ⟨ents, h1, h2⟩ := obj_map hI ho hmo
      have hgo := run_getObj_map (P := P) h1
      simp only [Option.some.injEq] at h
      subst h
      obtain ⟨K', g5, g6, g7, g8⟩ := map_ok hI ho hE (c' := c) (ents' := #[]) hmo h1 (es' := []) (by simp [RepE])
      refine ⟨.tuple #[], K', ?_, g6, g7, g8, .tup [] [] .nil⟩
      rw [g5]
      simp only [Builtin.clear_, h0, ha0, Sem.run_bind, run_underlying_ok hu, Result.andThen_ok, hgo, run_setObj_map h1, Sem.run_pure]
    · cases h
  · cases h
end
end Go.Adm
set_option linter.unusedVariables false
set_option linter.unusedSimpArgs false
namespace Go.Adm
open Go

section
variable {P : Program} {K : Ctx}

/-- What an append's, or a copy's, second argument reads as. -/
def SrcRun (P : Program) (w : World) (sz : Nat) (e : TypeId) (u : Value) (n : Nat) (vs : List Value) : Prop :=
  (Builtin.lenOf u).run P w = .ok n w ∧ ∀ k, k ≤ n → (Builtin.firstCells sz k u).run P w = .ok (vs.take (k * sz)).toArray w

theorem src_ok {G : Prg} (hG : PrgOK G P) (hI : Inv K) {e xt : TypeId} {x : AV} {u : Value} (hx : Rep K x u) (hse : sizeOK G P e) {xs : List AV} {n : Nat} (h : srcOp G K.M e xt x = some (xs, n)) (hl : xs.length = n * G.size e) (h1 : (∃ k, (G.ty xt).d = .int k) → False) : ∃ vs, RepL K xs vs ∧ SrcRun P K.w (G.size e) e u n vs ∧ ((P.underlying xt).map fun d => match d with | .int _ => true | _ => false) = some false := by
  unfold srcOp at h
  split at h
  · rename_i k _ _ hd; exact absurd ⟨k, hd⟩ (fun h => h1 h)
  · rename_i c hd
    have hu := str_ty hG hd
    split at h
    case isFalse => cases h
    rename_i hz
    cases hx
    simp only [Option.some.injEq, Prod.mk.injEq] at h
    obtain ⟨rfl, rfl⟩ := h
    refine ⟨bytesV c, RepL.bytes c, ⟨by simp [Builtin.lenOf, ByteArray.size], fun k hk => ?_⟩, by simp [hu]⟩
    rw [hz]
    simp only [Builtin.firstCells, Sem.run_pure]
    congr 1
    apply Array.ext'
    simp [bytesV, ByteArray.extract_mk, List.map_take]
  · rename_i e' hd
    obtain ⟨hu, _⟩ := slice_ty hG hd
    obtain ⟨a, c, rfl, vs, hr, hc⟩ := sliceCells_ok hI hx h
    have hlen := hr.length
    refine ⟨vs, hr, ⟨by simp [Builtin.lenOf], fun k hk => ?_⟩, by simp [hu]⟩
    have hkl : k * G.size e ≤ vs.length := by
      have := Nat.mul_le_mul_right (G.size e) hk
      omega
    by_cases hne : xs = []
    · subst hne
      have hv : vs = [] := List.eq_nil_of_length_eq_zero (by simpa using hlen.symm)
      subst hv
      have h0 : k * G.size e = 0 := by simpa using hkl
      cases a with
      | none => simp [Builtin.firstCells]
      | some a => simp [Builtin.firstCells, h0, loadCells, loadCellsFrom]
    · obtain ⟨b, off, rfl, hcell⟩ := hc hne
      have := run_loadCells_list (P := P) K.w (ad b off) (vs.take (k * G.size e)) (fun j v hj => by
        obtain ⟨hj1, hj2⟩ := List.getElem?_eq_some_iff.1 hj
        simp only [List.length_take] at hj1
        rw [ad_add, hcell j (by omega)]
        simp only [List.getElem_take] at hj2
        rw [hj2])
      have hl2 : (vs.take (k * G.size e)).length = k * G.size e := by simp; omega
      rw [hl2] at this
      simp only [Builtin.firstCells, this]
  · cases h

theorem copy_ok {G : Prg} (hG : PrgOK G P) (hI : Inv K) {dt xt ty : TypeId} {d x : AV} {dv xv : Value} (hd : Rep K d dv) (hx : Rep K x xv) {r : Acted} (h : copyOp G K.M dt xt d x = some r) :
    Acts P K (Builtin.copy_ #[dt, xt] ty #[dv, xv]) r := by
  unfold copyOp at h
  split at h
  · rename_i e hde
    obtain ⟨hu, hs⟩ := slice_ty hG hde
    split at h
    · rename_i xs n dn hsrc hdl
      split at h
      · rename_i hc
        obtain ⟨hc1, hc2, hc3⟩ := hc
        have hsrc' : srcOp G K.M e xt x = some (xs, n) ∧ ((∃ k, (G.ty xt).d = .int k) → False) := by
          split at hsrc
          · cases hsrc
          · rename_i hni
            exact ⟨hsrc, fun ⟨k, hk⟩ => hni k hk⟩
        obtain ⟨vs, hr, ⟨hl, hf⟩, _⟩ := src_ok hG hI hx hs hsrc'.1 hc1 hsrc'.2
        obtain ⟨a, c, rfl⟩ := sliceLen_ok hdl hd
        have h0 : (#[dt, xt] : Array TypeId)[0]? = some dt := rfl
        have ha0 : (#[Value.slice a dn c, xv] : Array Value)[0]? = some (.slice a dn c) := rfl
        have ha1 : (#[Value.slice a dn c, xv] : Array Value)[1]? = some xv := rfl
        have hfc := hf (min n dn) (Nat.min_le_left _ _)
        have hmin : Nat.min n dn = min n dn := rfl
        split at h
        · rename_i hz
          simp only [Option.some.injEq] at h
          subst h
          refine ⟨goInt 0, K, ?_, rfl, Ext.refl K, hI, .i _ _⟩
          rw [hz, Nat.zero_mul, List.take_zero] at hfc
          cases a with
          | none => simp only [Builtin.copy_, h0, ha0, ha1, Sem.run_bind, run_underlying_ok hu, Result.andThen_ok, hl, hmin, hz, run_sizeOf_ok hs, hfc, Sem.run_pure, Int.ofNat_zero]
          | some a => simp only [Builtin.copy_, h0, ha0, ha1, Sem.run_bind, run_underlying_ok hu, Result.andThen_ok, hl, hmin, hz, run_sizeOf_ok hs, hfc, Sem.run_pure, storeCells]; rfl
        · rename_i hz
          split at h
          · rename_i M' o hw
            simp only [Option.some.injEq] at h
            subst h
            have hrt := hr.take (min n dn * G.size e)
            have hat : (xs.take (min n dn * G.size e)).all AV.cell = true := by
              rw [List.all_eq_true] at hc3 ⊢
              exact fun y hy => hc3 y (List.mem_of_mem_take hy)
            have hp : ∃ p a', d.row = p ∧ a = some a' ∧ Rep K p (.pointer (some a')) := by
              have hdn : 0 < dn := by
                rcases Nat.eq_zero_or_pos dn with h | h
                · subst h; simp at hz
                · exact h
              cases hd with
              | bsl o ez ver off len a c ho hv ha hc hn =>
                cases a with
                | none => exact absurd rfl hn
                | some a =>
                  refine ⟨_, a, rfl, rfl, .bp _ _ _ _ ho hv fun e1 => ?_⟩
                  have := (ha e1 (.inl hdn)).1
                  simpa using this
              | asl o off len a c ho hE ha hc hn =>
                exact ⟨_, _, rfl, ha hdn, .ptr _ _ ho hE⟩
              | _ => first | (simp [sliceLen] at hdl; done) | (simp [AV.row, writeCells] at hw)
            obtain ⟨p, a', hp1, rfl, hp2⟩ := hp
            rw [hp1] at hw
            obtain ⟨a2, K', h5, h6, h7, h8, h9⟩ := write_ok (P := P) hI hp2 hrt hat hw
            cases h5
            refine ⟨goInt (min n dn : Nat), K', ?_, h7, h8, h9, .i _ _⟩
            simp only [Builtin.copy_, h0, ha0, ha1, Sem.run_bind, run_underlying_ok hu, Result.andThen_ok, hl, hmin, run_sizeOf_ok hs, hfc, Sem.run_pure, h6]
          · cases h
      · cases h
    · cases h
  · cases h
end
end Go.Adm
