/- Part FOps of the proof of GensPins. -/
import Derived.Test.YtkhhpimjofkbiaaGreatDoorFNum
import Derived.Test.YtkhhpimjofkbiaaGreatDoorRoom3
set_option linter.unusedVariables false
set_option linter.unusedSimpArgs false
set_option linter.unusedVariables false
set_option linter.unusedSimpArgs false
namespace Go.Adm
open Go

theorem cond_else {α : Type} {b : Bool} {x : Option α} {z : α} (h : (bif b then none else x) = some z) : b = false ∧ x = some z := by cases b <;> simp_all

theorem cutO_ok {n off : Nat} {cs q : List AV} (h : cutO n off cs = some q) : off + n ≤ cs.length ∧ q = (cs.drop off).take n := by
  unfold cutO at h
  obtain ⟨hc, h⟩ := cond_else h
  obtain ⟨h1, h2⟩ := takeO_ok _ _ _ h
  rw [dropF_eq] at h1 h2
  refine ⟨?_, h1⟩
  rw [List.length_drop] at h2
  by_cases e : n = 0
  · subst e
    simp [ble_dec] at hc
    omega
  · omega

theorem readF_ok {h : H} (hw : WF h) {a : AV} {n : Nat} {cs : List AV} (e : readF h a n = some cs) : readCells (absH h) a n = some cs := by
  have cut : ∀ (off : Nat) (l : List AV), (bif Nat.beq n 0 then none else takeO n (dropF l off)) = some cs → off + n ≤ l.length ∧ cs = (l.drop off).take n := fun off l e => by
    obtain ⟨hn, e⟩ := cond_else e
    obtain ⟨h1, h2⟩ := takeO_ok _ _ _ e
    rw [dropF_eq] at h1 h2
    rw [List.length_drop] at h2
    have : n ≠ 0 := fun e0 => by subst e0; simp at hn
    exact ⟨by omega, h1⟩
  unfold readF at e
  split at e
  · rename_i o off
    split at e
    · rename_i l hl
      obtain ⟨h1, h2⟩ := cut off l e
      simp only [readCells, absH_get, hl]
      rw [if_pos h1, h2]
    · cases e
  · rename_i o ver off
    split at e
    · rename_i ez l v fz hl
      obtain ⟨h1, h2⟩ := fget_some hl
      have hg := get_lt h1
      rw [h2] at hg
      obtain ⟨h3, e⟩ := cond_none e
      rw [Bool.and_eq_true, Bool.not_eq_true'] at h3
      have := cut off l (by rw [h3.2]; exact e)
      have hv := beq_iff.1 h3.1
      simp only [readCells, absH_get, hg, FObj.view]
      rw [if_pos ⟨hv, this.1⟩, this.2]
    · rename_i es m v fz t hl
      obtain ⟨h1, h2⟩ := fget_some hl
      have hg := get_lt h1
      have hok := hw.ok o h1
      rw [h2] at hg hok
      obtain ⟨h3, e3⟩ := cond_none e
      simp only [Bool.and_eq_true, beq_iff, blt_iff] at h3
      obtain ⟨⟨⟨hv, hn⟩, hm⟩, hlt⟩ := h3
      obtain ⟨hw0, hm2, hch⟩ := hok
      simp only [Option.some.injEq] at e3
      subst hn
      have hoff : off = Nat.div off es.n * es.n := by
        have := Nat.div_add_mod off es.n
        have hm' : off % es.n = 0 := hm
        rw [hm', Nat.add_zero, Nat.mul_comm] at this
        exact this.symm
      have hlen := secCells_len hch
      have hle : (Nat.div off es.n + 1) * es.n ≤ m * es.n := Nat.mul_le_mul_right es.n hlt
      rw [Nat.add_mul, Nat.one_mul] at hle
      have hsec := secCells_get hch (Nat.div off es.n) hlt
      rw [← hoff] at hsec hle
      simp only [readCells, absH_get, hg, FObj.view]
      rw [if_pos ⟨hv, by rw [hlen]; exact hle⟩, hsec, e3]
    · cases e
  · rename_i l
    obtain ⟨h1, h2⟩ := takeO_ok _ _ _ e
    simp only [readCells]
    rw [if_pos h2, h1]
  · rename_i g off
    split at e
    · rename_i l hl
      obtain ⟨h1, h2⟩ := cut off l e
      simp only [readCells, hl]
      rw [if_pos h1, h2]
    · cases e
  · cases e

theorem sliceCellsF_ok {h : H} {sz : Nat} {a : AV} {r : List AV × Nat} (e : sliceCellsF h sz a = some r) : sliceCells (absH h) sz a = some r := by
  unfold sliceCellsF at e
  split at e
  · exact e
  · rename_i o ez ver off len
    split at e
    · rename_i e' cs v fz hl
      obtain ⟨h3, e⟩ := cond_none e
      simp only [Bool.and_eq_true, beq_iff] at h3
      split at e
      · rename_i q hq
        obtain ⟨h1, h2⟩ := cutO_ok hq
        simp only [sliceCells, absH_get, hl]
        rw [if_pos ⟨h3.1, h3.2, h1⟩, ← h2]
        exact e
      · cases e
    · cases e
  · rename_i o off len
    split at e
    · rename_i cs hl
      split at e
      · rename_i q hq
        obtain ⟨h1, h2⟩ := cutO_ok hq
        simp only [sliceCells, absH_get, hl]
        rw [if_pos h1, ← h2]
        exact e
      · cases e
    · cases e
  · cases e

theorem uconvF_eq (G : Prg) (h : H) (src dst : TypeId) (x : AV) : uconvF G h src dst x = uconvOp G (absH h) src dst x := by
  unfold uconvF uconvOp
  simp only [absH_get]
  rfl

theorem quietF_ok {G : Prg} {h : H} (hw : WF h) {env : List AV} {o : Oper} {v : AV} (e : quietF G h (eval env) o = some v) : quietOp G (absH h) env o = some v := by
  unfold quietF at e
  split at e <;> rename_i hop <;> simp only [quietOp, hop]
  case h_5 =>
    split at e
    · rename_i cs hr
      rw [readF_ok hw hr]
      exact e
    · cases e
  case h_7 => rw [← binopF_eq]; exact e
  case h_9 src dst x =>
   rw [uconvF_eq] at e
   split at e
   · rename_i hv
     simp only [hv]
     exact e
   · rename_i hv
     simp only [hv]
     split at e
     · cases e
     · rename_i el hs
       rw [hs]
       split at e
       · rename_i hd
         rw [hd]
         split at e
         · rename_i he
           split at e
           · rename_i cs n hc
             have hc' := sliceCellsF_ok hc
             simp only [hd, he]
             generalize eval env x = y at hc hc' e
             cases y <;> first
               | (cases hc; done)
               | (simp only [convertOp, hc']; exact e)
           · cases e
         · cases e
       · rename_i k hd
         rw [hd]
         split at e
         · rename_i k' n hx
           rw [hx, wrapF_eq] at *
           simp only [convertOp]
           exact e
         · cases e
       · cases e
     · rename_i hnb hns
       split at e
       · rename_i k k' n hd hx
         rw [hd, hx]
         rw [wrapF_eq] at e
         generalize (G.ty src).d = d at hnb hns
         cases d <;> first
           | exact absurd rfl hnb
           | exact absurd rfl (hns _)
           | exact e
       · rename_i s hd hx
         rw [hd, hx]
         generalize (G.ty src).d = d at hnb hns
         cases d <;> first
           | exact absurd rfl hnb
           | exact absurd rfl (hns _)
           | exact e
       · cases e
  case h_10 f first cap =>
    split at e
    · rename_i hf
      have : first = #[] := by
        apply Array.ext'
        simpa using hf
      rw [if_pos this]
      exact e
    · cases e
  case h_16 => 
    unfold lookupOp
    simp only [absH_get]
    exact e
  case h_17 t ix => simp only [nth_eq] at e; exact e
  case h_18 c =>
    generalize hc : c.callee = cc at e
    split at e
    · split at e
      · rename_i t _ x _ ht hx
        simp only [ht, hx]
        split at e
        · rename_i kt el hd
          unfold lenOp
          rw [hd]
          generalize eval env x = y at e
          cases y <;> simp only [absH_get] at e ⊢ <;> first | exact e | cases e
        · rename_i hn
          unfold lenOp at e ⊢
          generalize (G.ty t).d = d at e hn
          generalize eval env x = y at e ⊢
          cases d <;> cases y <;> first | exact e | exact (hn _ _ rfl).elim
      · cases e
    · exact e
    · exact e
    · exact e
    · exact e
    · cases e
  all_goals exact e

/-! ### Operations that turn objects -/
def Mask (D : List Nat) (m : Nat) : Prop := ∀ o, m.testBit o = decide (o ∈ D)
theorem Mask.nil : Mask [] 0 := fun o => by simp
theorem Mask.one (o : Nat) : Mask [o] (bit o) := fun i => by
  show (1 <<< o).testBit i = _
  rw [Nat.testBit_shiftLeft, Bool.eq_iff_iff]
  by_cases h : i = o
  · subst h; simp
  · simp [h]
    intro h1
    cases hk : i - o with
    | zero => omega
    | succ k => simp [Nat.testBit_succ]
theorem Mask.app {D D' : List Nat} {m m' : Nat} (h : Mask D m) (h' : Mask D' m') : Mask (D ++ D') (Nat.lor m m') := fun o => by
  show (m ||| m').testBit o = _
  rw [Nat.testBit_or, h o, h' o, Bool.eq_iff_iff]
  simp
theorem Mask.filter {D : List Nat} {m : Nat} (h : Mask D m) (n : Nat) : Mask (D.filter (fun d => decide (d < n))) (Nat.mod m (Nat.pow 2 n)) := fun o => by
  show (m % 2 ^ n).testBit o = _
  rw [Nat.testBit_mod_two_pow, h o, Bool.eq_iff_iff]
  simp [and_comm]
theorem Mask.empty {D : List Nat} {m : Nat} (h : Mask D m) : D.isEmpty = decide (m = 0) := by
  rw [Bool.eq_iff_iff]
  simp only [List.isEmpty_iff, decide_eq_true_eq]
  constructor
  · intro e
    subst e
    apply Nat.eq_of_testBit_eq
    intro i
    rw [h i]
    simp
  · intro e
    subst e
    apply List.eq_nil_iff_forall_not_mem.2
    intro o ho
    have := h o
    simp [ho] at this

theorem writeAt_eq {α : Type} : ∀ (cs : List α) (n : Nat) (vs : List α), n + vs.length ≤ cs.length → writeAt cs n vs = cs.take n ++ vs ++ cs.drop (n + vs.length)
  | [], n, vs, h => by
    have h' : n + vs.length ≤ 0 := h
    have : vs = [] := List.length_eq_zero_iff.1 (by omega)
    subst this
    simp [writeAt]
  | c :: cs, 0, [], _ => by simp [writeAt]
  | c :: cs, 0, v :: vs, h => by
    have := writeAt_eq cs 0 vs (by simp at h; omega)
    simp [writeAt, this]
  | c :: cs, n + 1, vs, h => by
    have := writeAt_eq cs n vs (by simp at h; omega)
    simp [writeAt, this, show n + 1 + vs.length = n + vs.length + 1 by omega]

theorem writeF_ok {h : H} (hw : WF h) {a : AV} {vs : List AV} {h' : H} {m : Nat} (e : writeF h a vs = some (h', m)) : ∃ o, writeCells (absH h) a vs = some (absH h', o) ∧ m = bit o ∧ WF h' ∧ h'.n = h.n := by
  unfold writeF at e
  split at e
  · rename_i o off
    split at e
    · rename_i ty cs hg
      split at e
      · rename_i q hq
        obtain ⟨h1, h2⟩ := writeO_ok _ _ _ _ hq
        simp only [Option.some.injEq, Prod.mk.injEq] at e
        obtain ⟨rfl, rfl⟩ := e
        obtain ⟨h3, h4⟩ := hw.set (o := o) (x := .box ty q) (get_some hg).1
        refine ⟨o, ?_, rfl, h3, rfl⟩
        simp only [writeCells, absH_get, hg]
        rw [if_pos h1, h4, h2, writeAt_eq _ _ _ h1]
      · cases e
    · cases e
  · rename_i o ver off
    split at e
    · rename_i ez cs v f hg
      obtain ⟨h1, h2⟩ := fget_some hg
      have hg' := get_lt h1
      rw [h2] at hg'
      obtain ⟨hc, e⟩ := cond_none e
      rw [Bool.and_eq_true, beq_iff, Nat.ble_eq] at hc
      split at e
      · rename_i q hq
        obtain ⟨h5, h6⟩ := writeO_ok _ _ _ _ hq
        simp only [Option.some.injEq, Prod.mk.injEq] at e
        obtain ⟨rfl, rfl⟩ := e
        obtain ⟨h3, h4⟩ := hw.set (o := o) (x := .buf ez q v f) h1
        refine ⟨o, ?_, rfl, h3, rfl⟩
        simp only [writeCells, absH_get, hg', FObj.view]
        rw [if_pos ⟨hc.1, hc.2, h5⟩, h4, h6, writeAt_eq _ _ _ h5]
      · cases e
    · rename_i es n v f t hg
      obtain ⟨h1, h2⟩ := fget_some hg
      have hg' := get_lt h1
      have hok := hw.ok o h1
      rw [h2] at hg' hok
      obtain ⟨hw0, hn2, hch⟩ := hok
      obtain ⟨hc, e3⟩ := cond_none e
      simp only [Bool.and_eq_true, beq_iff, Nat.ble_eq, blt_iff] at hc
      obtain ⟨⟨⟨⟨hv, hl⟩, hm⟩, hf⟩, hlt⟩ := hc
      simp only [Option.some.injEq, Prod.mk.injEq] at e3
      obtain ⟨rfl, rfl⟩ := e3
      have hoff : off = Nat.div off es.n * es.n := by
        have := Nat.div_add_mod off es.n
        have hm' : off % es.n = 0 := hm
        rw [hm', Nat.add_zero, Nat.mul_comm] at this
        exact this.symm
      have hlen := secCells_len hch
      have hle : (Nat.div off es.n + 1) * es.n ≤ n * es.n := Nat.mul_le_mul_right es.n hlt
      rw [Nat.add_mul, Nat.one_mul, ← hoff] at hle
      have hsec := secCells_set hn2 hch (Nat.div off es.n) hlt vs hl
      rw [← hoff] at hsec
      have hnew : FOK (.sec es n v f (t.set vs (pth sdep (Nat.div off es.n)))) := by
        refine ⟨hw0, hn2, fun i hi => ?_⟩
        by_cases ei : i = Nat.div off es.n
        · subst ei; rw [T.at_same]; exact hl
        · rw [T.at_other _ _ _ (by omega) (by omega) ei]; exact hch i hi
      obtain ⟨h3, h4⟩ := hw.fset (o := o) h1 hnew
      refine ⟨o, ?_, rfl, h3, rfl⟩
      simp only [writeCells, absH_get, hg', FObj.view]
      rw [if_pos ⟨hv, hf, by rw [hlen, hl]; exact hle⟩, h4]
      simp only [FObj.view]
      rw [hsec, writeAt_eq _ _ _ (by rw [hlen, hl]; exact hle), hl]
    · cases e
  · cases e
end Go.Adm
