/- Part FAct of the proof of GensPins. -/
import Derived.Test.YtkhhpimjofkbiaaGreatDoorFOps
set_option linter.unusedVariables false
set_option linter.unusedSimpArgs false
set_option linter.unusedVariables false
set_option linter.unusedSimpArgs false
namespace Go.Adm
open Go

/-- What an act by the fast machine tells of the plain one's. -/
def Sim (h : H) (a : Option Acted) (r : FActed) : Prop := ∃ D, a = some (r.1, absH r.2.1, D) ∧ Mask D r.2.2 ∧ WF r.2.1 ∧ h.n ≤ r.2.1.n

theorem Sim.same {h : H} (hw : WF h) (v : AV) : Sim h (some (v, absH h, [])) (v, h, 0) := ⟨[], rfl, Mask.nil, hw, Nat.le_refl _⟩
theorem Sim.push {h : H} (hw : WF h) (v : AV) (x : AObj) (hr : h.room = true) : Sim h (some (v, absH h ++ [x], [])) (v, h.push x, 0) := by
  obtain ⟨h1, h2⟩ := hw.push (x := x) hr
  exact ⟨[], by rw [h2], Mask.nil, h1, Nat.le_succ _⟩
theorem Sim.set {h : H} (hw : WF h) (v : AV) {o : Nat} (x : AObj) {y : AObj} (hg : h.get o = some y) : Sim h (some (v, (absH h).set o x, [o])) (v, h.set o x, bit o) := by
  obtain ⟨h1, h2⟩ := hw.set (o := o) (x := x) (get_some hg).1
  exact ⟨[o], by rw [h2], Mask.one o, h1, Nat.le_refl _⟩

theorem buildSliceF_ok {G : Prg} {h : H} (hw : WF h) {t : TypeId} {n : Nat} {ps : List (Nat × AV)} {r : FActed} (e : buildSliceF G h t n ps = some r) : Sim h (buildSliceOp G (absH h) t n ps) r := by
  unfold buildSliceF at e
  unfold buildSliceOp
  split at e
  · rename_i el hd
    rw [hd]
    simp only
    split at e
    · rename_i hc
      rw [if_pos hc]
      obtain ⟨cs, hcs, rfl⟩ := Option.map_eq_some_iff.1 e
      rw [hcs]
      exact Sim.same hw _
    · cases e
  · cases e

theorem boxF_ok {G : Prg} {h : H} (hw : WF h) {t : TypeId} {v : AV} {r : FActed} (e : boxF h t v = some r) : Sim h (boxOp G (absH h) t v) r := by
  unfold boxF at e
  unfold boxOp
  split at e
  · rename_i hc
    rw [if_pos hc]
    obtain ⟨hr, e⟩ := cond_none e
    cases e
    rw [absH_len]
    exact Sim.push hw _ _ hr
  · cases e

theorem storeF_ok {G : Prg} {h : H} (hw : WF h) {t : TypeId} {p v : AV} {r : FActed} (e : storeF G h t p v = some r) : Sim h (storeOp G (absH h) t p v) r := by
  unfold storeF at e
  unfold storeOp
  split at e
  · rename_i hc
    rw [if_pos hc]
    split at e
    · rename_i h' m hq
      cases e
      obtain ⟨o, h1, rfl, h3, h4⟩ := writeF_ok hw hq
      rw [h1]
      exact ⟨[o], rfl, Mask.one o, h3, by rw [h4]; exact Nat.le_refl _⟩
    · cases e
  · cases e

theorem makeSliceF_ok {G : Prg} {h : H} (hw : WF h) {t : TypeId} {l c : AV} {r : FActed} (e : makeSliceF G h t l c = some r) : Sim h (makeSliceOp G (absH h) t l c) r := by
  unfold makeSliceF at e
  unfold makeSliceOp
  split at e
  · rename_i el l' c' hd hl hc
    rw [hd, hl, hc]
    simp only
    split at e
    · rename_i hcnd
      rw [if_pos hcnd]
      obtain ⟨hr, e⟩ := cond_none e
      cases e
      rw [absH_len]
      cases hb : (Nat.blt 8 (G.size el) && Nat.ble l' 4096 && Nat.beq (G.zc el).length (G.size el))
      · simp only [cond_false]
        exact Sim.push hw _ _ hr
      · simp only [cond_true]
        simp only [Bool.and_eq_true, blt_iff, Nat.ble_eq, beq_iff] at hb
        obtain ⟨h1, h2⟩ := hw.fpush (x := .sec ⟨G.size el, el, false⟩ l' l' 0 (.lf (G.zc el))) hr ⟨by show 0 < G.size el; omega, hb.1.2, fun i hi => by rw [T.get_lf]; exact hb.2⟩
        refine ⟨[], ?_, Mask.nil, h1, Nat.le_succ _⟩
        simp only
        rw [h2]
        have : (FObj.sec ⟨G.size el, el, false⟩ l' l' 0 (.lf (G.zc el))).view = .buf ⟨G.size el, el, false⟩ (repl l' (G.zc el)) l' 0 := by
          simp only [FObj.view, secCells, T.get_lf]
          rw [flatMap_rep]
        rw [this]
    · cases e
  · cases e

theorem convF_ok {G : Prg} {h : H} (hw : WF h) {src dst : TypeId} {x : AV} {r : FActed} (e : convF G h src dst x = some r) : Sim h (convOp G (absH h) src dst x) r := by
  unfold convF at e
  unfold convOp
  split at e
  · rename_i el c hs hd
    rw [hs, hd]
    simp only
    split at e
    · rename_i he
      rw [he]
      obtain ⟨hr, e⟩ := cond_none e
      cases e
      rw [absH_len]
      exact Sim.push hw _ _ hr
    · cases e
  · rename_i el' el cs n hs hd
    rw [hs, hd]
    simp only
    split at e
    · rename_i he
      rw [he]
      simp only
      split at e
      · rename_i heq
        rw [if_pos heq]
        cases e
        exact Sim.same hw _
      · cases e
    · cases e
  · cases e

theorem mapSetF_ok {G : Prg} {h : H} (hw : WF h) {t : TypeId} {m k x : AV} {r : FActed} (e : mapSetF G h t m k x = some r) : Sim h (mapSetOp G (absH h) t m k x) r := by
  unfold mapSetF at e
  unfold mapSetOp
  split at e
  · rename_i kt el o hd
    rw [hd]
    simp only
    split at e
    · rename_i hc
      rw [if_pos hc]
      split at e
      · rename_i es c hg
        rw [absH_get, hg]
        simp only
        split at e
        · rename_i i _ born hf
          rw [hf]
          cases e
          exact Sim.set hw _ _ hg
        · rename_i hf
          rw [hf]
          cases e
          exact Sim.set hw _ _ hg
        · cases e
      · cases e
    · cases e
  · cases e

theorem mapEntryF_ok {G : Prg} {h : H} (hw : WF h) {t : TypeId} {m k : AV} {r : FActed} (e : mapEntryF G h t m k = some r) : Sim h (mapEntryOp G (absH h) t m k) r := by
  unfold mapEntryF at e
  unfold mapEntryOp
  split at e
  · rename_i kt el o hd
    rw [hd]
    simp only
    split at e
    · rename_i hc
      rw [if_pos hc]
      split at e
      · rename_i es c hg
        rw [absH_get, hg]
        simp only
        split at e
        · rename_i i v born hf
          rw [hf]
          cases e
          exact Sim.set hw _ _ hg
        · rename_i hf
          rw [hf]
          cases e
          exact Sim.set hw _ _ hg
        · cases e
      · cases e
    · cases e
  · cases e

theorem entryStoreF_ok {h : H} (hw : WF h) {m st x : AV} {r : FActed} (e : entryStoreF h m st x = some r) : Sim h (entryStoreOp (absH h) m st x) r := by
  unfold entryStoreF at e
  unfold entryStoreOp
  split at e
  · rename_i o _ born
    simp only
    split at e
    · rename_i hc
      rw [if_pos hc]
      split at e
      · rename_i es c hg
        rw [absH_get, hg]
        simp only
        split at e
        · rename_i i k bn hf
          rw [hf]
          cases e
          exact Sim.set hw _ _ hg
        · cases e
      · cases e
    · cases e
  · cases e

theorem srcF_ok {G : Prg} {h : H} {e xt : TypeId} {x : AV} {r : List AV × Nat} (he : srcF G h e xt x = some r) : srcOp G (absH h) e xt x = some r := by
  unfold srcF at he
  unfold srcOp
  split at he
  · rename_i hd; rw [hd]; exact he
  · rename_i hd; rw [hd]; exact he
  · rename_i x' el hd
    rw [hd]
    exact sliceCellsF_ok he
  · cases he

theorem appendF_ok {G : Prg} {h : H} (hw : WF h) {st xt : TypeId} {d x : AV} {r : FActed} (e : appendF G h st xt d x = some r) : Sim h (appendOp G (absH h) st xt d x) r := by
  unfold appendF at e
  unfold appendOp
  split at e
  · rename_i el hd
    rw [hd]
    simp only
    split at e
    · rename_i xs n hsrc
      rw [srcF_ok hsrc]
      simp only
      split at e
      · rename_i hc
        rw [if_pos hc]
        split at e
        · rename_i hn
          rw [if_pos hn]
          split at e
          · rename_i hs
            rw [if_pos hs]
            cases e
            exact Sim.same hw _
          · cases e
        · rename_i hn
          rw [if_neg hn]
          split at e
          · simp only
            split at e
            · rename_i hk
              rw [if_pos hk]
              obtain ⟨hr, e⟩ := cond_none e
              cases e
              rw [absH_len]
              exact Sim.push hw _ _ hr
            · cases e
          · simp only
            split at e
            · rename_i ez' cs v f hg
              rw [absH_get, hg]
              simp only
              split at e
              · rename_i hk
                rw [if_pos hk]
                cases e
                exact Sim.set hw _ _ hg
              · cases e
            · cases e
          · cases e
      · cases e
    · cases e
  · cases e

theorem copyF_ok {G : Prg} {h : H} (hw : WF h) {dt xt : TypeId} {d x : AV} {r : FActed} (e : copyF G h dt xt d x = some r) : Sim h (copyOp G (absH h) dt xt d x) r := by
  unfold copyF at e
  unfold copyOp
  split at e
  · rename_i el hd
    rw [hd]
    simp only
    split at e
    · rename_i xs n dn hsrc hdn
      have key : ∀ y : Option (List AV × Nat), y = some (xs, n) → Sim h (match y, sliceLen d with
          | some (xs, n), some dn =>
            if xs.length = n * G.size el ∧ 0 < G.size el ∧ xs.all AV.cell = true then
              if min n dn = 0 then some (.i .i64 0, absH h, []) else
              match writeCells (absH h) d.row (xs.take (min n dn * G.size el)) with
              | some (M', o) => some (.i .i64 (min n dn : Nat), M', [o])
              | none => none
            else none
          | _, _ => none) r := by
        intro y hy
        rw [hy, hdn]
        simp only
        split at e
        · rename_i hc
          rw [if_pos hc]
          split at e
          · rename_i hz
            rw [if_pos hz]
            cases e
            exact Sim.same hw _
          · rename_i hz
            rw [if_neg hz]
            split at e
            · rename_i h' m hq
              cases e
              obtain ⟨o, h1, rfl, h3, h4⟩ := writeF_ok hw hq
              rw [h1]
              exact ⟨[o], rfl, Mask.one o, h3, by rw [h4]; exact Nat.le_refl _⟩
            · cases e
        · cases e
      refine key _ ?_
      clear key e
      generalize (G.ty xt).d = dd at hsrc ⊢
      cases dd <;> first
        | exact srcF_ok hsrc
        | cases hsrc
    · cases e
  · cases e

theorem deleteF_ok {G : Prg} {h : H} (hw : WF h) {t : TypeId} {m k : AV} {r : FActed} (e : deleteF G h t m k = some r) : Sim h (deleteOp G (absH h) t m k) r := by
  unfold deleteF at e
  unfold deleteOp
  split at e
  · rename_i hk
    rw [if_pos hk]
    split at e
    · rename_i hd
      rw [hd]
      cases e
      exact Sim.same hw _
    · rename_i kt el o hd
      rw [hd]
      simp only
      split at e
      · rename_i es c hg
        rw [absH_get, hg]
        simp only
        split at e
        · rename_i i _ _ hf
          rw [hf]
          cases e
          exact Sim.set hw _ _ hg
        · rename_i hf
          rw [hf]
          cases e
          exact Sim.set hw _ _ hg
        · cases e
      · cases e
    · cases e
  · cases e

theorem clearF_ok {G : Prg} {h : H} (hw : WF h) {t : TypeId} {m : AV} {r : FActed} (e : clearF G h t m = some r) : Sim h (clearOp G (absH h) t m) r := by
  unfold clearF at e
  unfold clearOp
  split at e
  · rename_i kt el o hd
    rw [hd]
    simp only
    split at e
    · rename_i es c hg
      rw [absH_get, hg]
      cases e
      exact Sim.set hw _ _ hg
    · cases e
  · cases e

theorem unsafeStringF_ok {G : Prg} {h : H} (hw : WF h) {pt : TypeId} {p n : AV} {r : FActed} (e : unsafeStringF G h pt p n = some r) : Sim h (unsafeStringOp G (absH h) pt p n) r := by
  unfold unsafeStringF at e
  unfold unsafeStringOp
  split at e
  · simp only
    split at e
    · rename_i hz
      rw [if_pos hz]
      split at e
      · cases e
        exact Sim.same hw _
      · cases e
        exact Sim.same hw _
      · cases e
    · rename_i hz
      rw [if_neg hz]
      split at e
      · rename_i u o ver hd
        rw [hd]
        simp only
        split at e
        · rename_i es cs v f hg
          rw [absH_get, hg]
          simp only
          split at e
          · rename_i hc
            rw [if_pos hc]
            split at e
            · rename_i s hs
              rw [hs]
              cases e
              exact Sim.set hw _ _ hg
            · cases e
          · cases e
        · cases e
      · cases e
  · cases e

theorem actF_ok {G : Prg} {h : H} (hw : WF h) {env : List AV} {o : Oper} {r : FActed} (e : actF G h (eval env) o = some r) : Sim h (actOp G (absH h) env o) r := by
  unfold actF at e
  split at e <;> rename_i hop <;> simp only [actOp, hop]
  · exact buildSliceF_ok hw e
  · exact boxF_ok hw e
  · exact boxF_ok hw e
  · exact storeF_ok hw e
  · obtain ⟨hr, e⟩ := cond_none e
    cases e
    rw [absH_len]
    exact Sim.push hw _ _ hr
  · exact makeSliceF_ok hw e
  · exact convF_ok hw e
  · exact mapSetF_ok hw e
  · exact mapSetF_ok hw e
  · exact mapEntryF_ok hw e
  · exact entryStoreF_ok hw e
  · rename_i c
    split at e
    · rename_i b hb
      rw [hb]
      split at e
      · rename_i st xt d x h1 h2
        rw [h1, h2]
        exact appendF_ok hw e
      · rename_i st xt d x h1 h2
        rw [h1, h2]
        exact copyF_ok hw e
      · rename_i t _ m k h1 h2
        rw [h1, h2]
        exact deleteF_ok hw e
      · rename_i t _ m h1 h2
        rw [h1, h2]
        exact clearF_ok hw e
      · rename_i pt it p n h1 h2
        rw [h1, h2]
        exact unsafeStringF_ok hw e
      · cases e
    · cases e
  · cases e

/-- What is done by an act is no quiet operation. -/
theorem actF_quiet {G : Prg} {h : H} {env : List AV} {o : Oper} {r : FActed} {M : List AObj} (e : actF G h (eval env) o = some r) : quietOp G M env o = none := by
  unfold actF at e
  split at e <;> rename_i hop <;> simp only [quietOp, hop]
  · rename_i src dst x
    unfold convF at e
    split at e
    · rename_i el c hs hd hx
      simp only [uconvOp, hs, hd, hx]
      rfl
    · rename_i el' el cs n hs hd hx
      simp only [uconvOp, hs, hd, hx]
      rfl
    · cases e
  · rename_i c
    split at e
    · rename_i b hb
      rw [hb]
      split at e
      all_goals first
        | rfl
        | cases e
    · cases e
  · cases e
end Go.Adm
