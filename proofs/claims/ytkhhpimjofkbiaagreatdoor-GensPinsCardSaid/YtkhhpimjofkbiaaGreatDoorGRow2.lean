/- Part GRow2 of the proof of GensPins. -/
import Derived.Test.YtkhhpimjofkbiaaGreatDoorGRow
import Derived.Test.YtkhhpimjofkbiaaGreatDoorGOpen
set_option linter.unusedVariables false
set_option linter.unusedSimpArgs false
set_option linter.unusedVariables false
set_option maxRecDepth 100000
namespace Go.Proofs.YtkhhpimjofkbiaaGreatDoor
open Go Go.ChangeShapes Go.WideShapes Go.ChangeAt Go.RowKit Go.Adm

theorem int_row {H : Type} {enc : TypeId × Value → H} {P : Program} {w : World} {base : Nat} {sp : Nat → Bool} {held : Bool} {fuel n : Nat} {t e : TypeId} {k : IntKind} {cs : List Value} {ns : List Int} {p : List MemPlace}
    (ht : P.underlying t = some (.array n e)) (he : P.underlying e = some (.int k)) (hc : P.cellsOf e = 1) (hct : P.cellsOf t = n)
    (h : DataW.trod enc P w base sp held fuel t cs = some (.agg (ns.map fun m => .lit (.int k m)), p)) : cs = ns.map (Value.int k) := by
  obtain ⟨xs, m, _, hx, hlen, hn, hel⟩ := DataW.trod_array ht h
  simp only [Prod.mk.injEq, DataW.agg.injEq] at hx
  have hl : ns.length = xs.length := by
    have := congrArg List.length hx.1
    simpa using this
  apply List.ext_getElem
  · simp; omega
  · intro i h1 h2
    have hi : i < n := by omega
    have h3 := hel i hi
    have h4 : (cs.drop (i * P.cellsOf e)).take (P.cellsOf e) = [cs[i]] := by
      rw [hc, Nat.mul_one, List.drop_eq_getElem_cons h1]
      rfl
    rw [h4, List.getElem?_eq_getElem (show i < xs.length by omega)] at h3
    obtain ⟨q, e1, e2, _⟩ := DataW.trod_int he h3
    have h5 := congrArg (fun l => l[i]?) hx.1
    simp only [List.getElem?_map, List.getElem?_eq_getElem (show i < xs.length by omega), List.getElem?_eq_getElem (show i < ns.length by omega), Option.map_some, Option.some.injEq] at h5
    rw [e2] at h5
    simp only [List.cons.injEq, and_true] at e1
    rw [e1]
    simp only [List.getElem_map]
    simp only [DataW.lit.injEq, Lit.int.injEq, true_and] at h5
    rw [h5]

theorem gPow : Tryz.prog.globalNamed "internal/strconv.uint64pow10" = some 5 := by kernel_rfl
def powNs : List Int := [1, 10, 100, 1000, 10000, 100000, 1000000, 10000000, 100000000, 1000000000, 10000000000, 100000000000, 1000000000000, 10000000000000, 100000000000000, 1000000000000000, 10000000000000000, 100000000000000000, 1000000000000000000, 10000000000000000000]
theorem powD : (Rows.laid_internal_strconv_uint64pow10 : DataW Unit) = .agg (powNs.map fun m => .lit (.int .u64 m)) := by kernel_rfl
noncomputable def tyPow : TypeId := ((Tryz.prog.globals[5]?).map (·.type)).getD 0
theorem of_laid {W : World} (h : laidMetH Tryz.prog laidL W) : ∃ t fr, W.heap[5]? = some (.cells (powNs.map (Value.int .u64)).toArray t fr) := by
  rw [MakeChecks.laidMetH_plain _ _ _ (by kernel_rfl)] at h
  obtain ⟨ps, ⟨g0, t0, cs0, f0, p0, q0, hg0, ht0, hv0, hd0, ⟨g1, t1, cs1, f1, p1, q1, hg1, ht1, hv1, hd1, ⟨g2, t2, cs2, f2, p2, q2, hg2, ht2, hv2, hd2, _, _⟩, _⟩, _⟩, _, _⟩ := h
  obtain rfl := Option.some.inj (gPow.symm.trans hg2)
  have hty : t2 = tyPow := by
    unfold tyPow
    rw [ht2]
    rfl
  subst hty
  have hd2' : DataW.trod (fun _ => ()) Tryz.prog W 0 (fun _ => true) false f2 tyPow cs2.toList = some (.agg (powNs.map fun m => .lit (.int .u64 m)), p2) := by rw [← powD]; exact hd2
  have hcs := int_row (n := 20) (e := (match Tryz.prog.underlying tyPow with | some (.array _ e) => e | _ => 0)) (by kernel_rfl) (by kernel_rfl) (by kernel_rfl) (by kernel_rfl) hd2'
  simp only [World.var?, gPow, Option.bind_some] at hv2
  split at hv2
  · rename_i c t fr hh
    cases hv2
    refine ⟨t, fr, ?_⟩
    rw [hh, ← hcs]
  · cases hv2

/-- THE WALK. -/
theorem walk (a0 a1 : Int) (w : World) (hg : ∃ t fr, w.heap[5]? = some (.cells (powNs.map (Value.int .u64)).toArray t fr)) :
    Calls Tryz.prog 4 #[.int .i64 a0, .int .i64 a1] w fun e w' => e = .returned (.bool true) ∧ w.keptBut w' (fun _ => False) := by
  obtain ⟨N, M', D', h⟩ := pins_true a0 a1
  obtain ⟨t, fr, ht⟩ := hg
  have hlt : 5 < w.heap.size := (Array.getElem?_eq_some_iff.1 ht).1
  let K : Ctx := ⟨[], [], fun _ => 0, w, w.heap.size⟩
  have hI : Inv K := by
    refine ⟨rfl, fun o o' ho => absurd ho (Nat.not_lt_zero _), fun o ho => absurd ho (Nat.not_lt_zero _), fun o ho => absurd ho (Nat.not_lt_zero _), fun o ho => absurd ho (Nat.not_lt_zero _), fun b hb => absurd hb (Nat.lt_irrefl 0), Nat.le_refl _, fun b n _ hn => absurd hn (Nat.not_lt_zero _), ?_⟩
    intro p hp
    simp only [globs, List.mem_singleton] at hp
    subst hp
    exact ⟨hlt, t, fr, ht⟩
  refine (callF_sound mixed GG_ok prA_ok prA_dirty h (K := K) (vs := [.int .i64 a0, .int .i64 a1]) rfl hI (.cons _ _ _ _ (.i _ _) (.cons _ _ _ _ (.i _ _) .nil))).mono fun e w' ⟨u, K', he, hw, hM, hE, hI', hR⟩ => ?_
  subst he hw
  cases hR
  refine ⟨rfl, hE.os, hE.output, fun i hi => ?_⟩
  have hh : K'.w.heap[i]? = w.heap[i]? := by
    rcases hE.frame i hi (fun o ho => absurd ho (Nat.not_lt_zero _)) with h | ⟨h, _⟩
    · exact h
    · exact absurd hi (Nat.not_lt_of_le h)
  rw [hh]
  exact (World.keptBut_refl w (fun _ => False)).2.2 i hi

set_option maxRecDepth 100000 in
theorem lifted (os : Os) (started : os.Started) (H : Type) (enc : TypeId × Value → H) :
    ReturnsInHanded {} Tryz.checked os 4 .any (fun w args => (Rows.gensPinsSpec.pre enc Tryz.prog Tryz.f4 [] false w args ∧ laidMetH Tryz.prog laidL w) ∧ sizedMet enc Tryz.prog Tryz.f4 (OpenSpec.ofChange Rows.gensPinsSpec) false w args)
      (Rows.gensPinsSpec.post enc Tryz.prog Tryz.f4 false true false false) := by
  refine returnsInHanded_of_change_and (C := Tryz.checked) (X := fun w _ => laidMetH Tryz.prog laidL w) (fun _ _ _ hh h => h.of_heap hh) own started (by kernel_rfl) Tryz.func4
    (ChangeSpec.witness_shaped (enc := enc) (C := Tryz.checked) (os := os) (X := fun w _ => laidMetH Tryz.prog laidL w) false (wit os) #[.int .i64 0, .int .i64 0] 8 rfl (shp os _) (by kernel_rfl) (by kernel_rfl) (by kernel_rfl) (door_met os _)) ?_
  intro W base args ds gs before hval0 hW _ _ hL _
  have hval : ∀ (j : Nat) t v, Tryz.f4.params[j]? = some t → args[j]? = some v → Value.okWide Tryz.prog W .any base t v := hval0
  have hW' := hW
  obtain ⟨p, q, hA0, hV, rfl, hfz, hnd⟩ := hW
  have hA : DataW.TrodAll enc Tryz.prog W 0 (fun _ => true) true Tryz.f4.params.toList args.toList ds p := hA0
  rw [Tryz.params4] at hA hval
  obtain ⟨v0, vs0, d0, ds0, p0, q0, hargs, rfl, rfl, h0, r0⟩ := trodAll_cons hA
  obtain ⟨v1, vs1, d1, ds1, p1, q1, rfl, rfl, rfl, h1, r1⟩ := trodAll_cons r0
  obtain ⟨rfl, rfl, rfl⟩ := trodAll_nil r1
  obtain rfl : args = #[v0, v1] := by cases args; simp_all
  obtain ⟨rfl, rfl⟩ := trodVars_none hV
  obtain ⟨a0, rfl, rfl, rfl, w0⟩ := open_int Tryz.underlying3 (hval 0 3 v0 rfl rfl) h0
  obtain ⟨a1, rfl, rfl, rfl, w1⟩ := open_int Tryz.underlying3 (hval 1 3 v1 rfl rfl) h1
  clear hA0 hval0
  simp only [List.append_nil] at hW'
  refine (walk a0 a1 W (of_laid hL)).mono fun e W' ⟨he, hk⟩ => ?_
  subst he
  refine ⟨_, rfl, _, _, [], [], [], [], hW', ?_, ?_, ?_, World.keptBut_mono (fun _ h => h.elim) hk, fun h => by cases h⟩
  · exact trodAll_cons_mk (shut_bool Tryz.underlying4 _) trodAll_mk0
  · exact trodAll_cons_mk (shut_int Tryz.underlying3 w0) (trodAll_cons_mk (shut_int Tryz.underlying3 w1) trodAll_mk0)
  · rfl

theorem pins_over : Rows.gensPinsRow.holds Tryz.pinned (OpenSpec.ofChange Rows.gensPinsSpec) :=
  OpenClaim.holds_of_wide 4 Tryz.f4 rfl rfl rfl rfl rfl rfl rfl ⟨rfl, rfl, rfl, rfl, rfl⟩ rfl rfl rfl rfl rfl (by kernel_rfl) Tryz.func4 (by kernel_rfl)
    (of_decide_eq_true (by kernel_rfl)) (by unfold Func.isWrapper; first | (rw [if_pos (by decide +kernel)]; kernel_rfl) | (rw [if_neg (by decide +kernel)]; exact ⟨rfl, rfl⟩))
    (fun os started H enc _ => lifted os started H enc)
end Go.Proofs.YtkhhpimjofkbiaaGreatDoor
