/- Part GSortedS of the proof of GensPins. -/
import Derived.Test.YtkhhpimjofkbiaaGreatDoorGSorted
import Derived.Test.YtkhhpimjofkbiaaGreatDoorGSortSLay
set_option linter.unusedVariables false
set_option linter.unusedSimpArgs false
set_option linter.unusedVariables false
set_option linter.unusedSimpArgs false
namespace Go.Adm
open Go Go.RowKit Go.Proofs Go.Maps

noncomputable def bltS (x : List UInt8) : List UInt8 → Bool :=
  List.rec (fun y => List.rec false (fun _ _ _ => true) y) (fun a _ ih y => List.rec false (fun b y' _ => bif Nat.blt a.toNat b.toNat then true else bif Nat.beq a.toNat b.toNat then ih y' else false) y) x
theorem bltS_eq : ∀ x y : List UInt8, bltS x y = decide (x < y)
  | [], [] => by rw [← bytesLess_eq]; rfl
  | _ :: _, [] => by rw [← bytesLess_eq]; rfl
  | [], _ :: _ => by rw [← bytesLess_eq]; rfl
  | a :: x, b :: y => by
    rw [← bytesLess_eq, Op.bytesLess, bytesLess_eq, ← bltS_eq x y]
    show (bif Nat.blt a.toNat b.toNat then true else bif Nat.beq a.toNat b.toNat then bltS x y else false) = _
    have h1 : Nat.blt a.toNat b.toNat = decide (a < b) := by
      rw [Bool.eq_iff_iff, Nat.blt_eq, decide_eq_true_eq]; exact Iff.rfl
    have h2 : Nat.beq a.toNat b.toNat = (a == b) := by
      rw [Bool.eq_iff_iff, Nat.beq_eq, beq_iff_eq, UInt8.toNat_inj]
    rw [h1, h2]
    cases decide (a < b) <;> cases (a == b) <;> rfl
/-- x ≤ y -/
noncomputable def leS (x y : List UInt8) : Bool := !bltS y x
theorem leS_eq (x y : List UInt8) : leS x y = decide (x ≤ y) := by
  unfold leS
  rw [bltS_eq, ← decide_not]
  congr 1

/-- The keys of a map that an int names; its stamps told apart. -/
noncomputable def strKeysP : List (AV × AV × Nat) → Option (List (List UInt8))
  | [] => some []
  | (.s n, _, _) :: r => match strKeysP r with | some l => some (n :: l) | none => none
  | _ => none

noncomputable def insS (x : List UInt8) : List (List UInt8) → List (List UInt8) := List.rec [x] (fun y r ih => bif leS x y then x :: y :: r else y :: ih)
noncomputable def isortS (l : List (List UInt8)) : List (List UInt8) := List.rec [] (fun x _ ih => insS x ih) l

theorem insS_perm (x : List UInt8) : ∀ l : List (List UInt8), (insS x l).Perm (x :: l)
  | [] => .refl _
  | y :: r => by
    show (bif leS x y then x :: y :: r else y :: insS x r).Perm _
    cases leS x y
    · exact ((insS_perm x r).cons y).trans (.swap x y r)
    · exact .refl _
theorem isortS_perm : ∀ l : List (List UInt8), (isortS l).Perm l
  | [] => .refl _
  | x :: l => (insS_perm x (isortS l)).trans ((isortS_perm l).cons x)
theorem insS_sorted (x : List UInt8) : ∀ l : List (List UInt8), l.Pairwise (· ≤ ·) → (insS x l).Pairwise (· ≤ ·)
  | [], _ => by simp [insS]
  | y :: r, h => by
    show (bif leS x y then x :: y :: r else y :: insS x r).Pairwise _
    rw [List.pairwise_cons] at h
    cases hb : leS x y
    · rw [leS_eq, decide_eq_false_iff_not] at hb
      have hb' : y ≤ x := (List.le_total x y).resolve_left hb
      simp only [cond_false]
      rw [List.pairwise_cons]
      refine ⟨fun z hz => ?_, insS_sorted x r h.2⟩
      rcases List.mem_cons.1 ((insS_perm x r).subset hz) with rfl | hz
      · exact hb'
      · exact h.1 z hz
    · rw [leS_eq, decide_eq_true_eq] at hb
      simp only [cond_true]
      rw [List.pairwise_cons, List.pairwise_cons]
      refine ⟨fun z hz => ?_, h⟩
      rcases List.mem_cons.1 hz with rfl | hz
      · exact hb
      · exact List.le_trans hb (h.1 z hz)
theorem isortS_sorted : ∀ l : List (List UInt8), (isortS l).Pairwise (· ≤ ·)
  | [] => .nil
  | x :: l => insS_sorted x _ (isortS_sorted l)

theorem isortS_merge {l l' : List (List UInt8)} (h : l'.Perm l) : l'.mergeSort (fun x y => decide (x ≤ y)) = isortS l := by
  have tr : ∀ a b c : List UInt8, leB a b = true → leB b c = true → leB a c = true := fun a b c h1 h2 => by simp only [leB, decide_eq_true_eq] at *; exact List.le_trans h1 h2
  have to : ∀ a b : List UInt8, (leB a b || leB b a) = true := fun a b => by simp only [leB, Bool.or_eq_true, decide_eq_true_eq]; exact List.le_total a b
  refine List.Perm.eq_of_pairwise (le := fun a b : List UInt8 => a ≤ b) (fun a b _ _ h1 h2 => List.le_antisymm h1 h2) ?_ (isortS_sorted l) ?_
  · have := List.pairwise_mergeSort tr to l'
    exact this.imp fun h => by simpa using h
  · exact (List.mergeSort_perm l' _).trans (h.trans (isortS_perm l).symm)

noncomputable def distS (l : List (List UInt8)) : Bool := List.rec true (fun x r ih => bif allB (fun y => !eqBytes x y) r then ih else false) l
theorem distS_ok : ∀ l : List (List UInt8), distS l = true → l.Nodup
  | [], _ => .nil
  | x :: l, h => by
    have h' : (bif allB (fun y => !eqBytes x y) l then distS l else false) = true := h
    rw [allB_eq] at h'
    cases hb : l.all fun y => !eqBytes x y
    · rw [hb] at h'; cases h'
    · rw [hb] at h'
      rw [List.nodup_cons]
      refine ⟨fun hx => ?_, distS_ok l h'⟩
      have := List.all_eq_true.1 hb x hx
      simp [eqBytes_eq] at this

/-- A map as one reads it: keys apart, stamps apart and below the clock. -/
noncomputable def mapFitSB (es : List (AV × AV × Nat)) (ks : List (List UInt8)) (clock : Nat) : Bool :=
  distS ks && distB (es.map (·.2.2)) && (es.all fun e => Nat.blt e.2.2 clock) && (ks.all fun n => Nat.ble n.length 1000000) && Nat.ble es.length 1000000

theorem strKeysP_ok : ∀ {es : List (AV × AV × Nat)} {l : List (List UInt8)}, strKeysP es = some l → es.map (·.1) = l.map fun n => AV.s n
  | [], l, h => by simp only [strKeysP, Option.some.injEq] at h; subst h; rfl
  | e :: r, l, h => by
    unfold strKeysP at h
    split at h
    · rename_i heq; cases heq
    · rename_i n x y r' heq
      cases heq
      cases hr : strKeysP r with
      | none => simp [hr] at h
      | some q =>
        simp only [hr, Option.some.injEq] at h
        subst h
        simp [strKeysP_ok hr]
    · cases h

section
variable {P : Program} {K : Ctx}
theorem RepE.keysStr {es : List (AV × AV × Nat)} {ents : List MapEntry} {l : List (List UInt8)} (h : RepE K es ents) (hk : strKeysP es = some l) : ents.map (·.key) = l.map (fun n => encStr n) ∧ ents.map (·.born) = es.map (·.2.2) := by
  have hm := strKeysP_ok hk
  have hll : es.length = l.length := by
    have := congrArg List.length hm
    simpa using this
  constructor
  · apply List.ext_getElem
    · simp [← h.1, hll]
    · intro j h1 h2
      have hj : j < es.length := by simp at h1; rw [h.1]; exact h1
      have hj' : j < ents.length := by simpa using h1
      have hr := (h.2 j hj hj').1
      have h3 := congrArg (fun q => q[j]?) hm
      simp only [List.getElem?_map, List.getElem?_eq_getElem hj, List.getElem?_eq_getElem (show j < l.length by omega), Option.map_some, Option.some.injEq] at h3
      rw [h3] at hr
      simp only [List.getElem_map]
      generalize ents[j].key = kv at hr ⊢
      cases hr
      rfl
  · apply List.ext_getElem
    · simp [← h.1]
    · intro j h1 h2
      have hj : j < es.length := by simpa using h2
      have hj' : j < ents.length := by simpa using h1
      simp only [List.getElem_map]
      exact (h.2 j hj hj').2.2.symm

/-- The map as the kit's laws read it: keys alone. -/
theorem owns_ofS {H : Type} {k : TypeId} (hk : P.underlying k = some .string) {o : Nat} {es : List (AV × AV × Nat)} {clock : Nat} {l : List (List UInt8)} (hI : Inv K) (ho : K.M[o]? = some (.map es clock)) (hl : strKeysP es = some l) (hf : mapFitSB es l clock = true) :
    ∃ D0 : DataW H, K.w.ownsMap P k (fun _ => some (.nil, [])) (K.at o) es.length D0 ∧ (strKeys D0).Perm l ∧ Maps.size D0 = es.length := by
  have ho' : o < K.M.length := (List.getElem?_eq_some_iff.1 ho).1
  have hob := hI.obj o ho'
  have hMo : K.M[o] = .map es clock := by rw [List.getElem?_eq_getElem ho', Option.some.injEq] at ho; exact ho
  rw [hMo] at hob
  obtain ⟨ents, q1, q2, q3⟩ := hob
  obtain ⟨hkeys, hborn⟩ := q2.keysStr hl
  simp only [mapFitSB, Bool.and_eq_true] at hf
  obtain ⟨⟨⟨⟨f1, f2⟩, f3⟩, f4⟩, f5⟩ := hf
  have hlen : ents.size = es.length := by rw [q2.1]; simp
  have hwf : ∀ n ∈ l, n.length ≤ maxLen := fun n hn => by
    have := List.all_eq_true.1 f4 n hn
    rw [Nat.ble_eq] at this
    have h2 : (1000000 : Nat) ≤ maxLen := by decide
    omega
  have hreads : ∀ x ∈ ents.toList, ∃ n ∈ l, x.key = encStr n := fun x hx => by
    have : x.key ∈ ents.toList.map (·.key) := List.mem_map_of_mem hx
    rw [hkeys] at this
    obtain ⟨n, hn, he⟩ := List.mem_map.1 this
    exact ⟨n, hn, he.symm⟩
  have hkey : ∀ n ∈ l, keyOf P k (encStr n) = some (.string n) := fun n hn => by
    have : (ByteArray.mk n.toArray).size ≤ maxLen := by
      show n.toArray.size ≤ maxLen
      rw [List.size_toArray]
      exact hwf n hn
    simp [keyOf, hk, mapKey, encStr, this]
  have hrd : ∀ x ∈ ents.toList, ∀ n, x.key = encStr n → n ∈ l → WideElems.rd (H := H) P k (fun _ => some (.nil, [])) x = some (.string n, .nil) := fun x hx n he hn => by
    simp [WideElems.rd, he, hkey n hn]
  have hrg : (ents.toList.map (WideElems.rg (H := H) P k (fun _ => some (.nil, [])))).map (fun p => strOf p.1) = l := by
    have h1 : (ents.toList.map (WideElems.rg (H := H) P k (fun _ => some (.nil, [])))).map (fun p => strOf p.1) = ents.toList.map (fun x => match x.key with | .string n => n.data.toList | _ => []) := by
      rw [List.map_map]
      apply List.map_congr_left
      intro x hx
      obtain ⟨n, hn, he⟩ := hreads x hx
      simp only [Function.comp, WideElems.rg, hrd x hx n he hn, Option.getD_some, strOf, he]
    rw [h1]
    have h2 : ents.toList.map (fun x => match x.key with | .string n => n.data.toList | _ => []) = (ents.toList.map (·.key)).map (fun v => match v with | .string n => n.data.toList | _ => []) := by
      rw [List.map_map]; rfl
    rw [h2, hkeys, List.map_map]
    have : ((fun v : Value => match v with | .string n => n.data.toList | _ => []) ∘ fun n : List UInt8 => encStr n) = id := by funext n; rfl
    rw [this, List.map_id]
  have hins : ∀ (y : Lit × DataW H) (q : List (Lit × DataW H)), (DataW.insert y q).Perm (y :: q) := fun y q => by
    induction q with
    | nil => exact .refl _
    | cons z q ih =>
      unfold DataW.insert
      split
      · exact .refl _
      · exact (ih.cons z).trans (.swap y z q)
  have hfold : ∀ q : List (Lit × DataW H), (q.foldr DataW.insert []).Perm q := fun q => by
    induction q with
    | nil => exact .refl _
    | cons y q ih => exact (hins y _).trans (ih.cons y)
  refine ⟨_, ⟨ents, clock, q1, ⟨?_, ⟨fun x hx => ?_, ?_, ?_⟩, fun x hx => ?_⟩, by omega, rfl⟩, ?_, ?_⟩
  · rw [Nat.ble_eq] at f5
    have : (1000000 : Nat) ≤ maxLen := by decide
    omega
  · have : x.born ∈ ents.toList.map (·.born) := List.mem_map_of_mem hx
    rw [hborn] at this
    obtain ⟨e, he, heq⟩ := List.mem_map.1 this
    have := List.all_eq_true.1 f3 e he
    rw [Nat.blt_eq] at this
    omega
  · rw [hborn]; exact distB_ok _ f2
  · rw [hkeys]
    exact List.Pairwise.map _ (fun a b hab e => hab (encStr_inj e)) (distS_ok _ f1)
  · obtain ⟨n, hn, he⟩ := hreads x hx
    exact ⟨_, hrd x hx n he hn⟩
  · show (List.map (fun p : Lit × DataW H => strOf p.1) _).Perm l
    rw [← hrg]
    exact (hfold _).map _
  · show List.length _ = _
    rw [(hfold _).length_eq, List.length_map]
    simpa using hlen
end

noncomputable def sortedSP (M : List AObj) (q : Nat) : Option AV :=
  match M[q]? with
  | some (.box _ [.mp o]) => match M[o]? with
    | some (.map es clock) => match strKeysP es with
      | some l => if mapFitSB es l clock = true then some (.sl ((isortS l).map fun n => .s n) es.length .any) else none
      | none => none
    | _ => none
  | _ => none

noncomputable def pSortedS : List AV → List AObj → Option Acted := fun args M => match args with
  | [.fn g [.ptr q 0]] => if g = 223 then match sortedSP M q with | some v => some (v, M, []) | none => none else none
  | _ => none

theorem sortedS_ok : PrimOK Tryz.prog 171 pSortedS := {
  fn := ⟨Tryz.f171, Tryz.func171, by kernel_rfl, by kernel_rfl⟩
  ok K xs vs r hI hR h := by
    unfold pSortedS at h
    split at h
    · rename_i g q
      split at h
      · rename_i hg
        split at h
        · rename_i v hv
          simp only [Option.some.injEq] at h
          subst h
          unfold sortedSP at hv
          split at hv
          · rename_i ty o hq
            split at hv
            · rename_i es clock ho
              split at hv
              · rename_i l hl
                split at hv
                · rename_i hf
                  simp only [Option.some.injEq] at hv
                  subst hv
                  cases hR with | cons _ u _ us hx ht =>
                  cases ht
                  cases hx with | fn _ _ cvs hcap =>
                  cases hcap with | cons _ pv _ pvs hp hpt =>
                  cases hpt
                  cases hp with | ptr _ _ hqι hE =>
                  have hq' : q < K.M.length := (List.getElem?_eq_some_iff.1 hq).1
                  have hob := hI.obj q hq'
                  have hMq : K.M[q] = .box ty [.mp o] := by rw [List.getElem?_eq_getElem hq', Option.some.injEq] at hq; exact hq
                  rw [hMq] at hob
                  obtain ⟨c, t, fr, h1, h2, _⟩ := hob
                  have hc : c = #[.map (some (K.at o))] := by
                    generalize hcl : c.toList = cl at h2
                    cases h2 with | cons _ m _ ms hm hms =>
                    cases hms
                    cases hm
                    apply Array.ext'
                    simpa using hcl
                  subst hc
                  have hcell : K.w.cell? ⟨K.at q, 0, none⟩ = some (.map (some (K.at o))) := by simp [World.cell?, h1]
                  have hBm : K.at q < K.w.heap.size := hI.at_lt hq'
                  have key : ∀ (D0 : DataW Unit), Maps.size D0 = es.length → (strKeys D0).Perm l → SeqGives Fence.wide 2 Tryz.prog g #[.pointer (some ⟨K.at q, 0, none⟩)] encStr (fun ss => ss.Perm (strKeys D0)) (Maps.size D0) K.w →
                      (∀ args w, (callFunc g args).run Tryz.prog w = .ok (.enter g args) w) → CallOK Tryz.prog K 171 [.func (.func g) #[] #[.pointer (some (ad (K.at q) 0))]] (.sl ((isortS l).map fun n => .s n) es.length .any, K.M, []) := by
                    intro D0 hsz hperm hseq heg
                    have hsmall : es.length ≤ 1000000 := by
                      simp only [mapFitSB, Bool.and_eq_true, Nat.ble_eq] at hf
                      exact hf.2
                    have hmax : Maps.size D0 ≤ maxLen := by
                      have : (1000000 : Nat) ≤ maxLen := by decide
                      omega
                    have cS := AnyZ.sorted_in Tryz.sortedS Fence.wide 5 trivial trivial trivial trivial rfl (by omega) (Tryz.sortsS _) (enters_of Tryz.func222 (by kernel_rfl) rfl) g #[.pointer (some ⟨K.at q, 0, none⟩)] trivial heg _ _ hmax (by omega) _ hseq
                    have hcalls := (callsIn_wide (n := 5)).1 cS
                    refine Calls.mono hcalls fun e w' ⟨v, ss, he, hS, hrow, hnil, hb⟩ => ?_
                    subst he
                    have hss := isortS_merge (hS.trans hperm)
                    rw [hss] at hrow
                    have hlen : ss.length = es.length := by
                      have h5 := (hS.trans hperm).length_eq
                      have h6 := congrArg List.length (strKeysP_ok hl)
                      simp only [List.length_map] at h6
                      omega
                    rw [hlen] at hrow
                    refine callPost_row hI hb hrow (fun K' => ?_)
                    generalize isortS l = sl
                    induction sl with
                    | nil => exact .nil
                    | cons x sl ih => exact .cons _ _ _ _ (.s x) ih
                  subst hg
                  obtain ⟨D0, d1, d2, d3⟩ := owns_ofS (H := Unit) (P := Tryz.prog) (k := Tryz.keysS_ren.t 26) Tryz.keysS.t26 hI ho hl hf
                  exact key D0 d3 d2 (AnyZ.keys_gives (ρ := Tryz.keysS_ren) { Tryz.keysS with } Fence.wide 2 trivial rfl (by omega) (K.at q) (K.at o) es.length D0 K.w hBm hcell d1) (enters_of Tryz.func223 (by kernel_rfl) rfl)
                · cases hv
              · cases hv
            · cases hv
          · cases hv
        · cases h
      · cases h
    · cases h }
end Go.Adm
