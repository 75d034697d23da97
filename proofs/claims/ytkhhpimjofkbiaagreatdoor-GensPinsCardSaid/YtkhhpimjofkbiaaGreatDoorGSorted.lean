/- Part GSorted of the proof of GensPins. -/
import Derived.Test.YtkhhpimjofkbiaaGreatDoorGBelow
import Derived.Test.YtkhhpimjofkbiaaGreatDoorGSortLay
set_option linter.unusedVariables false
set_option linter.unusedSimpArgs false
set_option linter.unusedVariables false
set_option linter.unusedSimpArgs false
namespace Go.Adm
open Go Go.RowKit Go.Proofs Go.Maps

section
variable {K : Ctx}
/-- A new row of the call's own, whose first cells are told. -/
theorem row_ok (hI : Inv K) {w' : World} (h : Below K.w.heap.size K.w w') {g n : Nat} {cur : Array Value} {e : TypeId} {fr : Nat × Nat} (hg : K.w.heap.size ≤ g) (hh : w'.heap[g]? = some (.cells cur e fr)) (hn : n ≤ cur.size) :
    Ext K ⟨K.M, K.ι, fun b => if b = g then n else K.F b, w', K.B⟩ ∧ Inv ⟨K.M, K.ι, fun b => if b = g then n else K.F b, w', K.B⟩ := by
  have hF : ∀ b, b < K.w.heap.size → (if b = g then n else K.F b) = K.F b := fun b hb => by rw [if_neg (by omega)]
  have hgl : g < w'.heap.size := (Array.getElem?_eq_some_iff.1 hh).1
  have hext : Ext K ⟨K.M, K.ι, fun b => if b = g then n else K.F b, w', K.B⟩ := by
    refine ⟨⟨rfl, Nat.le_refl _, fun _ _ => rfl, fun _ _ => Nat.le_refl _, fun _ _ _ => rfl, fun _ _ _ => rfl, fun b off hf => ?_, fun b m hm => ?_, h.size, h.os, h.tape, h.output⟩, fun i hi => .inl ⟨i, hi, rfl⟩, fun b hb _ => .inl (h.block b hb), fun b hb _ => hF b hb⟩
    · have hlt := hI.F b (by omega)
      exact ⟨by show off < (if b = g then n else K.F b); rw [hF b hlt]; exact hf, cell_of_block (h.block b hlt) off⟩
    · have hlt := bsize_lt hm
      unfold bsize
      rw [h.block b hlt]
      exact hm
  refine ⟨hext, ⟨hI.len, hI.inj, fun i hi => Nat.lt_of_lt_of_le (hI.lt i hi) h.size, hI.base, fun i hi => ?_, fun b hb => ?_, Nat.le_trans hI.baseH h.size, fun b m hm hF' => ?_, hI.glob.ext hext hI.base hI.baseH⟩⟩
  · exact (hI.obj i hi).mono hext.toExt0 (h.block _ (hI.at_lt hi)) (hF _ (hI.at_lt hi))
  · by_cases e1 : b = g
    · subst e1; exact hgl
    · have : 0 < (if b = g then n else K.F b) := hb
      rw [if_neg e1] at this
      exact Nat.lt_of_lt_of_le (hI.F b this) h.size
  · by_cases e1 : b = g
    · subst e1
      have h1 : m < (if b = b then n else K.F b) := hF'
      rw [if_pos rfl] at h1
      have h2 : bsize w' b = some m := hm
      simp only [bsize, hh, Option.some.injEq] at h2
      omega
    · have h1 : m < (if b = g then n else K.F b) := hF'
      rw [if_neg e1] at h1
      have hlt := hI.F b (by omega)
      have hm' : bsize K.w b = some m := by
        have : bsize w' b = some m := hm
        unfold bsize at this ⊢
        rw [← h.block b hlt]
        exact this
      obtain ⟨c, t, h3⟩ := hI.mark b m hm' h1
      exact ⟨c, t, by show w'.heap[b]? = _ ∨ w'.heap[b]? = _; rw [h.block b hlt]; exact h3⟩

/-- An answer that is a new row. -/
theorem callPost_row (hI : Inv K) {w' : World} (h : Below K.w.heap.size K.w w') {e : TypeId} {v : Value} {n : Nat} {xs : List Value} {cs : List AV} (hr : w'.ownsRow K.w.heap.size e 1 v n xs) (hx : ∀ K' : Ctx, RepL K' cs xs) :
    CallPost K (.sl cs n .any, K.M, []) (.returned v) w' := by
  obtain ⟨hl, hr⟩ := hr
  rcases hr with ⟨rfl, rfl⟩ | ⟨g, cap, cur, rfl, h1, h2, h3, h4, h5, h6⟩
  · obtain ⟨h1, h2⟩ := below_ok hI h
    have : xs = [] := List.length_eq_zero_iff.1 (by omega)
    subst this
    have hcs : cs = [] := List.length_eq_zero_iff.1 (by have := (hx K).length; simpa using this)
    subst hcs
    exact ⟨_, ⟨K.M, K.ι, K.F, w', K.B⟩, rfl, rfl, rfl, h1, h2, .sl [] 0 .any none 0 0 0 [] .nil (fun h => absurd rfl h) (fun h => absurd rfl h) (fun j hj => absurd hj (Nat.not_lt_zero _)) trivial (Nat.le_refl _)⟩
  · have hn : n ≤ cur.size := by omega
    obtain ⟨e1, i1⟩ := row_ok hI h h1 h2 hn
    refine ⟨_, ⟨K.M, K.ι, fun b => if b = g then n else K.F b, w', K.B⟩, rfl, rfl, rfl, e1, i1, .sl cs n .any (some ⟨g, 0, none⟩) cap g 0 xs (hx _) (fun _ => rfl) (fun _ => ?_) (fun j hj => ?_) trivial h3⟩
    · have h7 := (hx K).length
      show 0 + cs.length ≤ (if g = g then n else K.F g)
      rw [if_pos rfl]
      omega
    · have hj' : j < cur.toList.length := by
        rw [← h6, List.length_take] at hj
        omega
      show w'.cell? (ad g (0 + j)) = _
      rw [Nat.zero_add]
      simp only [World.cell?, h2, Option.isSome_none, Bool.false_eq_true, if_false]
      rw [← Array.getElem?_toList, List.getElem?_eq_getElem hj']
      congr 1
      have := congrArg (fun l => l[j]?) h6
      simp only [List.getElem?_take] at this
      rw [if_pos (by rw [← h6, List.length_take] at hj; omega), List.getElem?_eq_getElem hj', List.getElem?_eq_getElem hj, Option.some.injEq] at this
      exact this
end

/-- The keys of a map that an int names; its stamps told apart. -/
noncomputable def intKeysP : List (AV × AV × Nat) → Option (List Int)
  | [] => some []
  | (.i .i64 n, _, _) :: r => match intKeysP r with | some l => some (n :: l) | none => none
  | _ => none

noncomputable def insI (x : Int) : List Int → List Int := List.rec [x] (fun y r ih => bif intLe x y then x :: y :: r else y :: ih)
noncomputable def isortI (l : List Int) : List Int := List.rec [] (fun x _ ih => insI x ih) l

theorem insI_perm (x : Int) : ∀ l : List Int, (insI x l).Perm (x :: l)
  | [] => .refl _
  | y :: r => by
    show (bif intLe x y then x :: y :: r else y :: insI x r).Perm _
    cases intLe x y
    · exact ((insI_perm x r).cons y).trans (.swap x y r)
    · exact .refl _
theorem isortI_perm : ∀ l : List Int, (isortI l).Perm l
  | [] => .refl _
  | x :: l => (insI_perm x (isortI l)).trans ((isortI_perm l).cons x)
theorem insI_sorted (x : Int) : ∀ l : List Int, l.Pairwise (· ≤ ·) → (insI x l).Pairwise (· ≤ ·)
  | [], _ => by simp [insI]
  | y :: r, h => by
    show (bif intLe x y then x :: y :: r else y :: insI x r).Pairwise _
    rw [List.pairwise_cons] at h
    cases hb : intLe x y
    · rw [intLe_eq, decide_eq_false_iff_not] at hb
      simp only [cond_false]
      rw [List.pairwise_cons]
      refine ⟨fun z hz => ?_, insI_sorted x r h.2⟩
      rcases List.mem_cons.1 ((insI_perm x r).subset hz) with rfl | hz
      · omega
      · exact h.1 z hz
    · rw [intLe_eq, decide_eq_true_eq] at hb
      simp only [cond_true]
      rw [List.pairwise_cons, List.pairwise_cons]
      refine ⟨fun z hz => ?_, h⟩
      rcases List.mem_cons.1 hz with rfl | hz
      · exact hb
      · exact Int.le_trans hb (h.1 z hz)
theorem isortI_sorted : ∀ l : List Int, (isortI l).Pairwise (· ≤ ·)
  | [] => .nil
  | x :: l => insI_sorted x _ (isortI_sorted l)

theorem isortI_merge {l l' : List Int} (h : l'.Perm l) : l'.mergeSort (fun x y => decide (x ≤ y)) = isortI l := by
  have tr : ∀ a b c : Int, (fun x y : Int => decide (x ≤ y)) a b = true → (fun x y : Int => decide (x ≤ y)) b c = true → (fun x y : Int => decide (x ≤ y)) a c = true := fun a b c h1 h2 => by
    simp only [decide_eq_true_eq] at *
    omega
  have to : ∀ a b : Int, ((fun x y : Int => decide (x ≤ y)) a b || (fun x y : Int => decide (x ≤ y)) b a) = true := fun a b => by
    simp only [Bool.or_eq_true, decide_eq_true_eq]
    omega
  refine List.Perm.eq_of_pairwise (le := fun a b : Int => a ≤ b) (fun a b _ _ h1 h2 => by omega) ?_ (isortI_sorted l) ?_
  · have := List.pairwise_mergeSort tr to l'
    exact this.imp fun h => by simpa using h
  · exact (List.mergeSort_perm l' _).trans (h.trans (isortI_perm l).symm)

/-- No two alike. -/
noncomputable def distB (l : List Nat) : Bool := List.rec true (fun x r ih => bif allB (fun y => !Nat.beq x y) r then ih else false) l
noncomputable def distI (l : List Int) : Bool := List.rec true (fun x r ih => bif allB (fun y => !intEq x y) r then ih else false) l
theorem distB_ok : ∀ l : List Nat, distB l = true → l.Nodup
  | [], _ => .nil
  | x :: l, h => by
    have h' : (bif allB (fun y => !Nat.beq x y) l then distB l else false) = true := h
    rw [allB_eq] at h'
    cases hb : l.all fun y => !Nat.beq x y
    · rw [hb] at h'; cases h'
    · rw [hb] at h'
      rw [List.nodup_cons]
      refine ⟨fun hx => ?_, distB_ok l h'⟩
      have := List.all_eq_true.1 hb x hx
      simp at this
theorem distI_ok : ∀ l : List Int, distI l = true → l.Nodup
  | [], _ => .nil
  | x :: l, h => by
    have h' : (bif allB (fun y => !intEq x y) l then distI l else false) = true := h
    rw [allB_eq] at h'
    cases hb : l.all fun y => !intEq x y
    · rw [hb] at h'; cases h'
    · rw [hb] at h'
      rw [List.nodup_cons]
      refine ⟨fun hx => ?_, distI_ok l h'⟩
      have := List.all_eq_true.1 hb x hx
      simp [intEq_eq] at this

/-- A map as one reads it: keys apart, stamps apart and below the clock. -/
noncomputable def mapFitB (es : List (AV × AV × Nat)) (ks : List Int) (clock : Nat) : Bool :=
  distI ks && distB (es.map (·.2.2)) && (es.all fun e => Nat.blt e.2.2 clock) && (ks.all fun n => intLe (-9223372036854775808) n && intLe n 9223372036854775807) && Nat.ble es.length 1000000

theorem intKeysP_ok : ∀ {es : List (AV × AV × Nat)} {l : List Int}, intKeysP es = some l → es.map (·.1) = l.map fun n => AV.i .i64 n
  | [], l, h => by simp only [intKeysP, Option.some.injEq] at h; subst h; rfl
  | e :: r, l, h => by
    unfold intKeysP at h
    split at h
    · rename_i heq; cases heq
    · rename_i n x y r' heq
      cases heq
      cases hr : intKeysP r with
      | none => simp [hr] at h
      | some q =>
        simp only [hr, Option.some.injEq] at h
        subst h
        simp [intKeysP_ok hr]
    · cases h

section
variable {P : Program} {K : Ctx}
theorem RepE.keysI {es : List (AV × AV × Nat)} {ents : List MapEntry} {l : List Int} (h : RepE K es ents) (hk : intKeysP es = some l) : ents.map (·.key) = l.map (fun n => Value.int .i64 n) ∧ ents.map (·.born) = es.map (·.2.2) := by
  have hm := intKeysP_ok hk
  have hll : es.length = l.length := by
    have := congrArg List.length hm
    simpa using this
  constructor
  · apply List.ext_getElem
    · simp [← h.1, hll]
    · intro j h1 h2
      have hj : j < es.length := by simp at h1; rw [h.1]; exact h1
      have hj' : j < ents.length := by simpa using h1
      have hr := (h.2 j hj hj').1
      have h3 := congrArg (fun q => q[j]?) hm
      simp only [List.getElem?_map, List.getElem?_eq_getElem hj, List.getElem?_eq_getElem (show j < l.length by omega), Option.map_some, Option.some.injEq] at h3
      rw [h3] at hr
      simp only [List.getElem_map]
      generalize ents[j].key = kv at hr ⊢
      cases hr
      rfl
  · apply List.ext_getElem
    · simp [← h.1]
    · intro j h1 h2
      have hj : j < es.length := by simpa using h2
      have hj' : j < ents.length := by simpa using h1
      simp only [List.getElem_map]
      exact (h.2 j hj hj').2.2.symm

/-- The map as the kit's laws read it: keys alone. -/
theorem owns_of {H : Type} {k : TypeId} (hk : P.underlying k = some (.int .i64)) {o : Nat} {es : List (AV × AV × Nat)} {clock : Nat} {l : List Int} (hI : Inv K) (ho : K.M[o]? = some (.map es clock)) (hl : intKeysP es = some l) (hf : mapFitB es l clock = true) :
    ∃ D0 : DataW H, K.w.ownsMap P k (fun _ => some (.nil, [])) (K.at o) es.length D0 ∧ (intKeys D0).Perm l ∧ Maps.size D0 = es.length := by
  have ho' : o < K.M.length := (List.getElem?_eq_some_iff.1 ho).1
  have hob := hI.obj o ho'
  have hMo : K.M[o] = .map es clock := by rw [List.getElem?_eq_getElem ho', Option.some.injEq] at ho; exact ho
  rw [hMo] at hob
  obtain ⟨ents, q1, q2, q3⟩ := hob
  obtain ⟨hkeys, hborn⟩ := q2.keysI hl
  simp only [mapFitB, Bool.and_eq_true] at hf
  obtain ⟨⟨⟨⟨f1, f2⟩, f3⟩, f4⟩, f5⟩ := hf
  have hlen : ents.size = es.length := by rw [q2.1]; simp
  have hwf : ∀ n ∈ l, (Lit.int .i64 n).wf = true := fun n hn => by
    have := List.all_eq_true.1 f4 n hn
    rw [Bool.and_eq_true, intLe_eq, intLe_eq, decide_eq_true_eq, decide_eq_true_eq] at this
    simp only [Lit.wf, IntKind.min, IntKind.max, IntKind.signed, IntKind.bits, if_true, Bool.and_eq_true, decide_eq_true_eq]
    constructor
    · exact this.1
    · exact this.2
  have hreads : ∀ x ∈ ents.toList, ∃ n ∈ l, x.key = .int .i64 n := fun x hx => by
    have : x.key ∈ ents.toList.map (·.key) := List.mem_map_of_mem hx
    rw [hkeys] at this
    obtain ⟨n, hn, he⟩ := List.mem_map.1 this
    exact ⟨n, hn, he.symm⟩
  have hkey : ∀ n ∈ l, keyOf P k (.int .i64 n) = some (.int .i64 n) := fun n hn => by
    simp only [keyOf, hk, mapKey]
    simp [hwf n hn]
  have hrd : ∀ x ∈ ents.toList, ∀ n, x.key = .int .i64 n → n ∈ l → WideElems.rd (H := H) P k (fun _ => some (.nil, [])) x = some (.int .i64 n, .nil) := fun x hx n he hn => by
    simp [WideElems.rd, he, hkey n hn]
  have hrg : (ents.toList.map (WideElems.rg (H := H) P k (fun _ => some (.nil, [])))).map (fun p => intOf p.1) = l := by
    have h1 : (ents.toList.map (WideElems.rg (H := H) P k (fun _ => some (.nil, [])))).map (fun p => intOf p.1) = ents.toList.map (fun x => match x.key with | .int _ n => n | _ => 0) := by
      rw [List.map_map]
      apply List.map_congr_left
      intro x hx
      obtain ⟨n, hn, he⟩ := hreads x hx
      simp only [Function.comp, WideElems.rg, hrd x hx n he hn, Option.getD_some, intOf, he]
    rw [h1]
    have h2 : ents.toList.map (fun x => match x.key with | .int _ n => n | _ => 0) = (ents.toList.map (·.key)).map (fun v => match v with | .int _ n => n | _ => 0) := by
      rw [List.map_map]; rfl
    rw [h2, hkeys, List.map_map]
    have : ((fun v : Value => match v with | .int _ n => n | _ => 0) ∘ fun n : Int => Value.int .i64 n) = id := by funext n; rfl
    rw [this, List.map_id]
  have hins : ∀ (y : Lit × DataW H) (q : List (Lit × DataW H)), (DataW.insert y q).Perm (y :: q) := fun y q => by
    induction q with
    | nil => exact .refl _
    | cons z q ih =>
      unfold DataW.insert
      split
      · exact .refl _
      · exact (ih.cons z).trans (.swap y z q)
  have hfold : ∀ q : List (Lit × DataW H), (q.foldr DataW.insert []).Perm q := fun q => by
    induction q with
    | nil => exact .refl _
    | cons y q ih => exact (hins y _).trans (ih.cons y)
  refine ⟨_, ⟨ents, clock, q1, ⟨?_, ⟨fun x hx => ?_, ?_, ?_⟩, fun x hx => ?_⟩, by omega, rfl⟩, ?_, ?_⟩
  · rw [Nat.ble_eq] at f5
    have : (1000000 : Nat) ≤ maxLen := by decide
    omega
  · have : x.born ∈ ents.toList.map (·.born) := List.mem_map_of_mem hx
    rw [hborn] at this
    obtain ⟨e, he, heq⟩ := List.mem_map.1 this
    have := List.all_eq_true.1 f3 e he
    rw [Nat.blt_eq] at this
    omega
  · rw [hborn]; exact distB_ok _ f2
  · rw [hkeys]
    exact List.Pairwise.map _ (fun a b hab e => hab (by injection e)) (distI_ok _ f1)
  · obtain ⟨n, hn, he⟩ := hreads x hx
    exact ⟨_, hrd x hx n he hn⟩
  · show (List.map (fun p : Lit × DataW H => intOf p.1) _).Perm l
    rw [← hrg]
    exact (hfold _).map _
  · show List.length _ = _
    rw [(hfold _).length_eq, List.length_map]
    simpa using hlen
end

noncomputable def sortedP (M : List AObj) (q : Nat) : Option AV :=
  match M[q]? with
  | some (.box _ [.mp o]) => match M[o]? with
    | some (.map es clock) => match intKeysP es with
      | some l => if mapFitB es l clock = true then some (.sl ((isortI l).map fun n => .i .i64 n) es.length .any) else none
      | none => none
    | _ => none
  | _ => none

noncomputable def pSorted : List AV → List AObj → Option Acted := fun args M => match args with
  | [.fn g [.ptr q 0]] => if g = 87 ∨ g = 205 then match sortedP M q with | some v => some (v, M, []) | none => none else none
  | _ => none

theorem sorted_ok : PrimOK Tryz.prog 54 pSorted := {
  fn := ⟨Tryz.f54, Tryz.func54, by kernel_rfl, by kernel_rfl⟩
  ok K xs vs r hI hR h := by
    unfold pSorted at h
    split at h
    · rename_i g q
      split at h
      · rename_i hg
        split at h
        · rename_i v hv
          simp only [Option.some.injEq] at h
          subst h
          unfold sortedP at hv
          split at hv
          · rename_i ty o hq
            split at hv
            · rename_i es clock ho
              split at hv
              · rename_i l hl
                split at hv
                · rename_i hf
                  simp only [Option.some.injEq] at hv
                  subst hv
                  cases hR with | cons _ u _ us hx ht =>
                  cases ht
                  cases hx with | fn _ _ cvs hcap =>
                  cases hcap with | cons _ pv _ pvs hp hpt =>
                  cases hpt
                  cases hp with | ptr _ _ hqι hE =>
                  have hq' : q < K.M.length := (List.getElem?_eq_some_iff.1 hq).1
                  have hob := hI.obj q hq'
                  have hMq : K.M[q] = .box ty [.mp o] := by rw [List.getElem?_eq_getElem hq', Option.some.injEq] at hq; exact hq
                  rw [hMq] at hob
                  obtain ⟨c, t, fr, h1, h2, _⟩ := hob
                  have hc : c = #[.map (some (K.at o))] := by
                    generalize hcl : c.toList = cl at h2
                    cases h2 with | cons _ m _ ms hm hms =>
                    cases hms
                    cases hm
                    apply Array.ext'
                    simpa using hcl
                  subst hc
                  have hcell : K.w.cell? ⟨K.at q, 0, none⟩ = some (.map (some (K.at o))) := by simp [World.cell?, h1]
                  have hBm : K.at q < K.w.heap.size := hI.at_lt hq'
                  have key : ∀ (D0 : DataW Unit), Maps.size D0 = es.length → (intKeys D0).Perm l → SeqGives Fence.wide 2 Tryz.prog g #[.pointer (some ⟨K.at q, 0, none⟩)] encZ (fun ss => ss.Perm (intKeys D0)) (Maps.size D0) K.w →
                      (∀ args w, (callFunc g args).run Tryz.prog w = .ok (.enter g args) w) → CallOK Tryz.prog K 54 [.func (.func g) #[] #[.pointer (some (ad (K.at q) 0))]] (.sl ((isortI l).map fun n => .i .i64 n) es.length .any, K.M, []) := by
                    intro D0 hsz hperm hseq heg
                    have hsmall : es.length ≤ 1000000 := by
                      simp only [mapFitB, Bool.and_eq_true, Nat.ble_eq] at hf
                      exact hf.2
                    have hmax : Maps.size D0 ≤ maxLen := by
                      have : (1000000 : Nat) ≤ maxLen := by decide
                      omega
                    have cS := AnyZI.sorted_in Tryz.sortedA Fence.wide 5 trivial trivial trivial trivial rfl (by omega) (Tryz.sortsA _) (enters_of Tryz.func86 (by kernel_rfl) rfl) g #[.pointer (some ⟨K.at q, 0, none⟩)] trivial heg _ _ hmax (by omega) _ hseq
                    have hcalls := (callsIn_wide (n := 5)).1 cS
                    refine Calls.mono hcalls fun e w' ⟨v, ss, he, hS, hrow, hnil, hb⟩ => ?_
                    subst he
                    have hss := isortI_merge (hS.trans hperm)
                    rw [hss] at hrow
                    have hlen : ss.length = es.length := by
                      have h5 := (hS.trans hperm).length_eq
                      have h6 := congrArg List.length (intKeysP_ok hl)
                      simp only [List.length_map] at h6
                      omega
                    rw [hlen] at hrow
                    refine callPost_row hI hb hrow (fun K' => ?_)
                    generalize isortI l = sl
                    induction sl with
                    | nil => exact .nil
                    | cons x sl ih => exact .cons _ _ _ _ (.i .i64 x) ih
                  rcases hg with rfl | rfl
                  · obtain ⟨D0, d1, d2, d3⟩ := owns_of (H := Unit) (P := Tryz.prog) (k := Tryz.keysA_ren.t 26) Tryz.keysA.t26 hI ho hl hf
                    exact key D0 d3 d2 (AnyZI.keys_gives (ρ := Tryz.keysA_ren) { Tryz.keysA with } Fence.wide 2 trivial rfl (by omega) (K.at q) (K.at o) es.length D0 K.w hBm hcell d1) (enters_of Tryz.func87 (by kernel_rfl) rfl)
                  · obtain ⟨D0, d1, d2, d3⟩ := owns_of (H := Unit) (P := Tryz.prog) (k := Tryz.keysB_ren.t 26) Tryz.keysB.t26 hI ho hl hf
                    exact key D0 d3 d2 (AnyZI.keys_gives (ρ := Tryz.keysB_ren) { Tryz.keysB with } Fence.wide 2 trivial rfl (by omega) (K.at q) (K.at o) es.length D0 K.w hBm hcell d1) (enters_of Tryz.func205 (by kernel_rfl) rfl)
                · cases hv
              · cases hv
            · cases hv
          · cases hv
        · cases h
      · cases h
    · cases h }
end Go.Adm
