/- Part FTree of the proof of GensPins. -/

set_option linter.unusedVariables false
set_option linter.unusedSimpArgs false
set_option linter.all false
namespace Go.Adm

/-! ### Trees: a leaf stands for as many places as one likes. -/
inductive T (α : Type) where | lf (v : α) | nd (l r : T α)
inductive Pth where | e | l (p : Pth) | r (p : Pth)

def pth : Nat → Nat → Pth
  | 0, _ => .e
  | k + 1, n => match n % 2 with | 0 => .l (pth k (n / 2)) | _ + 1 => .r (pth k (n / 2))

def Pth.len : Pth → Nat
  | .e => 0
  | .l p => p.len + 1
  | .r p => p.len + 1

noncomputable def T.get {α : Type} (d : α) (p : Pth) : T α → α :=
  Pth.rec (fun t => T.rec (fun v => v) (fun _ _ _ _ => d) t) (fun _ ih t => T.rec (fun v => v) (fun l _ _ _ => ih l) t) (fun _ ih t => T.rec (fun v => v) (fun _ r _ _ => ih r) t) p
noncomputable def T.set {α : Type} (x : α) (p : Pth) : T α → T α :=
  Pth.rec (fun _ => .lf x) (fun _ ih t => T.rec (fun v => .nd (ih (.lf v)) (.lf v)) (fun l r _ _ => .nd (ih l) r) t) (fun _ ih t => T.rec (fun v => .nd (.lf v) (ih (.lf v))) (fun l r _ _ => .nd l (ih r)) t) p

theorem T.get_lf {α : Type} (d v : α) : ∀ p : Pth, T.get d p (.lf v) = v
  | .e => rfl
  | .l _ => rfl
  | .r _ => rfl

theorem T.get_set {α : Type} (d x : α) : ∀ (p q : Pth) (t : T α), p.len = q.len → (p = q → T.get d p (T.set x q t) = x) ∧ (p ≠ q → T.get d p (T.set x q t) = T.get d p t) := by
  intro p
  induction p with
  | e =>
    intro q t h
    cases q with
    | e => exact ⟨fun _ => rfl, fun h => absurd rfl h⟩
    | l q => simp [Pth.len] at h
    | r q => simp [Pth.len] at h
  | l p ih =>
    intro q t h
    cases q with
    | e => simp [Pth.len] at h
    | l q =>
      have hl : p.len = q.len := by simpa [Pth.len] using h
      cases t with
      | lf v =>
        have := ih q (.lf v) hl
        rw [T.get_lf] at this
        exact ⟨fun e => this.1 (by injection e), fun e => this.2 (fun e2 => e (by rw [e2]))⟩
      | nd a b =>
        have := ih q a hl
        exact ⟨fun e => this.1 (by injection e), fun e => this.2 (fun e2 => e (by rw [e2]))⟩
    | r q =>
      refine ⟨fun e => by injection e, fun _ => ?_⟩
      cases t with
      | lf v => exact T.get_lf d v p
      | nd a b => rfl
  | r p ih =>
    intro q t h
    cases q with
    | e => simp [Pth.len] at h
    | r q =>
      have hl : p.len = q.len := by simpa [Pth.len] using h
      cases t with
      | lf v =>
        have := ih q (.lf v) hl
        rw [T.get_lf] at this
        exact ⟨fun e => this.1 (by injection e), fun e => this.2 (fun e2 => e (by rw [e2]))⟩
      | nd a b =>
        have := ih q b hl
        exact ⟨fun e => this.1 (by injection e), fun e => this.2 (fun e2 => e (by rw [e2]))⟩
    | l q =>
      refine ⟨fun e => by injection e, fun _ => ?_⟩
      cases t with
      | lf v => exact T.get_lf d v p
      | nd a b => rfl

theorem pth_len : ∀ k n, (pth k n).len = k
  | 0, _ => rfl
  | k + 1, n => by
    unfold pth
    split <;> simp [Pth.len, pth_len k]

theorem pth_inj : ∀ k i j, i < 2 ^ k → j < 2 ^ k → pth k i = pth k j → i = j
  | 0, i, j, hi, hj, _ => by simp at hi hj; omega
  | k + 1, i, j, hi, hj, h => by
    have h2 : 2 ^ (k + 1) = 2 * 2 ^ k := by rw [Nat.pow_succ]; omega
    unfold pth at h
    split at h <;> split at h
    · rename_i h3 h4
      injection h with h
      have := pth_inj k (i / 2) (j / 2) (by omega) (by omega) h
      omega
    · injection h
    · injection h
    · rename_i h3 n4 h4
      injection h with h
      have := pth_inj k (i / 2) (j / 2) (by omega) (by omega) h
      omega

theorem T.at_same {α : Type} (d x : α) (k i : Nat) (t : T α) : T.get d (pth k i) (T.set x (pth k i) t) = x :=
  (T.get_set d x _ _ t rfl).1 rfl
theorem T.at_other {α : Type} (d x : α) {k i j : Nat} (t : T α) (hi : i < 2 ^ k) (hj : j < 2 ^ k) (h : i ≠ j) : T.get d (pth k i) (T.set x (pth k j) t) = T.get d (pth k i) t :=
  (T.get_set d x _ _ t (by rw [pth_len, pth_len])).2 (fun e => h (pth_inj k i j hi hj e))

/-! ### Lists, by their recursors -/
noncomputable def nth {α : Type} (l : List α) : Nat → Option α :=
  List.rec (fun _ => none) (fun x _ ih n => Nat.rec (some x) (fun m _ => ih m) n) l
noncomputable def dropF {α : Type} (l : List α) : Nat → List α :=
  List.rec (fun _ => []) (fun x r ih n => Nat.rec (x :: r) (fun m _ => ih m) n) l
noncomputable def takeO {α : Type} (n : Nat) : List α → Option (List α) :=
  Nat.rec (fun _ => some []) (fun _ ih l => List.rec none (fun x r _ => match ih r with | some q => some (x :: q) | none => none) l) n
noncomputable def overO {α : Type} (vs : List α) : List α → Option (List α) :=
  List.rec (fun l => some l) (fun v _ ih l => List.rec none (fun _ r _ => match ih r with | some q => some (v :: q) | none => none) l) vs
noncomputable def writeO {α : Type} (vs : List α) (n : Nat) : List α → Option (List α) :=
  Nat.rec (fun l => overO vs l) (fun _ ih l => List.rec none (fun x r _ => match ih r with | some q => some (x :: q) | none => none) l) n
noncomputable def allB {α : Type} (f : α → Bool) (l : List α) : Bool := List.rec true (fun x _ ih => bif f x then ih else false) l

theorem nth_eq {α : Type} : ∀ (l : List α) (n : Nat), nth l n = l[n]?
  | [], _ => rfl
  | _ :: _, 0 => rfl
  | _ :: l, n + 1 => by show nth l n = _; rw [nth_eq l n]; simp
theorem dropF_eq {α : Type} : ∀ (l : List α) (n : Nat), dropF l n = l.drop n
  | [], _ => by simp [dropF]
  | _ :: _, 0 => rfl
  | _ :: l, n + 1 => by show dropF l n = _; rw [dropF_eq l n]; simp
theorem takeO_ok {α : Type} : ∀ (n : Nat) (l q : List α), takeO n l = some q → q = l.take n ∧ n ≤ l.length
  | 0, l, q, h => by
    have : some [] = some q := h
    simp only [Option.some.injEq] at this
    subst this
    simp
  | n + 1, [], q, h => by cases (show (none : Option (List α)) = some q from h)
  | n + 1, x :: r, q, h => by
    have h' : (match takeO n r with | some q => some (x :: q) | none => none) = some q := h
    split at h'
    · rename_i q' e
      obtain ⟨h1, h2⟩ := takeO_ok n r q' e
      simp only [Option.some.injEq] at h'
      subst h'
      simp [h1, h2]
    · cases h'
theorem overO_ok {α : Type} : ∀ (vs l q : List α), overO vs l = some q → vs.length ≤ l.length ∧ q = vs ++ l.drop vs.length
  | [], l, q, h => by
    have : some l = some q := h
    simp only [Option.some.injEq] at this
    subst this
    simp
  | v :: vs, [], q, h => by cases (show (none : Option (List α)) = some q from h)
  | v :: vs, x :: r, q, h => by
    have h' : (match overO vs r with | some q => some (v :: q) | none => none) = some q := h
    split at h'
    · rename_i q' e
      obtain ⟨h1, h2⟩ := overO_ok vs r q' e
      simp only [Option.some.injEq] at h'
      subst h'
      simp [h1, h2]
    · cases h'
theorem writeO_ok {α : Type} (vs : List α) : ∀ (n : Nat) (l q : List α), writeO vs n l = some q → n + vs.length ≤ l.length ∧ q = l.take n ++ vs ++ l.drop (n + vs.length)
  | 0, l, q, h => by
    obtain ⟨h1, h2⟩ := overO_ok vs l q h
    exact ⟨by omega, by simp [h2]⟩
  | n + 1, [], q, h => by cases (show (none : Option (List α)) = some q from h)
  | n + 1, x :: r, q, h => by
    have h' : (match writeO vs n r with | some q => some (x :: q) | none => none) = some q := h
    split at h'
    · rename_i q' e
      obtain ⟨h1, h2⟩ := writeO_ok vs n r q' e
      simp only [Option.some.injEq] at h'
      subst h'
      refine ⟨by simp; omega, ?_⟩
      simp [h2, show n + 1 + vs.length = n + vs.length + 1 by omega]
    · cases h'
theorem allB_eq {α : Type} (f : α → Bool) : ∀ l : List α, allB f l = l.all f
  | [] => rfl
  | x :: l => by
    show (bif f x then allB f l else false) = _
    rw [allB_eq f l, List.all_cons]
    cases f x <;> rfl
end Go.Adm
