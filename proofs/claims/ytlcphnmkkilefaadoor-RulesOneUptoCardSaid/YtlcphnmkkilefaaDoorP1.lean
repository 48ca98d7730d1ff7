/- Plain laws of patches: sets and patches as keyed lists whose keys rise. No program in sight. -/
import Derived.Test.YtlcphnmkkilefaaDoorP0
set_option linter.unusedVariables false
set_option linter.unusedSimpArgs false
namespace Go.Proofs.YtlcphnmkkilefaaDoor.Ab
open Go
section
variable {V : Type}
abbrev At (V : Type) := Int × (V × Unit)
abbrev Ch (V : Type) := Int × (Bool × (V × Unit))
def put (c : Ch V) : List (At V) := if c.2.1 = true then [] else [(c.1, (c.2.2.1, ()))]
def applyS : List (At V) → List (Ch V) → List (At V)
  | a, [] => a
  | [], c :: p => put c ++ applyS [] p
  | x :: a, c :: p => if x.1 < c.1 then x :: applyS a (c :: p) else if x.1 = c.1 then put c ++ applyS a p else put c ++ applyS (x :: a) p
termination_by a p => a.length + p.length
def chg (x : At V) : Ch V := (x.1, (false, (x.2.1, ())))
def del (z : V) (x : At V) : Ch V := (x.1, (true, (z, ())))
def diffS (eqv : V → V → Bool) (z : V) : List (At V) → List (At V) → List (Ch V)
  | a, [] => a.map (del z)
  | [], x :: b => chg x :: diffS eqv z [] b
  | y :: a, x :: b => if y.1 < x.1 then del z y :: diffS eqv z a (x :: b) else if y.1 = x.1 then (if eqv y.2.1 x.2.1 = true then diffS eqv z a b else chg x :: diffS eqv z a b) else chg x :: diffS eqv z (y :: a) b
termination_by a b => a.length + b.length
def compS : List (Ch V) → List (Ch V) → List (Ch V)
  | p, [] => p
  | [], c :: q => c :: compS [] q
  | y :: p, c :: q => if y.1 ≤ c.1 then (if y.1 < c.1 then y :: compS p (c :: q) else compS p (c :: q)) else c :: compS (y :: p) q
termination_by p q => p.length + q.length
def inv1 (eqv : V → V → Bool) (z : V) (a : List (At V)) (c : Ch V) : List (Ch V) :=
  match find c.1 a with
  | some v => if c.2.1 = true ∨ eqv v.1 c.2.2.1 = false then [(c.1, (false, (v.1, ())))] else []
  | none => if c.2.1 = false then [(c.1, (true, (z, ())))] else []
def invertS (eqv : V → V → Bool) (z : V) (a : List (At V)) (p : List (Ch V)) : List (Ch V) := p.flatMap (inv1 eqv z a)

theorem find_put (k : Int) (c : Ch V) (l : List (At V)) : find k (put c ++ l) = if c.1 = k ∧ c.2.1 = false then some (c.2.2.1, ()) else find k l := by
  unfold put
  cases h : c.2.1 <;> simp [find]
theorem abv_put {k : Int} {c : Ch V} {l : List (At V)} (h1 : k < c.1) (h2 : Abv k l) : Abv k (put c ++ l) := by
  unfold put
  split
  · exact h2
  · exact abv_cons.2 ⟨h1, h2⟩
theorem srt_put {c : Ch V} {l : List (At V)} (h1 : Abv c.1 l) (h2 : Srt l) : Srt (put c ++ l) := by
  unfold put
  split
  · exact h2
  · exact srt_cons.2 ⟨h1, h2⟩
theorem abv_apply {k : Int} (a : List (At V)) (p : List (Ch V)) : Abv k a → Abv k p → Abv k (applyS a p) := by
  fun_induction applyS a p with
  | case1 => intro h _; exact h
  | case2 c p ih => intro h1 h2; exact abv_put (abv_cons.1 h2).1 (ih h1 (abv_cons.1 h2).2)
  | case3 x a c p hlt ih => intro h1 h2; exact abv_cons.2 ⟨(abv_cons.1 h1).1, ih (abv_cons.1 h1).2 h2⟩
  | case4 x a c p hlt he ih => intro h1 h2; exact abv_put (abv_cons.1 h2).1 (ih (abv_cons.1 h1).2 (abv_cons.1 h2).2)
  | case5 x a c p hlt he ih => intro h1 h2; exact abv_put (abv_cons.1 h2).1 (ih h1 (abv_cons.1 h2).2)
theorem srt_apply (a : List (At V)) (p : List (Ch V)) : Srt a → Srt p → Srt (applyS a p) := by
  fun_induction applyS a p with
  | case1 => intro h _; exact h
  | case2 c p ih => intro h1 h2; exact srt_put (abv_apply _ _ abv_nil (srt_cons.1 h2).1) (ih h1 (srt_cons.1 h2).2)
  | case3 x a c p hlt ih =>
    intro h1 h2
    exact srt_cons.2 ⟨abv_apply _ _ (srt_cons.1 h1).1 (abv_cons.2 ⟨hlt, (srt_cons.1 h2).1.mono (by omega)⟩), ih (srt_cons.1 h1).2 h2⟩
  | case4 x a c p hlt he ih => intro h1 h2; exact srt_put (abv_apply _ _ ((srt_cons.1 h1).1.mono (by omega)) (srt_cons.1 h2).1) (ih (srt_cons.1 h1).2 (srt_cons.1 h2).2)
  | case5 x a c p hlt he ih => intro h1 h2; exact srt_put (abv_apply _ _ (abv_cons.2 ⟨by omega, (srt_cons.1 h1).1.mono (by omega)⟩) (srt_cons.1 h2).1) (ih h1 (srt_cons.1 h2).2)
def onto (o : Option (V × Unit)) : Option (Bool × (V × Unit)) → Option (V × Unit)
  | some q => if q.1 = true then none else some (q.2.1, ())
  | none => o
theorem find_apply (k : Int) (a : List (At V)) (p : List (Ch V)) : Srt a → Srt p → find k (applyS a p) = onto (find k a) (find k p) := by
  fun_induction applyS a p with
  | case1 => intro h _; rfl
  | case2 c p ih =>
    intro h1 h2
    rw [find_put, ih h1 (srt_cons.1 h2).2]
    simp only [find]
    by_cases g : c.1 = k
    · subst g
      cases hb : c.2.1 <;> simp [onto, hb, (srt_cons.1 h2).1.find (Int.le_refl _)]
    · simp [g]
  | case3 x a c p hlt ih =>
    intro h1 h2
    simp only [find]
    by_cases g : x.1 = k
    · subst g
      have := ih (srt_cons.1 h1).2 h2
      simp [show ¬ c.1 = x.1 by omega, (srt_cons.1 h2).1.find (show x.1 ≤ c.1 by omega), onto]
    · have := ih (srt_cons.1 h1).2 h2
      simp only [g, if_false, this, find]
  | case4 x a c p hlt he ih =>
    intro h1 h2
    rw [find_put, ih (srt_cons.1 h1).2 (srt_cons.1 h2).2]
    simp only [find]
    by_cases g : c.1 = k
    · subst g
      cases hb : c.2.1 <;> simp [onto, hb, he, (srt_cons.1 h2).1.find (Int.le_refl _), (srt_cons.1 h1).1.find (show c.1 ≤ x.1 by omega)]
    · simp [g, show ¬ x.1 = k by omega]
  | case5 x a c p hlt he ih =>
    intro h1 h2
    rw [find_put, ih h1 (srt_cons.1 h2).2]
    simp only [find]
    by_cases g : c.1 = k
    · subst g
      cases hb : c.2.1 <;> simp [onto, hb, he, (srt_cons.1 h2).1.find (Int.le_refl _), (srt_cons.1 h1).1.find (show c.1 ≤ x.1 by omega)]
    · simp [g]

theorem find_map_del (z : V) (k : Int) (a : List (At V)) : find k (a.map (del z)) = (find k a).map fun _ => (true, (z, ())) := by
  induction a with
  | nil => rfl
  | cons x a ih => simp only [List.map_cons, find, ih, del]; split <;> rfl
theorem abv_map_del (z : V) {k : Int} {a : List (At V)} (h : Abv k a) : Abv k (a.map (del z)) := by
  intro y hy
  obtain ⟨x, hx, rfl⟩ := List.mem_map.1 hy
  exact h x hx
theorem srt_map_del (z : V) {a : List (At V)} (h : Srt a) : Srt (a.map (del z)) := by
  unfold Srt
  rw [List.pairwise_map]; exact h
def dif (eqv : V → V → Bool) (z : V) : Option (V × Unit) → Option (V × Unit) → Option (Bool × (V × Unit))
  | none, none => none
  | some _, none => some (true, (z, ()))
  | none, some v => some (false, (v.1, ()))
  | some u, some v => if eqv u.1 v.1 = true then none else some (false, (v.1, ()))
variable {eqv : V → V → Bool} {z : V}
theorem abv_diff {k : Int} (a b : List (At V)) : Abv k a → Abv k b → Abv k (diffS eqv z a b) := by
  fun_induction diffS eqv z a b with
  | case1 => intro h _; exact abv_map_del z h
  | case2 c p ih => intro h1 h2; exact abv_cons.2 ⟨(abv_cons.1 h2).1, ih h1 (abv_cons.1 h2).2⟩
  | case3 x a c p hlt ih => intro h1 h2; exact abv_cons.2 ⟨(abv_cons.1 h1).1, ih (abv_cons.1 h1).2 h2⟩
  | case4 x a c p hlt he hv ih => intro h1 h2; exact ih (abv_cons.1 h1).2 (abv_cons.1 h2).2
  | case5 x a c p hlt he hv ih => intro h1 h2; exact abv_cons.2 ⟨(abv_cons.1 h2).1, ih (abv_cons.1 h1).2 (abv_cons.1 h2).2⟩
  | case6 x a c p hlt he ih => intro h1 h2; exact abv_cons.2 ⟨(abv_cons.1 h2).1, ih h1 (abv_cons.1 h2).2⟩
theorem srt_diff (a b : List (At V)) : Srt a → Srt b → Srt (diffS eqv z a b) := by
  fun_induction diffS eqv z a b with
  | case1 => intro h _; exact srt_map_del z h
  | case2 c p ih => intro h1 h2; exact srt_cons.2 ⟨abv_diff _ _ abv_nil (srt_cons.1 h2).1, ih h1 (srt_cons.1 h2).2⟩
  | case3 x a c p hlt ih => intro h1 h2; exact srt_cons.2 ⟨abv_diff _ _ (srt_cons.1 h1).1 (abv_cons.2 ⟨hlt, (srt_cons.1 h2).1.mono (by show x.1 ≤ c.1; omega)⟩), ih (srt_cons.1 h1).2 h2⟩
  | case4 x a c p hlt he hv ih => intro h1 h2; exact ih (srt_cons.1 h1).2 (srt_cons.1 h2).2
  | case5 x a c p hlt he hv ih => intro h1 h2; exact srt_cons.2 ⟨abv_diff _ _ ((srt_cons.1 h1).1.mono (by show c.1 ≤ x.1; omega)) (srt_cons.1 h2).1, ih (srt_cons.1 h1).2 (srt_cons.1 h2).2⟩
  | case6 x a c p hlt he ih => intro h1 h2; exact srt_cons.2 ⟨abv_diff _ _ (abv_cons.2 ⟨by show c.1 < x.1; omega, (srt_cons.1 h1).1.mono (by show c.1 ≤ x.1; omega)⟩) (srt_cons.1 h2).1, ih h1 (srt_cons.1 h2).2⟩
theorem find_diff (k : Int) (a b : List (At V)) : Srt a → Srt b → find k (diffS eqv z a b) = dif eqv z (find k a) (find k b) := by
  fun_induction diffS eqv z a b with
  | case1 a => intro h _; rw [find_map_del]; cases find k a <;> rfl
  | case2 c p ih =>
    intro h1 h2
    simp only [find, ih h1 (srt_cons.1 h2).2, chg]
    by_cases g : c.1 = k <;> simp [g, dif]
  | case3 x a c p hlt ih =>
    intro h1 h2
    simp only [find, ih (srt_cons.1 h1).2 h2, del]
    by_cases g : x.1 = k
    · subst g
      simp [show ¬ c.1 = x.1 by omega, (srt_cons.1 h2).1.find (show x.1 ≤ c.1 by omega), dif]
    · simp only [g, if_false]
  | case4 x a c p hlt he hv ih =>
    intro h1 h2
    simp only [find, ih (srt_cons.1 h1).2 (srt_cons.1 h2).2]
    by_cases g : c.1 = k
    · subst g
      simp [he, hv, dif, (srt_cons.1 h2).1.find (Int.le_refl _), (srt_cons.1 h1).1.find (show c.1 ≤ x.1 by omega)]
    · simp [g, show ¬ x.1 = k by omega]
  | case5 x a c p hlt he hv ih =>
    intro h1 h2
    simp only [find, ih (srt_cons.1 h1).2 (srt_cons.1 h2).2, chg]
    by_cases g : c.1 = k
    · subst g
      simp [he, hv, dif]
    · simp [g, show ¬ x.1 = k by omega]
  | case6 x a c p hlt he ih =>
    intro h1 h2
    simp only [find, ih h1 (srt_cons.1 h2).2, chg]
    by_cases g : c.1 = k
    · subst g
      simp [he, dif, (srt_cons.1 h1).1.find (show c.1 ≤ x.1 by omega)]
    · simp [g]

theorem abv_comp {k : Int} (a b : List (Ch V)) : Abv k a → Abv k b → Abv k (compS a b) := by
  fun_induction compS a b with
  | case1 => intro h _; exact h
  | case2 c p ih => intro h1 h2; exact abv_cons.2 ⟨(abv_cons.1 h2).1, ih h1 (abv_cons.1 h2).2⟩
  | case3 x a c p hle hlt ih => intro h1 h2; exact abv_cons.2 ⟨(abv_cons.1 h1).1, ih (abv_cons.1 h1).2 h2⟩
  | case4 x a c p hle hlt ih => intro h1 h2; exact ih (abv_cons.1 h1).2 h2
  | case5 x a c p hle ih => intro h1 h2; exact abv_cons.2 ⟨(abv_cons.1 h2).1, ih h1 (abv_cons.1 h2).2⟩
theorem srt_comp (a b : List (Ch V)) : Srt a → Srt b → Srt (compS a b) := by
  fun_induction compS a b with
  | case1 => intro h _; exact h
  | case2 c p ih => intro h1 h2; exact srt_cons.2 ⟨abv_comp _ _ abv_nil (srt_cons.1 h2).1, ih h1 (srt_cons.1 h2).2⟩
  | case3 x a c p hle hlt ih => intro h1 h2; exact srt_cons.2 ⟨abv_comp _ _ (srt_cons.1 h1).1 (abv_cons.2 ⟨hlt, (srt_cons.1 h2).1.mono (by omega)⟩), ih (srt_cons.1 h1).2 h2⟩
  | case4 x a c p hle hlt ih => intro h1 h2; exact ih (srt_cons.1 h1).2 h2
  | case5 x a c p hle ih => intro h1 h2; exact srt_cons.2 ⟨abv_comp _ _ (abv_cons.2 ⟨by omega, (srt_cons.1 h1).1.mono (by omega)⟩) (srt_cons.1 h2).1, ih h1 (srt_cons.1 h2).2⟩
theorem find_comp (k : Int) (a b : List (Ch V)) : Srt a → Srt b → find k (compS a b) = (find k b).or (find k a) := by
  fun_induction compS a b with
  | case1 => intro h _; simp [find]
  | case2 c p ih =>
    intro h1 h2
    simp only [find, ih h1 (srt_cons.1 h2).2]
    by_cases g : c.1 = k <;> simp [g]
  | case3 x a c p hle hlt ih =>
    intro h1 h2
    simp only [find, ih (srt_cons.1 h1).2 h2]
    by_cases g : x.1 = k
    · subst g
      simp [show ¬ c.1 = x.1 by omega, (srt_cons.1 h2).1.find (show x.1 ≤ c.1 by omega)]
    · simp only [g, if_false]
  | case4 x a c p hle hlt ih =>
    intro h1 h2
    simp only [find, ih (srt_cons.1 h1).2 h2]
    by_cases g : x.1 = k
    · subst g
      simp [show c.1 = x.1 by omega]
    · simp only [g, if_false]
  | case5 x a c p hle ih =>
    intro h1 h2
    simp only [find, ih h1 (srt_cons.1 h2).2]
    by_cases g : c.1 = k
    · simp [g]
    · simp [g]

theorem inv1_key {a : List (At V)} {c x : Ch V} (h : x ∈ inv1 eqv z a c) : x.1 = c.1 := by
  unfold inv1 at h
  split at h <;> split at h <;> simp at h <;> rw [h]
theorem abv_invert {k : Int} {a : List (At V)} {p : List (Ch V)} (h : Abv k p) : Abv k (invertS eqv z a p) := by
  intro x hx
  obtain ⟨c, hc, hx⟩ := List.mem_flatMap.1 hx
  rw [inv1_key hx]; exact h c hc
theorem srt_invert {a : List (At V)} {p : List (Ch V)} (h : Srt p) : Srt (invertS eqv z a p) := by
  induction p with
  | nil => exact srt_nil
  | cons c p ih =>
    obtain ⟨h1, h2⟩ := srt_cons.1 h
    have h3 := ih h2
    have h4 := abv_invert (eqv := eqv) (z := z) (a := a) h1
    simp only [invertS, List.flatMap_cons]
    show Srt (inv1 eqv z a c ++ invertS eqv z a p)
    unfold inv1
    split <;> split
    · exact srt_cons.2 ⟨h4, h3⟩
    · exact h3
    · exact srt_cons.2 ⟨h4, h3⟩
    · exact h3
def inv (eqv : V → V → Bool) (z : V) : Option (V × Unit) → Option (Bool × (V × Unit)) → Option (Bool × (V × Unit))
  | _, none => none
  | some v, some q => if q.1 = true ∨ eqv v.1 q.2.1 = false then some (false, (v.1, ())) else none
  | none, some q => if q.1 = false then some (true, (z, ())) else none
theorem find_invert (k : Int) {a : List (At V)} {p : List (Ch V)} (h : Srt p) : find k (invertS eqv z a p) = inv eqv z (find k a) (find k p) := by
  induction p with
  | nil => cases find k a <;> rfl
  | cons c p ih =>
    obtain ⟨h1, h2⟩ := srt_cons.1 h
    have h3 := ih h2
    have h4 := (abv_invert (eqv := eqv) (z := z) (a := a) h1).find (Int.le_refl _)
    have e : invertS eqv z a (c :: p) = inv1 eqv z a c ++ invertS eqv z a p := by simp [invertS]
    rw [e]
    simp only [find]
    by_cases g : c.1 = k
    · subst g
      simp only [if_true]
      unfold inv1
      cases hf : find c.1 a with
      | none => simp only [inv]; split <;> simp [find, h4]
      | some v => simp only [inv]; split <;> simp [find, h4]
    · rw [if_neg g, ← h3]
      unfold inv1
      split <;> split <;> simp [find, g]
theorem len_apply (a : List (At V)) (p : List (Ch V)) : (applyS a p).length ≤ a.length + p.length := by
  have hp : ∀ c : Ch V, (put c).length ≤ 1 := by intro c; unfold put; split <;> simp
  fun_induction applyS a p with
  | case1 => simp
  | case2 c p ih => have := hp c; simp only [List.length_append, List.length_cons] at *; omega
  | case3 x a c p hlt ih => simp only [List.length_cons] at *; omega
  | case4 x a c p hlt he ih => have := hp c; simp only [List.length_append, List.length_cons] at *; omega
  | case5 x a c p hlt he ih => have := hp c; simp only [List.length_append, List.length_cons] at *; omega
theorem len_diff (a b : List (At V)) : (diffS eqv z a b).length ≤ a.length + b.length := by
  fun_induction diffS eqv z a b <;> simp_all <;> omega
theorem len_comp (a b : List (Ch V)) : (compS a b).length ≤ a.length + b.length := by
  fun_induction compS a b <;> simp_all <;> omega
theorem len_invert (a : List (At V)) (p : List (Ch V)) : (invertS eqv z a p).length ≤ p.length := by
  induction p with
  | nil => simp [invertS]
  | cons c p ih =>
    have e : invertS eqv z a (c :: p) = inv1 eqv z a c ++ invertS eqv z a p := by simp [invertS]
    have : (inv1 eqv z a c).length ≤ 1 := by unfold inv1; split <;> split <;> simp
    rw [e]; simp only [List.length_append, List.length_cons]; omega

variable (he : ∀ u v : V, eqv u v = true ↔ u = v)
include he
/-- What a patch changes its inverse takes back. -/
theorem law_back {a : List (At V)} {p : List (Ch V)} (ha : Srt a) (hp : Srt p) : applyS (applyS a p) (invertS eqv z a p) = a := by
  refine srt_ext (srt_apply _ _ (srt_apply _ _ ha hp) (srt_invert hp)) ha fun k => ?_
  rw [find_apply k _ _ (srt_apply _ _ ha hp) (srt_invert hp), find_apply k _ _ ha hp, find_invert k hp]
  rcases hu : find k a with _ | ⟨u, ⟨⟩⟩ <;> rcases hq : find k p with _ | ⟨g, v, ⟨⟩⟩
  · rfl
  · cases g <;> simp [inv, onto]
  · rfl
  · cases g
    · cases hv : eqv u v
      · simp [inv, onto, hv]
      · simp [inv, onto, hv, (he u v).1 hv, (he v v).2 rfl]
    · simp [inv, onto]
theorem law_diff {a b : List (At V)} (ha : Srt a) (hb : Srt b) : applyS a (diffS eqv z a b) = b := by
  refine srt_ext (srt_apply _ _ ha (srt_diff _ _ ha hb)) hb fun k => ?_
  rw [find_apply k _ _ ha (srt_diff _ _ ha hb), find_diff k _ _ ha hb]
  rcases hu : find k a with _ | ⟨u, ⟨⟩⟩ <;> rcases hq : find k b with _ | ⟨v, ⟨⟩⟩
  · rfl
  · rfl
  · rfl
  · cases hv : eqv u v
    · simp [dif, onto, hv]
    · simp [dif, onto, hv, (he u v).1 hv, (he v v).2 rfl]
theorem law_same {a : List (At V)} (ha : Srt a) : diffS eqv z a a = [] := by
  refine srt_ext (srt_diff _ _ ha ha) srt_nil fun k => ?_
  rw [find_diff k _ _ ha ha]
  rcases hu : find k a with _ | ⟨u, ⟨⟩⟩
  · rfl
  · simp [dif, (he u u).2 rfl, find]
theorem law_inv {a b : List (At V)} (ha : Srt a) (hb : Srt b) : invertS eqv z a (diffS eqv z a b) = diffS eqv z b a := by
  refine srt_ext (srt_invert (srt_diff _ _ ha hb)) (srt_diff _ _ hb ha) fun k => ?_
  rw [find_invert k (srt_diff _ _ ha hb), find_diff k _ _ ha hb, find_diff k _ _ hb ha]
  rcases hu : find k a with _ | ⟨u, ⟨⟩⟩ <;> rcases hq : find k b with _ | ⟨v, ⟨⟩⟩
  · rfl
  · rfl
  · rfl
  · cases hv : eqv u v
    · have : eqv v u = false := by
        cases h : eqv v u
        · rfl
        · rw [(he v u).1 h, (he u u).2 rfl] at hv; contradiction
      simp [dif, inv, hv, this]
    · have : eqv v u = true := by rw [(he u v).1 hv]; exact (he v v).2 rfl
      simp [dif, inv, hv, this]
omit he in
theorem law_comp {a : List (At V)} {p q : List (Ch V)} (ha : Srt a) (hp : Srt p) (hq : Srt q) : applyS (applyS a p) q = applyS a (compS p q) := by
  refine srt_ext (srt_apply _ _ (srt_apply _ _ ha hp) hq) (srt_apply _ _ ha (srt_comp _ _ hp hq)) fun k => ?_
  rw [find_apply k _ _ (srt_apply _ _ ha hp) hq, find_apply k _ _ ha hp, find_apply k _ _ ha (srt_comp _ _ hp hq), find_comp k _ _ hp hq]
  cases find k q <;> rfl
omit he in
theorem law_assoc {p q r : List (Ch V)} (hp : Srt p) (hq : Srt q) (hr : Srt r) : compS (compS p q) r = compS p (compS q r) := by
  refine srt_ext (srt_comp _ _ (srt_comp _ _ hp hq) hr) (srt_comp _ _ hp (srt_comp _ _ hq hr)) fun k => ?_
  rw [find_comp k _ _ (srt_comp _ _ hp hq) hr, find_comp k _ _ hp hq, find_comp k _ _ hp (srt_comp _ _ hq hr), find_comp k _ _ hq hr]
  cases find k r <;> rfl
omit he in
theorem law_nil_right (p : List (Ch V)) : compS p [] = p := by simp [compS]
omit he in
theorem law_nil_left (p : List (Ch V)) : compS [] p = p := by
  induction p with
  | nil => simp [compS]
  | cons c p ih => rw [compS, ih]
omit he in
theorem law_apply_nil (a : List (At V)) : applyS a [] = a := by simp [applyS]
end
end Go.Proofs.YtlcphnmkkilefaaDoor.Ab
