/- The abstract interpreter, part 1: what typed values, entities and states stand for in the model's memory. -/
import Derived.Test.YtlcphnmkkilefaaDoorA0
set_option linter.unusedVariables false
set_option linter.unusedSimpArgs false
namespace Go.Proofs.YtlcphnmkkilefaaDoor.Ab
open Go Go.RowKit

abbrev Cells := Addr → Value → Prop

def RdL {β : Type} (R : β → List Value → Prop) : List β → List Value → Prop
  | [], cs => cs = []
  | x :: l, cs => ∃ a b, cs = a ++ b ∧ R x a ∧ RdL R l b

/-- What a map's entries tell. -/
def RdM {β : Type} (S : Bool) (R : β → List Value → Prop) : List (Int × β) → List Value → Prop
  | [], m => m = []
  | p :: l, m => ∃ v r, m = .tuple #[.int .i64 p.1, v] :: r ∧ (Value.isAgg v = S ∧ R p.2 v.cells.toList) ∧ RdM S R l r
/-- A value of type T is told by these cells. -/
def Rd (C : Cells) : (T : Ty) → den T → List Value → Prop
  | .int k, x, cs => cs = [.int k x]
  | .bool, x, cs => cs = [.bool x]
  | .str, x, cs => cs = [.string x]
  | .slice e, l, cs => ∃ A n c xs, cs = [.slice A n c] ∧ n = List.length l ∧ (n ≤ c ∧ (A = none → c = 0)) ∧ RdL (Rd C e) l xs ∧ (0 < n → ∃ ad, A = some ad ∧ ∀ j u, xs[j]? = some u → C (ad.add j) u)
  | .unit, _, cs => cs = []
  | .f64, x, cs => cs = [.float .f64 x]
  | .ptr e, x, cs => match x with
    | none => cs = [.pointer none]
    | some y => ∃ ad sub, cs = [.pointer (some ad)] ∧ Rd C e y sub ∧ ∀ j u, sub[j]? = some u → C (ad.add j) u
  | .map e, l, cs => (l = [] ∧ cs = [.map none]) ∨ ∃ b m, cs = [.map (some b)] ∧ RdM e.isS (Rd C e) l m ∧ C ⟨b, 0, some 0⟩ (.tuple m.toArray)
  | .prod a b, x, cs => ∃ p q, cs = p ++ q ∧ Rd C a x.1 p ∧ Rd C b x.2 q

theorem RdL_mono {β : Type} {R R' : β → List Value → Prop} (h : ∀ x cs, R x cs → R' x cs) : ∀ {l cs}, RdL R l cs → RdL R' l cs
  | [], _, hh => hh
  | _ :: _, _, ⟨a, b, e, h1, h2⟩ => ⟨a, b, e, h _ _ h1, RdL_mono h h2⟩

theorem RdM_mono {β : Type} {S : Bool} {R R' : β → List Value → Prop} (h : ∀ x cs, R x cs → R' x cs) : ∀ {l m}, RdM S R l m → RdM S R' l m
  | [], _, hh => hh
  | _ :: _, _, ⟨v, r, e, ⟨h0, h1⟩, h2⟩ => ⟨v, r, e, ⟨h0, h _ _ h1⟩, RdM_mono h h2⟩
theorem Rd_mono {C C' : Cells} (h : ∀ a u, C a u → C' a u) : ∀ {T : Ty} {x : den T} {cs}, Rd C T x cs → Rd C' T x cs
  | .int _, _, _, hh => hh
  | .bool, _, _, hh => hh
  | .str, _, _, hh => hh
  | .slice e, _, _, ⟨A, n, c, xs, h1, h2, h3, h4, h5⟩ => ⟨A, n, c, xs, h1, h2, h3, RdL_mono (fun _ _ hh => Rd_mono h (T := e) hh) h4, fun hn => by
      obtain ⟨ad, ha, hc⟩ := h5 hn
      exact ⟨ad, ha, fun j u hj => h _ _ (hc j u hj)⟩⟩
  | .unit, _, _, hh => hh
  | .f64, _, _, hh => hh
  | .ptr e, none, _, hh => hh
  | .ptr e, some y, _, ⟨ad, sub, h1, h2, h3⟩ => ⟨ad, sub, h1, Rd_mono h (T := e) h2, fun j u hj => h _ _ (h3 j u hj)⟩
  | .map e, _, _, hh => by
    rcases hh with hh | ⟨b, m, h1, h2, h3⟩
    · exact .inl hh
    · exact .inr ⟨b, m, h1, RdM_mono (fun _ _ hh => Rd_mono h (T := e) hh) h2, h _ _ h3⟩
  | .prod a b, _, _, ⟨p, q, e, h1, h2⟩ => ⟨p, q, e, Rd_mono h (T := a) h1, Rd_mono h (T := b) h2⟩

theorem Rd_len {C : Cells} : ∀ {T : Ty} {x : den T} {cs}, Rd C T x cs → cs.length = T.size
  | .int _, _, _, hh => by simp only [Rd] at hh; subst hh; rfl
  | .bool, _, _, hh => by simp only [Rd] at hh; subst hh; rfl
  | .str, _, _, hh => by simp only [Rd] at hh; subst hh; rfl
  | .slice _, _, _, ⟨A, n, c, xs, h1, _⟩ => by subst h1; rfl
  | .unit, _, _, hh => by simp only [Rd] at hh; subst hh; rfl
  | .f64, _, _, hh => by simp only [Rd] at hh; subst hh; rfl
  | .ptr _, none, _, hh => by simp only [Rd] at hh; subst hh; rfl
  | .ptr _, some _, _, ⟨ad, sub, h1, _⟩ => by subst h1; rfl
  | .map _, _, _, hh => by rcases hh with ⟨_, hh⟩ | ⟨b, m, hh, _⟩ <;> subst hh <;> rfl
  | .prod a b, _, _, ⟨p, q, e, h1, h2⟩ => by subst e; simp only [List.length_append, Ty.size]; rw [Rd_len (T := a) h1, Rd_len (T := b) h2]

theorem Rd_one {C : Cells} : ∀ {T : Ty} {x : den T} {cs}, Rd C T x cs → ∀ v ∈ cs, v.oneCell' = true
  | .int _, _, _, hh => by simp only [Rd] at hh; subst hh; simp [Value.oneCell']
  | .bool, _, _, hh => by simp only [Rd] at hh; subst hh; simp [Value.oneCell']
  | .str, _, _, hh => by simp only [Rd] at hh; subst hh; simp [Value.oneCell']
  | .slice _, _, _, ⟨A, n, c, xs, h1, _⟩ => by subst h1; simp [Value.oneCell']
  | .unit, _, _, hh => by simp only [Rd] at hh; subst hh; simp
  | .f64, _, _, hh => by simp only [Rd] at hh; subst hh; simp [Value.oneCell']
  | .ptr _, none, _, hh => by simp only [Rd] at hh; subst hh; simp [Value.oneCell']
  | .ptr _, some _, _, ⟨ad, sub, h1, _⟩ => by subst h1; simp [Value.oneCell']
  | .map _, _, _, hh => by rcases hh with ⟨_, hh⟩ | ⟨b, m, hh, _⟩ <;> subst hh <;> simp [Value.oneCell']
  | .prod a b, _, _, ⟨p, q, e, h1, h2⟩ => by
      subst e; intro v hv
      rcases List.mem_append.1 hv with hv | hv
      · exact Rd_one (T := a) h1 v hv
      · exact Rd_one (T := b) h2 v hv

theorem RdL_len {C : Cells} {T : Ty} : ∀ {l : List (den T)} {xs}, RdL (Rd C T) l xs → xs.length = l.length * T.size
  | [], _, h => by simp only [RdL] at h; subst h; simp
  | x :: l, _, ⟨a, b, e, h1, h2⟩ => by
    subst e; simp only [List.length_append, List.length_cons]
    rw [Rd_len h1, RdL_len h2, Nat.add_mul, Nat.one_mul, Nat.add_comm]
theorem RdL_one {C : Cells} {T : Ty} : ∀ {l : List (den T)} {xs}, RdL (Rd C T) l xs → ∀ v ∈ xs, v.oneCell' = true
  | [], _, h => by simp only [RdL] at h; subst h; simp
  | x :: l, _, ⟨a, b, e, h1, h2⟩ => by
    subst e; intro v hv
    rcases List.mem_append.1 hv with hv | hv
    · exact Rd_one h1 v hv
    · exact RdL_one h2 v hv
theorem RdL_append {C : Cells} {T : Ty} : ∀ {l l' : List (den T)} {xs ys}, RdL (Rd C T) l xs → RdL (Rd C T) l' ys → RdL (Rd C T) (l ++ l') (xs ++ ys)
  | [], _, _, _, h, h' => by simp only [RdL] at h; subst h; simpa using h'
  | x :: l, _, _, _, ⟨a, b, e, h1, h2⟩, h' => ⟨a, b ++ _, by rw [e, List.append_assoc], h1, RdL_append h2 h'⟩
/-- An element's cells. -/
theorem RdL_at {C : Cells} {T : Ty} : ∀ {l : List (den T)} {xs} (i : Nat), i < l.length → RdL (Rd C T) l xs →
    ∃ es, Rd C T (l.getD i (dflt T)) es ∧ ∀ j u, es[j]? = some u → xs[i * T.size + j]? = some u
  | [], _, _, hi, _ => absurd hi (by simp)
  | x :: l, _, 0, _, ⟨a, b, e, h1, h2⟩ => ⟨a, h1, fun j u hj => by
      subst e
      rw [Nat.zero_mul, Nat.zero_add]
      have := (List.getElem?_eq_some_iff.1 hj).1
      rw [List.getElem?_append_left this]; exact hj⟩
  | x :: l, _, i + 1, hi, ⟨a, b, e, h1, h2⟩ => by
    obtain ⟨es, h3, h4⟩ := RdL_at i (by simpa using hi) h2
    refine ⟨es, by simpa using h3, fun j u hj => ?_⟩
    subst e
    have h5 := h4 j u hj
    have hl := Rd_len h1
    rw [List.getElem?_append_right (by rw [hl, Nat.add_mul, Nat.one_mul]; omega)]
    rw [hl, show (i + 1) * T.size + j - T.size = i * T.size + j by rw [Nat.add_mul, Nat.one_mul]; omega]
    exact h5
theorem RdL_drop {C : Cells} {T : Ty} : ∀ {l : List (den T)} {xs} (i : Nat), RdL (Rd C T) l xs → RdL (Rd C T) (l.drop i) (xs.drop (i * T.size))
  | [], _, i, h => by simp only [RdL] at h; subst h; simp [RdL]
  | x :: l, _, 0, h => by simpa using h
  | x :: l, _, i + 1, ⟨a, b, e, h1, h2⟩ => by
    subst e
    have hl := Rd_len h1
    rw [List.drop_succ_cons, Nat.add_mul, Nat.one_mul, Nat.add_comm]
    rw [← List.drop_drop, ← hl, List.drop_left, hl]
    exact RdL_drop i h2
theorem RdL_take {C : Cells} {T : Ty} : ∀ {l : List (den T)} {xs} (i : Nat), RdL (Rd C T) l xs → RdL (Rd C T) (l.take i) (xs.take (i * T.size))
  | [], _, i, h => by simp only [RdL] at h; subst h; simp [RdL]
  | x :: l, _, 0, h => by simp [RdL]
  | x :: l, _, i + 1, ⟨a, b, e, h1, h2⟩ => by
    subst e
    have hl := Rd_len h1
    rw [List.take_succ_cons]
    refine ⟨a, b.take (i * T.size), ?_, h1, RdL_take i h2⟩
    rw [Nat.add_mul, Nat.one_mul, Nat.add_comm, ← hl, List.take_length_add_append]

/-- A value in a temporary. -/
def RelV (C : Cells) (T : Ty) (x : den T) (v : Value) : Prop :=
  if T.isS then ∃ cs, v = .agg cs ∧ Rd C T x cs.toList else Rd C T x [v]
theorem RelV_mono {C C' : Cells} (h : ∀ a u, C a u → C' a u) {T : Ty} {x : den T} {v} (hh : RelV C T x v) : RelV C' T x v := by
  unfold RelV at *
  split
  · rename_i hs; rw [if_pos hs] at hh; obtain ⟨cs, e, h1⟩ := hh; exact ⟨cs, e, Rd_mono h h1⟩
  · rename_i hs; rw [if_neg hs] at hh; exact Rd_mono h hh
theorem Rd_cell {C : Cells} {T : Ty} {x : den T} {cs} (hs : T.isS = false) (h : Rd C T x cs) : ∃ v, cs = [v] ∧ v.cells = #[v] := by
  cases T with
  | int _ => simp only [Rd] at h; exact ⟨_, h, rfl⟩
  | bool => simp only [Rd] at h; exact ⟨_, h, rfl⟩
  | str => simp only [Rd] at h; exact ⟨_, h, rfl⟩
  | slice _ => obtain ⟨A, n, c, xs, h1, _⟩ := h; exact ⟨_, h1, rfl⟩
  | f64 => simp only [Rd] at h; exact ⟨_, h, rfl⟩
  | ptr e =>
    cases x with
    | none => simp only [Rd] at h; exact ⟨_, h, rfl⟩
    | some y => obtain ⟨ad, sub, h1, _⟩ := h; exact ⟨_, h1, rfl⟩
  | map e => rcases h with ⟨_, h⟩ | ⟨b, m, h, _⟩ <;> exact ⟨_, h, rfl⟩
  | unit => simp [Ty.isS] at hs
  | prod _ _ => simp [Ty.isS] at hs
theorem RelV_cells {C : Cells} {T : Ty} {x : den T} {v} (h : RelV C T x v) : Rd C T x v.cells.toList := by
  unfold RelV at h
  split at h
  · obtain ⟨cs, rfl, h1⟩ := h; exact h1
  · rename_i hs
    obtain ⟨u, e, hu⟩ := Rd_cell (by simpa using hs) h
    have : v = u := by simpa using e
    subst this
    rw [hu]; exact h
theorem RelV_of {C : Cells} {T : Ty} {x : den T} {cs} (h : Rd C T x cs) : RelV C T x (if T.isS then .agg cs.toArray else cs.getD 0 undef) := by
  unfold RelV
  split
  · exact ⟨_, rfl, by simpa using h⟩
  · rename_i hs
    obtain ⟨u, e, hu⟩ := Rd_cell (by simpa using hs) h
    subst e; exact h
theorem RelV_ne {C : Cells} {T : Ty} {x : den T} {v} (h : RelV C T x v) : v ≠ undef := by
  intro e; subst e
  unfold RelV at h
  split at h
  · obtain ⟨cs, e, _⟩ := h; cases e
  · rename_i hs
    obtain ⟨u, e, hu⟩ := Rd_cell (by simpa using hs) h
    cases e
    cases T with
    | ptr e =>
      cases x with
      | none => simp [Rd, undef] at h
      | some y => obtain ⟨ad, sub, h1, _⟩ := h; simp [undef] at h1
    | map e => rcases h with ⟨_, h⟩ | ⟨b, m, h, _⟩ <;> simp [undef] at h
    | unit => simp [Ty.isS] at hs
    | prod _ _ => simp [Ty.isS] at hs
    | int _ => simp [Rd, undef] at h
    | bool => simp [Rd, undef] at h
    | str => simp [Rd, undef] at h
    | f64 => simp [Rd, undef] at h
    | slice _ => simp [Rd, undef] at h

/-! ### parsing -/
theorem parse_rd {C : Cells} : ∀ {T : Ty} {cs : List Value} {x : den T} {r}, parse T cs = some (x, r) → ∃ p, cs = p ++ r ∧ Rd C T x p
  | .int k, cs, x, r, h => by
    unfold parse at h; split at h
    · split at h
      · rename_i e; subst e; simp only [Option.some.injEq, Prod.mk.injEq] at h; obtain ⟨rfl, rfl⟩ := h; exact ⟨[.int _ _], rfl, rfl⟩
      · contradiction
    · contradiction
  | .bool, cs, x, r, h => by
    unfold parse at h; split at h
    · simp only [Option.some.injEq, Prod.mk.injEq] at h; obtain ⟨rfl, rfl⟩ := h; exact ⟨[.bool _], rfl, rfl⟩
    · contradiction
  | .str, cs, x, r, h => by
    unfold parse at h; split at h
    · simp only [Option.some.injEq, Prod.mk.injEq] at h; obtain ⟨rfl, rfl⟩ := h; exact ⟨[.string _], rfl, rfl⟩
    · contradiction
  | .slice e, cs, x, r, h => by
    unfold parse at h; split at h
    · simp only [Option.some.injEq, Prod.mk.injEq] at h; obtain ⟨rfl, rfl⟩ := h; exact ⟨[.slice none 0 0], rfl, none, 0, 0, [], rfl, rfl, ⟨Nat.le_refl _, fun _ => rfl⟩, rfl, fun h => absurd h (by omega)⟩
    · contradiction
  | .unit, cs, x, r, h => by
    unfold parse at h; simp at h; subst h; exact ⟨[], rfl, rfl⟩
  | .f64, cs, x, r, h => by
    unfold parse at h; split at h
    · simp only [Option.some.injEq, Prod.mk.injEq] at h; obtain ⟨rfl, rfl⟩ := h; exact ⟨[.float .f64 _], rfl, rfl⟩
    · contradiction
  | .ptr e, cs, x, r, h => by
    unfold parse at h; split at h
    · simp only [Option.some.injEq, Prod.mk.injEq] at h; obtain ⟨rfl, rfl⟩ := h; exact ⟨[.pointer none], rfl, rfl⟩
    · contradiction
  | .map e, cs, x, r, h => by
    unfold parse at h; split at h
    · simp only [Option.some.injEq, Prod.mk.injEq] at h; obtain ⟨rfl, rfl⟩ := h; exact ⟨[.map none], rfl, .inl ⟨rfl, rfl⟩⟩
    · contradiction
  | .prod a b, cs, x, r, h => by
    unfold parse at h
    split at h
    · rename_i y r1 h1
      split at h
      · rename_i z r2 h2
        simp only [Option.some.injEq, Prod.mk.injEq] at h
        obtain ⟨rfl, rfl⟩ := h
        obtain ⟨p, rfl, hp⟩ := parse_rd (C := C) h1
        obtain ⟨q, rfl, hq⟩ := parse_rd (C := C) h2
        exact ⟨p ++ q, by simp, p, q, rfl, hp, hq⟩
      · contradiction
    · contradiction
theorem parseV_rel {C : Cells} {T : Ty} {v : Value} {x : den T} (h : parseV T v = some x) : RelV C T x v := by
  unfold parseV at h
  split at h
  · rename_i y hp
    obtain ⟨p, e, hr⟩ := parse_rd (C := C) hp
    rw [List.append_nil] at e
    cases ha : (Value.isAgg v == T.isS) with
    | false => rw [ha] at h; simp at h
    | true =>
      rw [ha] at h; simp at h; subst h
      rw [← e] at hr
      unfold RelV
      have ha' : Value.isAgg v = T.isS := by simpa using ha
      split
      · rename_i hs
        rw [hs] at ha'
        cases v <;> simp [Value.isAgg] at ha'
        exact ⟨_, rfl, hr⟩
      · rename_i hs
        have hv : Value.isAgg v = false := by rw [ha']; simpa using hs
        cases v <;> simp [Value.isAgg] at hv <;> exact hr
  · contradiction
theorem castT_some {T T' : Ty} {y : den T'} {x : den T} (h : castT T T' y = some x) : ∃ e : T' = T, x = e ▸ y := by
  unfold castT at h
  split at h
  · rename_i e; simp at h; exact ⟨e, h.symm⟩
  · contradiction

/-! ### fields and paths -/
theorem getF_rd {C : Cells} : ∀ {T : Ty} {x : den T} {cs} {i : Nat} {T' : Ty} {y : den T'}, Rd C T x cs → getF T x i = some ⟨T', y⟩ →
    ∃ o sub, offF T i = some (T', o) ∧ Rd C T' y sub ∧ (∀ j u, sub[j]? = some u → cs[o + j]? = some u) ∧ o + T'.size ≤ T.size
  | .prod a b, x, _, 0, T', y, ⟨p, q, e, h1, h2⟩, hg => by
    simp only [getF, Option.some.injEq, Sigma.mk.injEq] at hg
    obtain ⟨rfl, hy⟩ := hg
    obtain rfl := eq_of_heq hy
    refine ⟨0, p, rfl, h1, fun j u hj => ?_, by simp [Ty.size]⟩
    subst e; rw [Nat.zero_add, List.getElem?_append_left (List.getElem?_eq_some_iff.1 hj).1]; exact hj
  | .prod a b, x, _, i + 1, T', y, ⟨p, q, e, h1, h2⟩, hg => by
    simp only [getF] at hg
    obtain ⟨o, sub, h3, h4, h5, h6⟩ := getF_rd (T := b) h2 hg
    refine ⟨a.size + o, sub, by simp [offF, h3], h4, fun j u hj => ?_, by simp only [Ty.size]; omega⟩
    subst e
    have hl := Rd_len h1
    rw [List.getElem?_append_right (by omega), hl, show a.size + o + j - a.size = o + j by omega]
    exact h5 j u hj
theorem getP_rd {C : Cells} : ∀ {p : List Nat} {T : Ty} {x : den T} {cs} {T' : Ty} {y : den T'}, Rd C T x cs → getP T x p = some ⟨T', y⟩ →
    ∃ o sub, offP T p = some (T', o) ∧ Rd C T' y sub ∧ (∀ j u, sub[j]? = some u → cs[o + j]? = some u) ∧ o + T'.size ≤ T.size
  | [], T, x, cs, T', y, h, hg => by
    simp only [getP, Option.some.injEq, Sigma.mk.injEq] at hg
    obtain ⟨rfl, hy⟩ := hg
    obtain rfl := eq_of_heq hy
    exact ⟨0, cs, rfl, h, fun j u hj => by rw [Nat.zero_add]; exact hj, by simp⟩
  | f :: p, T, x, cs, T', y, h, hg => by
    unfold getP at hg
    split at hg
    · rename_i T1 z hz
      obtain ⟨o1, s1, h1, h2, h3, h3'⟩ := getF_rd h hz
      obtain ⟨o2, s2, h4, h5, h6, h6'⟩ := getP_rd h2 hg
      refine ⟨o1 + o2, s2, by simp [offP, h1, h4], h5, fun j u hj => ?_, by omega⟩
      rw [Nat.add_assoc]; exact h3 _ _ (h6 j u hj)
    · contradiction
theorem offP_snoc : ∀ {p : List Nat} {T T1 T2 : Ty} {o f o2}, offP T p = some (T1, o) → offF T1 f = some (T2, o2) → offP T (p ++ [f]) = some (T2, o + o2)
  | [], T, T1, T2, o, f, o2, h, hf => by
    simp only [offP, Option.some.injEq, Prod.mk.injEq] at h
    obtain ⟨rfl, rfl⟩ := h
    simp [offP, hf]
  | g :: p, T, T1, T2, o, f, o2, h, hf => by
    unfold offP at h
    split at h
    · rename_i T3 o3 h3
      obtain ⟨q, hq, e⟩ := Option.map_eq_some_iff.1 h
      obtain ⟨T4, o4⟩ := q
      simp only [Prod.mk.injEq] at e
      obtain ⟨rfl, rfl⟩ := e
      simp only [List.cons_append, offP, h3]
      rw [offP_snoc hq hf]
      simp [Nat.add_assoc]
    · contradiction

/-- What is written over in the middle. -/
def splice (cs : List Value) (o : Nat) (new : List Value) : List Value := cs.take o ++ new ++ cs.drop (o + new.length)
theorem setF_rd {C : Cells} : ∀ {T : Ty} {x : den T} {cs} {i : Nat} {T' : Ty} {y : den T'} {x' : den T} {new}, Rd C T x cs → setF T x i T' y = some x' → Rd C T' y new →
    ∃ o, offF T i = some (T', o) ∧ Rd C T x' (splice cs o new) ∧ o + T'.size ≤ T.size
  | .prod a b, x, _, 0, T', y, x', new, ⟨p, q, e, h1, h2⟩, hs, hn => by
    simp only [setF, Option.map_eq_some_iff] at hs
    obtain ⟨z, hz, rfl⟩ := hs
    obtain ⟨rfl, rfl⟩ := castT_some hz
    refine ⟨0, rfl, ⟨new, q, ?_, hn, h2⟩, by simp [Ty.size]⟩
    subst e
    have h3 := Rd_len h1; have h4 := Rd_len hn
    simp [splice, h4, ← h3]
  | .prod a b, x, _, i + 1, T', y, x', new, ⟨p, q, e, h1, h2⟩, hs, hn => by
    simp only [setF, Option.map_eq_some_iff] at hs
    obtain ⟨z, hz, rfl⟩ := hs
    obtain ⟨o, ho, h3, h4⟩ := setF_rd (T := b) h2 hz hn
    refine ⟨a.size + o, by simp [offF, ho], ⟨p, splice q o new, ?_, h1, h3⟩, by simp only [Ty.size]; omega⟩
    subst e
    have h5 := Rd_len h1
    simp only [splice, ← h5]
    rw [List.take_length_add_append, Nat.add_assoc, ← List.drop_drop, List.drop_left]
    simp [List.append_assoc]
theorem splice_splice (cs : List Value) (o1 o2 : Nat) (sub new : List Value) (hsub : ∀ j u, sub[j]? = some u → cs[o1 + j]? = some u) (hl : o2 + new.length ≤ sub.length) (hl2 : o1 + sub.length ≤ cs.length) :
    splice cs o1 (splice sub o2 new) = splice cs (o1 + o2) new := by
  have hsub' : sub = (cs.drop o1).take sub.length := by
    apply List.ext_getElem?
    intro j
    by_cases hj : j < sub.length
    · rw [List.getElem?_take_of_lt hj, List.getElem?_drop, hsub j _ (List.getElem?_eq_getElem hj), List.getElem?_eq_getElem hj]
    · rw [List.getElem?_eq_none (by omega), List.getElem?_eq_none (by rw [List.length_take]; omega)]
  have e1 : cs.take (o1 + o2) = cs.take o1 ++ sub.take o2 := by
    rw [hsub', List.take_take, Nat.min_eq_left (by omega), List.take_add]
  have e2 : cs.drop (o1 + o2 + new.length) = sub.drop (o2 + new.length) ++ cs.drop (o1 + sub.length) := by
    have : cs.drop o1 = sub ++ cs.drop (o1 + sub.length) := by
      conv => lhs; rw [← List.take_append_drop sub.length (cs.drop o1)]
      rw [← hsub', List.drop_drop]
    rw [Nat.add_assoc, ← List.drop_drop, this, List.drop_append_of_le_length (by omega)]
  unfold splice
  rw [e1, e2]
  have hlen : (sub.take o2 ++ new ++ sub.drop (o2 + new.length)).length = sub.length := by simp; omega
  rw [hlen]
  simp [List.append_assoc]
theorem setP_rd {C : Cells} : ∀ {p : List Nat} {T : Ty} {x : den T} {cs} {T' : Ty} {y : den T'} {x' : den T} {new}, Rd C T x cs → setP T x p T' y = some x' → Rd C T' y new →
    ∃ o, offP T p = some (T', o) ∧ Rd C T x' (splice cs o new) ∧ o + T'.size ≤ T.size
  | [], T, x, cs, T', y, x', new, h, hs, hn => by
    obtain ⟨rfl, rfl⟩ := castT_some hs
    refine ⟨0, rfl, ?_, by simp⟩
    have h1 := Rd_len h; have h2 := Rd_len hn
    simp only [splice, List.take_zero, List.nil_append, Nat.zero_add, h2, ← h1, List.drop_length, List.append_nil]
    exact hn
  | f :: p, T, x, cs, T', y, x', new, h, hs, hn => by
    unfold setP at hs
    split at hs
    · rename_i T1 z hz
      split at hs
      · rename_i z' hz'
        obtain ⟨o1, s1, h1, h2, h3, h3'⟩ := getF_rd h hz
        obtain ⟨o2, h4, h5, h6⟩ := setP_rd h2 hz' hn
        obtain ⟨o3, h7, h8, _⟩ := setF_rd h hs h5
        rw [h1] at h7
        simp only [Option.some.injEq, Prod.mk.injEq, true_and] at h7
        subst h7
        refine ⟨o1 + o2, by simp [offP, h1, h4], ?_, by omega⟩
        have l1 := Rd_len h2; have l2 := Rd_len hn; have l3 := Rd_len h
        rw [← splice_splice cs o1 o2 s1 new h3 (by omega) (by omega)]
        exact h8
      · contradiction
    · contradiction
end Go.Proofs.YtlcphnmkkilefaaDoor.Ab
