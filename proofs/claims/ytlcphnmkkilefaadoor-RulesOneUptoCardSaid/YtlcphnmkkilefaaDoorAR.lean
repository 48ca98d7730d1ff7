/- schema.New: its sort. -/
import Derived.Test.YtlcphnmkkilefaaDoorAQ
import Derived.Shelf.SlSortCmp.WholeK
import Derived.Shelf.SlSortCmp.NoneTotal
set_option linter.unusedVariables false
set_option linter.unusedSimpArgs false
namespace Go.Proofs.YtlcphnmkkilefaaDoor.Ab
open Go Go.RowKit Go.Lib Go.Shelf Go.Sort Go.Proofs
instance : Inhabited (den KeyT) := ⟨dflt KeyT⟩
def flatL (l : List (den KeyT)) : List Value := l.flatMap encK
theorem len_encK (x : den KeyT) : (encK x).length = 6 := rfl
theorem flat_get : ∀ (l : List (den KeyT)) (k j : Nat), j < 6 → k < l.length → (flatL l)[k * 6 + j]? = (encK (l.getD k (dflt KeyT)))[j]?
  | [], k, j, _, h => by simp at h
  | x :: l, 0, j, hj, _ => by
    simp only [flatL, List.flatMap_cons, Nat.zero_mul, Nat.zero_add, List.getD_cons_zero]
    rw [List.getElem?_append_left (by rw [len_encK]; exact hj)]
  | x :: l, k + 1, j, hj, h => by
    simp only [flatL, List.flatMap_cons, List.getD_cons_succ]
    rw [List.getElem?_append_right (by rw [len_encK]; omega), len_encK, show (k + 1) * 6 + j - 6 = k * 6 + j by omega]
    exact flat_get l k j hj (by simpa using h)
theorem len_flatL (l : List (den KeyT)) : (flatL l).length = l.length * 6 := by
  induction l with
  | nil => rfl
  | cons x l ih => simp only [flatL, List.flatMap_cons, List.length_append, len_encK, List.length_cons] at *; omega
theorem RdL_flat {C : Cells} : ∀ (l : List (den KeyT)) (xs : List Value), RdL (Rd C KeyT) l xs ↔ xs = flatL l
  | [], xs => by simp [RdL, flatL]
  | x :: l, xs => by
    constructor
    · rintro ⟨a, b, rfl, h1, h2⟩
      rw [Rd_key.1 h1, (RdL_flat l b).1 h2]; rfl
    · rintro rfl
      exact ⟨encK x, flatL l, rfl, Rd_key.2 rfl, (RdL_flat l _).2 rfl⟩
theorem flatK_get (d : Array (den KeyT)) (t : Nat) (h : t < d.size * 6) : some (flatK encK 6 d)[t]! = (flatL d.toList)[t]? := by
  rw [get_flatK _ _ _ _ h]
  have h1 : t / 6 < d.size := by omega
  have h2 : t % 6 < 6 := by omega
  have h3 := flat_get d.toList (t / 6) (t % 6) h2 (by simpa using h1)
  rw [show t / 6 * 6 + t % 6 = t by omega] at h3
  rw [h3]
  have h4 : d.toList.getD (t / 6) (dflt KeyT) = d[t / 6]! := by
    rw [getElem!_pos d _ h1, List.getD_eq_getElem?_getD, List.getElem?_eq_getElem (by simpa using h1)]; simp
  rw [h4, getElem!_pos (encK d[t / 6]!) _ (by rw [len_encK]; exact h2), List.getElem?_eq_getElem]
abbrev cmpK (x y : den KeyT) : Int := Lib.compareInt x.1 y.1
theorem ltK (x y : den KeyT) : ltOf cmpK x y = decide ((x.1 : Int) < y.1) := by
  unfold ltOf cmpK Lib.compareInt
  by_cases h1 : (x.1 : Int) < y.1
  · simp [h1]
  · by_cases h2 : (y.1 : Int) < x.1 <;> simp [h1, h2]
theorem swoK : SWO (ltOf cmpK) where
  irrefl x := by rw [ltK]; simp
  trans x y z h1 h2 := by rw [ltK] at *; simp only [decide_eq_true_eq] at *; exact Int.lt_trans h1 h2
  ntrans x y z h1 h2 := by rw [ltK] at *; simp only [decide_eq_false_iff_not, Int.not_lt] at *; exact Int.le_trans h2 h1
/-- Where New's sorted row lies. -/
def RowAt (W : World) (RA : Option Addr) (n : Nat) (l : List (den KeyT)) : Prop := (RA = none ∧ n = 0) ∨ ∃ g, RA = some ⟨g, 0, none⟩ ∧ g < W.heap.size ∧ (∀ j u, (flatL l)[j]? = some u → W.cell? ⟨g, j, none⟩ = some u ∧ W.frozen? ⟨g, j, none⟩ = false)
theorem sort_ok {P : Program} {ρ : Ren} (L : SlLaysF0.n6 P ρ) (aE : ∀ w, (isAgg (ρ.t 24)).run P w = .ok true w) (zE : ∀ w, (Go.sizeOf (ρ.t 24)).run P w = .ok 6 w) (g : Nat)
    (eg : ∀ args w, (callFunc g args).run P w = .ok (.enter g args) w)
    (hclo : ∀ (x y : den KeyT) (W : World), Calls P g #[.agg (encK x).toArray, .agg (encK y).toArray] W fun e w' => e = .returned (.int .i64 (Lib.compareInt x.1 y.1)) ∧ ∃ q os', w' = grow (W.drewN q) os')
    (n rc : Nat) (RA : Option Addr) (l : List (den KeyT)) (hn : l.length = n) (hn2 : n ≤ 64) (W : World) (h : RowAt W RA n l) :
    Calls P (ρ.f 6) #[.slice RA n rc, .func (.func g) #[] #[]] W fun e w' => e = .returned (.tuple #[]) ∧ ∃ l' : List (den KeyT), l'.Perm l ∧ l'.Pairwise (fun a b => (a.1 : Int) ≤ b.1) ∧ BelN (fun b => ∃ a, RA = some a ∧ a.block = b) W w' ∧ RowAt w' RA n l' := by
  rcases h with ⟨rfl, rfl⟩ | ⟨b, rfl, hb, hc⟩
  · refine (AnyF.slices_SortFunc_none L none rc _ W).mono ?_
    rintro e w' ⟨rfl, rfl⟩
    have : l = [] := List.length_eq_zero_iff.1 hn
    subst this
    exact ⟨rfl, [], List.Perm.refl _, List.Pairwise.nil, BelN.refl _ _, .inl ⟨rfl, rfl⟩⟩
  · have hsz : l.toArray.size = n := by simpa using hn
    have hH : HoldsK encK 6 W b 0 l.toArray := by
      intro j hj
      rw [size_flatK] at hj
      have h1 := flatK_get l.toArray j hj
      have h2 := hc j _ h1.symm
      rw [Nat.zero_add]
      exact h2
    have hcon := AnyQ.slices_SortFunc L 6 aE zE encK (fun _ => rfl) (fun x v hv => by simp only [encK, List.mem_cons, List.not_mem_nil, or_false] at hv; rcases hv with rfl | rfl | rfl | rfl | rfl | rfl <;> rfl) cmpK swoK g #[] b 0 rc l.toArray W eg (fun m os dk hdk x y => hclo x y _) hH hb (by omega)
    rw [hsz] at hcon
    refine hcon.mono ?_
    rintro e w' ⟨rfl, d', m, os, hp, hs, rfl⟩
    obtain ⟨hp1, hp2, hp3⟩ := hp
    rw [hsz] at hp1
    have hperm : d'.toList.Perm l := by
      have e1 : d'.extract 0 n = d' := by rw [← hp1]; simp
      have e2 : l.toArray.extract 0 n = l.toArray := by rw [← hsz]; simp
      rw [e1, e2] at hp3
      simpa using hp3
    have hheap : ∀ k, k ≠ b → k < W.heap.size → (sortWorldK encK 6 W b 0 m d' os).heap[k]? = W.heap[k]? := by
      intro k hk hk2
      show ((W.heap.modify b _) ++ os)[k]? = _
      rw [Array.getElem?_append_left (by simpa using hk2), Array.getElem?_modify, if_neg (Ne.symm hk)]
    refine ⟨rfl, d'.toList, hperm, ?_, ⟨rfl, rfl, rfl, ?_, fun k hk hN => hheap k (fun h => hN ⟨_, rfl, h.symm⟩) hk⟩, .inr ⟨b, rfl, ?_, ?_⟩⟩
    · rw [List.pairwise_iff_getElem]
      intro i j hi hj hij
      have h1 := hs i j (Nat.zero_le _) hij (by simpa [hp1] using hj)
      rw [ltK, decide_eq_false_iff_not, Int.not_lt, getElem!_pos d' _ (by simpa using hi), getElem!_pos d' _ (by simpa using hj)] at h1
      simpa using h1
    · show W.heap.size ≤ ((W.heap.modify b _) ++ os).size
      simp
    · show b < ((W.heap.modify b _) ++ os).size
      simp; omega
    · have hH2 : HoldsK encK 6 (sortWorldK encK 6 W b 0 m d' os) b 0 d' := by
        unfold sortWorldK
        refine holdsK_grow _ _ _ _ _ _ _ ?_ (holdsK_putRowK _ _ _ _ _ l.toArray _ (holdsK_ahead _ _ _ m _ _ _ hH) (by rw [hp1, hsz]))
        show b < (W.heap.modify b _).size
        simpa using hb
      intro j u hj
      have hj2 : j < d'.size * 6 := by
        have := (List.getElem?_eq_some_iff.1 hj).1
        rw [len_flatL] at this
        simpa using this
      have h1 := flatK_get d' j hj2
      rw [hj] at h1
      have h2 := hH2 j (by rw [size_flatK]; exact hj2)
      rw [Nat.zero_add] at h2
      rw [← Option.some.inj h1]
      exact h2
#print axioms sort_ok
end Go.Proofs.YtlcphnmkkilefaaDoor.Ab
