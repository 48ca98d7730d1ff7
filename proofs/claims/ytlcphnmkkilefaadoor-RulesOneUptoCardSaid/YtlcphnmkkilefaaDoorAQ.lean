/- schema.New: what its loop and its sort come to. -/
import Derived.Test.YtlcphnmkkilefaaDoorAM
set_option linter.unusedVariables false
set_option linter.unusedSimpArgs false
namespace Go.Proofs.YtlcphnmkkilefaaDoor.Ab
open Go Go.RowKit
def okAt (l : List (den KeyT)) (i : Nat) : Bool := mayKey (l.getD i (dflt KeyT)) && !((l.take i).any fun x => decide ((x.1 : Int) = (l.getD i (dflt KeyT)).1))
abbrev Dis (l : List (den KeyT)) : Prop := l.Pairwise fun a b => (a.1 : Int) ≠ b.1
theorem keysOk_iff : ∀ l : List (den KeyT), keysOk l = true ↔ (∀ x ∈ l, mayKey x = true) ∧ Dis l
  | [] => by simp [keysOk]
  | k :: r => by
    simp only [keysOk, Bool.and_eq_true, keysOk_iff r, Dis, List.pairwise_cons, Bool.not_eq_true', List.any_eq_false, decide_eq_true_eq, List.mem_cons, forall_eq_or_imp]
    constructor
    · rintro ⟨⟨h1, h2⟩, h3, h4⟩
      exact ⟨⟨h1, h3⟩, fun a ha => fun h => h2 a ha h.symm, h4⟩
    · rintro ⟨⟨h1, h3⟩, h2, h4⟩
      exact ⟨⟨h1, fun a ha h => h2 a ha h.symm⟩, h3, h4⟩
theorem okAt_iff (l : List (den KeyT)) : (∀ i, i < l.length → okAt l i = true) ↔ (∀ x ∈ l, mayKey x = true) ∧ Dis l := by
  have hg : ∀ i (h : i < l.length), l.getD i (dflt KeyT) = l[i] := fun i h => by simp [List.getD_eq_getElem?_getD, List.getElem?_eq_getElem h]
  constructor
  · intro h
    constructor
    · intro x hx
      obtain ⟨i, hi, rfl⟩ := List.mem_iff_getElem.1 hx
      have := h i hi
      rw [okAt, hg i hi, Bool.and_eq_true] at this
      exact this.1
    · rw [Dis, List.pairwise_iff_getElem]
      intro i j hi hj hij he
      have := h j hj
      rw [okAt, hg j hj, Bool.and_eq_true, Bool.not_eq_true', List.any_eq_false] at this
      exact this.2 l[i] (List.mem_take_iff_getElem.2 ⟨i, by omega, rfl⟩) (by simpa using he)
  · rintro ⟨h1, h2⟩ i hi
    rw [okAt, hg i hi, Bool.and_eq_true, Bool.not_eq_true', List.any_eq_false]
    refine ⟨h1 _ (List.getElem_mem hi), ?_⟩
    intro x hx
    obtain ⟨j, hj, rfl⟩ := List.mem_take_iff_getElem.1 hx
    rw [Dis, List.pairwise_iff_getElem] at h2
    simpa using h2 j i (by omega) hi (by omega)
theorem perm_putK {x : den KeyT} : ∀ {l : List (den KeyT)}, (∀ y ∈ l, (x.1 : Int) ≠ y.1) → (putK x l).Perm (x :: l)
  | [], _ => List.Perm.refl _
  | y :: l, h => by
    unfold putK
    split
    · exact ((perm_putK fun z hz => h z (List.mem_cons_of_mem _ hz)).cons y).trans (List.Perm.swap _ _ _)
    · split
      · rename_i he; exact absurd he.symm (h y (List.mem_cons_self ..))
      · exact List.Perm.refl _
theorem rise_putK {x : den KeyT} : ∀ {l : List (den KeyT)}, l.Pairwise (fun a b => (a.1 : Int) < b.1) → (putK x l).Pairwise (fun a b => (a.1 : Int) < b.1) ∧ ∀ k : Int, k < x.1 → (∀ y ∈ l, k < (y.1 : Int)) → ∀ y ∈ putK x l, k < (y.1 : Int)
  | [], _ => ⟨by simp [putK], fun k hk _ y hy => by simp [putK] at hy; subst hy; exact hk⟩
  | z :: l, h => by
    obtain ⟨h1, h2⟩ := List.pairwise_cons.1 h
    obtain ⟨i1, i2⟩ := rise_putK (x := x) h2
    unfold putK
    split
    · rename_i hlt
      refine ⟨List.pairwise_cons.2 ⟨fun y hy => i2 z.1 hlt h1 y hy, i1⟩, fun k hk hl y hy => ?_⟩
      rcases List.mem_cons.1 hy with rfl | hy
      · exact hl _ (List.mem_cons_self ..)
      · exact i2 k hk (fun u hu => hl u (List.mem_cons_of_mem _ hu)) y hy
    · rename_i hnl
      split
      · rename_i he
        refine ⟨List.pairwise_cons.2 ⟨fun y hy => by rw [← he]; exact h1 y hy, h2⟩, fun k hk hl y hy => ?_⟩
        rcases List.mem_cons.1 hy with rfl | hy
        · exact hk
        · exact hl _ (List.mem_cons_of_mem _ hy)
      · rename_i hne
        have hxz : (x.1 : Int) < z.1 := Int.lt_iff_le_and_ne.2 ⟨Int.not_lt.1 hnl, fun h => hne h.symm⟩
        refine ⟨List.pairwise_cons.2 ⟨fun y hy => ?_, h⟩, fun k hk hl y hy => ?_⟩
        · rcases List.mem_cons.1 hy with rfl | hy
          · exact hxz
          · exact Int.lt_trans hxz (h1 y hy)
        · rcases List.mem_cons.1 hy with rfl | hy
          · exact hk
          · exact hl _ hy
theorem sortK_spec : ∀ {l : List (den KeyT)}, Dis l → (sortK l).Perm l ∧ (sortK l).Pairwise (fun a b => (a.1 : Int) < b.1)
  | [], _ => ⟨List.Perm.refl _, List.Pairwise.nil⟩
  | x :: l, h => by
    obtain ⟨h1, h2⟩ := List.pairwise_cons.1 h
    obtain ⟨i1, i2⟩ := sortK_spec h2
    exact ⟨(perm_putK fun y hy => h1 y (i1.mem_iff.1 hy)).trans (i1.cons x), (rise_putK i2).1⟩
theorem sortK_unique {l l' : List (den KeyT)} (h : Dis l) (hp : l'.Perm l) (hs : l'.Pairwise fun a b => (a.1 : Int) ≤ b.1) : l' = sortK l := by
  obtain ⟨h1, h2⟩ := sortK_spec h
  have hd : ∀ {m : List (den KeyT)}, m.Perm l → Dis m := fun hm => hm.symm.pairwise h (fun hab => Ne.symm hab)
  refine List.Perm.eq_of_pairwise (le := fun a b : den KeyT => (a.1 : Int) ≤ b.1) ?_ hs (h2.imp fun h => Int.le_of_lt h) (hp.trans h1.symm)
  intro a b ha hb hab hba
  have hab' : (a.1 : Int) = b.1 := Int.le_antisymm hab hba
  have ha' : a ∈ l := hp.mem_iff.1 ha
  have hb' : b ∈ l := h1.mem_iff.1 hb
  obtain ⟨i, hi, rfl⟩ := List.mem_iff_getElem.1 ha'
  obtain ⟨j, hj, rfl⟩ := List.mem_iff_getElem.1 hb'
  have hpw := List.pairwise_iff_getElem.1 h
  rcases Nat.lt_trichotomy i j with g | g | g
  · exact absurd hab' (hpw i j hi hj g)
  · subst g; rfl
  · exact absurd hab'.symm (hpw j i hj hi g)
#print axioms sortK_unique
#print axioms okAt_iff
theorem newS_bad {l : List (den KeyT)} (h : keysOk l = false) : newS l = (none, 3) := by
  simp [newS, h]
theorem newS_big {l : List (den KeyT)} (h : 64 < l.length) : newS l = (none, 3) := by
  have : (64 : Int) < (l.length : Int) := by omega
  simp [newS, this]
theorem newS_good {l : List (den KeyT)} (h : keysOk l = true) (hn : l.length ≤ 64) : newS l = (some (sortK l, (l.map fun k => (k.1, k), ())), 0) := by
  have : ¬ (64 : Int) < (l.length : Int) := by omega
  simp [newS, this, h]
end Go.Proofs.YtlcphnmkkilefaaDoor.Ab
