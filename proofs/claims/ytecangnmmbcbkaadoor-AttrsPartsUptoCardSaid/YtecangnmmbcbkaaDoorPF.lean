/- Plain laws of this seat's printed functions (picked). -/
import Derived.Test.YtecangnmmbcbkaaDoorPK
set_option linter.unusedVariables false
set_option linter.unusedSimpArgs false
set_option maxRecDepth 10000
namespace Go.Proofs.YtecangnmmbcbkaaDoor.Ab
open Go Classical
theorem law05_great_some (n : Nat) (a : den LAttr) (ha : a.length ≤ 4194304) (hn : 4194310 ≤ n) : ∃ b, law05_great n a = some b := by
  obtain ⟨n, rfl⟩ : ∃ k, n = k + 1 := ⟨n - 1, by omega⟩
  rw [law05_great, law05_great_top]
  have := law05_great_l2_list n n 0 a (by omega) (by omega) (by omega)
  simp only [Int.natCast_zero, List.drop_zero] at this
  suffices h : ∃ b, law05_great_g2 a a = some b by
    obtain ⟨b, hb⟩ := h
    exact ⟨b, this.trans hb⟩
  have : ∀ (r a : den LAttr), ∃ b, law05_great_g2 r a = some b := by
    intro r
    induction r with
    | nil => intro a; exact ⟨_, rfl⟩
    | cons x r ih =>
      intro a
      simp only [law05_great_g2]
      cases decide ((200 : Int) < (ByteArray.size x.2.1.2.2.2.1 : Int)) with
      | true => exact ⟨_, rfl⟩
      | false => exact ih a
  exact this a a
theorem law05_known_at : law05_known 8388607 = some true := by kernel_rfl

noncomputable def ordF (a : den LAttr) (l : List (den TAttr)) : den LAttr := l.foldl (fun a x => putK x a) a
noncomputable def ordB (a : den LAttr) (l : List (den TAttr)) : den LAttr := l.foldl (fun a x => if (find x.1 a).isSome then a else putK x a) a
theorem ordF_srt : ∀ (l : List (den TAttr)) (a : den LAttr), Srt a → Srt (ordF a l)
  | [], a, h => h
  | x :: l, a, h => ordF_srt l _ (srt_putK h)
theorem ordB_srt : ∀ (l : List (den TAttr)) (a : den LAttr), Srt a → Srt (ordB a l)
  | [], a, h => h
  | x :: l, a, h => by
    simp only [ordB, List.foldl_cons]
    split
    · exact ordB_srt l a h
    · exact ordB_srt l _ (srt_putK h)
theorem ordF_len : ∀ (l : List (den TAttr)) (a : den LAttr), (ordF a l).length ≤ a.length + l.length
  | [], a => by simp [ordF]
  | x :: l, a => by
    have h1 := ordF_len l (putK x a)
    have h2 := (len_putK (x := x) (l := a)).2
    simp only [ordF, List.foldl_cons, List.length_cons] at *; omega
theorem find_ordF (k : Int) : ∀ (l : List (den TAttr)) (a : den LAttr), Srt a → find k (ordF a l) = (find k l.reverse).or (find k a) := by
  intro l
  induction l with
  | nil => intro a h; rfl
  | cons x l ih =>
    intro a h
    simp only [ordF, List.foldl_cons] at ih ⊢
    rw [ih _ (srt_putK h), find_putK k h, List.reverse_cons]
    have : ∀ m : List (den TAttr), find k (m ++ [x]) = (find k m).or (find k [x]) := by
      intro m
      induction m with
      | nil => rfl
      | cons y m ih => simp only [List.cons_append, find]; split <;> simp_all [find]
    rw [this]
    simp only [find]
    cases find k l.reverse <;> simp <;> split <;> simp_all
theorem find_ordB (k : Int) : ∀ (l : List (den TAttr)) (a : den LAttr), Srt a → find k (ordB a l) = (find k a).or (find k l) := by
  intro l
  induction l with
  | nil => intro a h; simp [ordB, find]
  | cons x l ih =>
    intro a h
    simp only [ordB, List.foldl_cons] at ih ⊢
    split
    · rename_i g
      rw [ih a h]
      simp only [find]
      by_cases e : x.1 = k
      · subst e
        obtain ⟨v, hv⟩ := Option.isSome_iff_exists.1 g
        simp [hv]
      · simp [e]
    · rename_i g
      rw [ih _ (srt_putK h), find_putK k h]
      simp only [find]
      by_cases e : x.1 = k
      · subst e
        have : find x.1 a = none := by simpa using g
        simp [this]
      · simp [e]
theorem ord_same (l : List (den TAttr)) : ordF [] l = ordB [] l.reverse :=
  srt_ext (ordF_srt l [] srt_nil) (ordB_srt _ [] srt_nil) fun k => by
    rw [find_ordF k l [] srt_nil, find_ordB k _ [] srt_nil]
    simp [find]

theorem getS_find {a : den LAttr} {t : Int} : (getS a t).2 = (find t a).isSome := by
  unfold getS
  cases find t a <;> rfl
section
variable (n : Nat) (l a : den LAttr) (key : Int)
end
end Go.Proofs.YtecangnmmbcbkaaDoor.Ab
