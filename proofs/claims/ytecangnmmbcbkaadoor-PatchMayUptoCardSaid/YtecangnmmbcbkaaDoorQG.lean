/- What patches and sets that may be are, and their parts. -/
import Derived.Test.YtecangnmmbcbkaaDoorPR
import Derived.Test.YtecangnmmbcbkaaDoorQF
set_option linter.unusedVariables false
set_option linter.unusedSimpArgs false
set_option maxRecDepth 100000
namespace Go.Proofs.YtecangnmmbcbkaaDoor.Ab
open Go Classical
/-! rising -/
def risF {β : Type} : Option Int → List (Int × β) → Bool
  | _, [] => true
  | none, c :: r => risF (some c.1) r
  | some k, c :: r => decide (k < c.1) && risF (some c.1) r
theorem risF_some {β : Type} : ∀ (k : Int) (l : List (Int × β)), risF (some k) l = true ↔ Abv k l ∧ Srt l
  | k, [] => by simp [risF, Abv, Srt]
  | k, c :: r => by
    simp only [risF, Bool.and_eq_true, decide_eq_true_eq, risF_some c.1 r, abv_cons, srt_cons]
    constructor
    · rintro ⟨h1, h2, h3⟩
      exact ⟨⟨h1, h2.mono (by omega)⟩, h2, h3⟩
    · rintro ⟨⟨h1, _⟩, h2, h3⟩
      exact ⟨h1, h2, h3⟩
theorem risF_none {β : Type} (l : List (Int × β)) : risF none l = true ↔ Srt l := by
  cases l with
  | nil => simp [risF, Srt]
  | cons c r => simp only [risF, risF_some, srt_cons]
noncomputable def chOk (c : den TChange) : Bool := bif c.2.1 then eqT TValue c.2.2.1 zv else mayV c.2.2.1
noncomputable def fitK (l : List (den KeyT)) (k : Int) (v : den TValue) : Bool := (findK l k).isSome && (decide ((((findK l k).getD (dflt KeyT)).2.2.1 : Int) = v.1) && mayV v)
noncomputable def chFit (l : List (den KeyT)) (c : den TChange) : Bool := (findK l c.1).isSome && (c.2.1 || fitK l c.1 c.2.2.1)
theorem Schema_Fits_spec (n : Nat) (l : List (den KeyT)) (k : Int) (v : den TValue) (hn : 102 ≤ n) : Schema_Fits n (schK l) k v = some (fitK l k v) := by
  obtain ⟨n, rfl⟩ : ∃ m, n = m + 1 := ⟨n - 1, by omega⟩
  rw [Schema_Fits, Schema_Fits_top, Schema_Find_spec n l k (by omega)]
  simp only [Option.bind_some, fitK]
  cases (findK l k).isSome with
  | false => rfl
  | true =>
    rw [value_May_spec n v (by omega)]
    simp only [cond_true, Bool.true_and]
    show (bif decide ((((findK l k).getD (dflt KeyT)).2.2.1 : Int) = v.1) then _ else _) = _
    cases decide ((((findK l k).getD (dflt KeyT)).2.2.1 : Int) = v.1) <;> rfl
noncomputable def prevC {β : Type} (d : Int × β) (p : List (Int × β)) (i : Nat) : Option Int := if i = 0 then none else some (p.getD (i - 1) d).1
theorem prevC_succ {β : Type} (d : Int × β) {p : List (Int × β)} {i : Nat} {x : Int × β} {r : List (Int × β)} (h : p.drop i = x :: r) : prevC d p (i + 1) = some x.1 := by
  have h2 : p.getD i d = x := by
    have := congrArg (fun l => l.getD 0 d) h
    simpa [List.getD_eq_getElem?_getD, List.getElem?_drop] using this
  unfold prevC
  rw [if_neg (by omega)]
  show some (p.getD i d).1 = some x.1
  rw [h2]
theorem drop_next {α : Type} {p : List α} {i : Nat} {x : α} {r : List α} (h : p.drop i = x :: r) : p.drop (i + 1) = r := by
  rw [← List.drop_drop, h]; rfl
theorem patch_May_g5_spec (n : Nat) (hn : 200 ≤ n) (l : List (den KeyT)) (p : den LChange) (hp : p.length ≤ 64) : ∀ (r : den LChange) (i : Nat) (e : Int), (p : List (den TChange)).drop i = r → i ≤ p.length →
    patch_May_g5 (Schema_Find n) (Schema_Fits n) (value_May n) r (schK l) p e (i : Int) = some (bif risF (prevC (dflt TChange) p i) r && r.all chOk then (bif r.all (chFit l) then e else 4) else 3)
  | [], i, e, _, _ => by simp [patch_May_g5, risF]
  | x :: r, i, e, h, hi => by
    have hlen : i + (r.length + 1) = p.length := by
      have := congrArg List.length h
      simp only [List.length_drop, List.length_cons] at this
      omega
    have IH := fun e => patch_May_g5_spec n hn l p hp r (i + 1) e (drop_next h) (by omega)
    rw [prevC_succ (dflt TChange) h] at IH
    have hi1 : ((i : Int) + 1) = ((i + 1 : Nat) : Int) := by omega
    rw [patch_May_g5, hi1]
    simp only [IH, Schema_Find_spec n l x.1 (by omega), Schema_Fits_spec n l x.1 x.2.2.1 (by omega), value_May_spec n x.2.2.1 (by omega), Option.bind_some, List.all_cons]
    have hc : chOk x = bif x.2.1 then eqT TValue x.2.2.1 zv else mayV x.2.2.1 := rfl
    have hf : chFit l x = ((findK l x.1).isSome && (x.2.1 || fitK l x.1 x.2.2.1)) := rfl
    rw [hc, hf]
    generalize (findK l x.1).isSome = F
    generalize fitK l x.1 x.2.2.1 = T
    generalize mayV x.2.2.1 = M
    show _ = some (bif (risF (prevC (dflt TChange) p i) (x :: r) && ((bif x.2.1 then eqT TValue x.2.2.1 zv else M) && List.all r chOk)) then _ else _)
    generalize List.all r chOk = AO
    generalize List.all r (chFit l) = AF
    have hE : eqT TValue x.2.2.1 ((0 : Int), ((0 : Int), ((0 : Int), ((⟨#[]⟩ : ByteArray), ())))) = eqT TValue x.2.2.1 zv := rfl
    rw [hE]
    generalize eqT TValue x.2.2.1 zv = E
    have hr : risF (prevC (dflt TChange) p i) (x :: r) = ((bif decide (0 < i) then decide ((p.getD (i - 1) (dflt TChange)).1 < x.1) else true) && risF (some x.1) r) := by
      unfold prevC
      by_cases h0 : i = 0
      · rw [if_pos h0, decide_eq_false (by omega)]; simp [risF]
      · rw [if_neg h0, decide_eq_true (by omega)]; simp [risF]
    rw [hr]
    generalize risF (some x.1) r = R
    by_cases h0 : 0 < i
    · have h0' : (0 : Int) < (i : Int) := by omega
      have hw : IntKind.wrap .i64 ((i : Int) - 1) = ((i - 1 : Nat) : Int) := by rw [w64 (by omega) (by omega)]; omega
      have g1 : (0 : Int) ≤ ((i - 1 : Nat) : Int) := by omega
      have g2 : ((i - 1 : Nat) : Int) < (p.length : Int) := by omega
      rw [hw]
      simp only [h0', g1, g2, decide_true, Bool.and_self, cond_true, Int.toNat_natCast, decide_eq_true h0]
      have hlt : decide ((p.getD (i - 1) (dflt TChange)).1 < x.1) = !decide (x.1 ≤ (p.getD (i - 1) (dflt TChange)).1) := by
        rw [Bool.eq_iff_iff]
        simp only [Bool.not_eq_true', decide_eq_true_eq, decide_eq_false_iff_not]
        exact Int.not_le.symm
      rw [hlt]
      generalize decide (x.1 ≤ (p.getD (i - 1) (dflt TChange)).1) = B
      generalize x.2.1 = G
      cases B <;> cases G <;> cases E <;> cases M <;> cases F <;> cases T <;> cases R <;> cases AO <;> cases AF <;> rfl
    · have h0' : ¬ (0 : Int) < (i : Int) := by omega
      simp only [h0', decide_false, cond_false, decide_eq_false h0]
      generalize x.2.1 = G
      cases G <;> cases E <;> cases M <;> cases F <;> cases T <;> cases R <;> cases AO <;> cases AF <;> rfl
noncomputable def mayP (l : List (den KeyT)) (p : den LChange) : Int := bif decide (64 < p.length) then 3 else bif risF none p && p.all chOk then (bif p.all (chFit l) then 0 else 4) else 3
theorem patch_May_spec (n : Nat) (hn : 300 ≤ n) (l : List (den KeyT)) (p : den LChange) : patch_May n (schK l) p = some (mayP l p) := by
  obtain ⟨n, rfl⟩ : ∃ m, n = m + 1 := ⟨n - 1, by omega⟩
  rw [patch_May, patch_May_top]
  unfold mayP
  by_cases h : 64 < p.length
  · have h' : (64 : Int) < (p.length : Int) := by omega
    rw [decide_eq_true h, decide_eq_true h']; rfl
  · have h' : ¬ (64 : Int) < (p.length : Int) := by omega
    rw [decide_eq_false h, decide_eq_false h', cond_false, cond_false]
    have hl := patch_May_l5_list (Schema_Find n) (Schema_Fits n) (value_May n) n n 0 (schK l) p 0 p (by omega) (by omega) (by omega)
    rw [show ((0 : Nat) : Int) = 0 from rfl, List.drop_zero] at hl
    rw [hl]
    exact patch_May_g5_spec n (by omega) l p (by omega) p 0 0 rfl (by omega)
theorem mayP_ok {l : List (den KeyT)} {p : den LChange} : mayP l p = 0 ↔ p.length ≤ 64 ∧ Srt p ∧ ∀ c ∈ p, chOk c = true ∧ chFit l c = true := by
  unfold mayP
  by_cases h : 64 < p.length
  · rw [decide_eq_true h, cond_true]
    constructor
    · intro h; exact absurd h (by decide)
    · rintro ⟨h2, _⟩; omega
  · rw [decide_eq_false h, cond_false, ← risF_none]
    cases hr : risF none p with
    | false => simp
    | true =>
      rw [Bool.true_and]
      cases ho : p.all chOk with
      | false =>
        rw [cond_false]
        constructor
        · intro h; exact absurd h (by decide)
        · rintro ⟨_, _, h3⟩
          rw [List.all_eq_true.2 fun c hc => (h3 c hc).1] at ho; cases ho
      | true =>
        rw [cond_true]
        cases hf : p.all (chFit l) with
        | false =>
          rw [cond_false]
          constructor
          · intro h; exact absurd h (by decide)
          · rintro ⟨_, _, h3⟩
            rw [List.all_eq_true.2 fun c hc => (h3 c hc).2] at hf; cases hf
        | true =>
          rw [cond_true]
          exact ⟨fun _ => ⟨by omega, rfl, fun c hc => ⟨List.all_eq_true.1 ho c hc, List.all_eq_true.1 hf c hc⟩⟩, fun _ => rfl⟩
/-! parts -/
def inB (l : List (den KeyT)) (k : Int) (b : Bool) : Bool := (findK l k).isSome && eqT .bool ((findK l k).getD (dflt KeyT)).2.1 b
def partS {β : Type} (l : List (den KeyT)) (p : List (Int × β)) (b : Bool) : List (Int × β) := p.filter fun x => inB l x.1 b
theorem patch_Part_1_spec (n : Nat) (l : List (den KeyT)) (x : den TChange) (b : Bool) (hn : 5 ≤ n) : patch_Part_1 n x (schK l) b = some (!inB l x.1 b) := by
  obtain ⟨n, rfl⟩ : ∃ m, n = m + 1 := ⟨n - 1, by omega⟩
  rw [patch_Part_1, patch_Part_1_top, Schema_Find_spec n l x.1 (by omega)]
  simp only [Option.bind_some, inB]
  cases (findK l x.1).isSome <;> rfl

theorem slices_Clone_Change_spec (n : Nat) (l : den (.slice TChange)) (hl : l.length ≤ 4194304) (hn : 0 < n) : slices_Clone_Change n l = some (l, ()) := by
  obtain ⟨n, rfl⟩ : ∃ k, n = k + 1 := ⟨n - 1, by omega⟩
  rw [slices_Clone_Change, decide_eq_true (show (0 + l.length) * 56 ≤ 140737488355328 by omega)]; rfl


theorem slices_IndexFunc_Change__patch_Part_1_l2_spec (C : den TChange  → den PSchema → den .bool → Option Bool) (n : Nat) (s : den (.slice TChange)) (ca : den PSchema) (cb : den .bool) (d : den TChange → Bool) (hC : ∀ x, C x ca cb = some (d x)) (hs : s.length ≤ 4194304) :
    ∀ (m i : Nat), s.length - i < m → i ≤ s.length → (∀ x ∈ s.take i, d x = false) →
      (slices_IndexFunc_Change__patch_Part_1_l2 C n m s ca cb (s.length : Int) (i : Int) = some (-1) ∧ ∀ x ∈ s, d x = false) ∨ ∃ k : Nat, slices_IndexFunc_Change__patch_Part_1_l2 C n m s ca cb (s.length : Int) (i : Int) = some (k : Int) ∧ k < s.length ∧ (∀ x ∈ s.take k, d x = false) ∧ d (s.getD k (dflt TChange)) = true := by
  intro m
  induction m with
  | zero => intro i h; omega
  | succ m ih =>
    intro i hm hi hp
    rw [slices_IndexFunc_Change__patch_Part_1_l2, slices_IndexFunc_Change__patch_Part_1_s2]
    by_cases h : i < s.length
    · have h' : (i : Int) < (s.length : Int) := by omega
      simp only [h', decide_true, cond_true, Int.natCast_nonneg, Bool.and_self, Int.toNat_natCast, hC, Option.bind_some]
      rw [w64s (n := i) (by omega)]
      cases g : d (s.getD i (dflt TChange)) with
      | true => exact .inr ⟨i, rfl, h, hp, g⟩
      | false =>
        rw [cond_false]
        refine ih (i + 1) (by omega) (by omega) fun x hx => ?_
        rw [take_succ_getD h (dflt TChange)] at hx
        rcases List.mem_append.1 hx with hx | hx
        · exact hp x hx
        · simp only [List.mem_singleton] at hx; rw [hx]; exact g
    · have h' : ¬ (i : Int) < (s.length : Int) := by omega
      simp only [h', decide_false, cond_false]
      refine .inl ⟨trivial, fun x hx => hp x ?_⟩
      rw [List.take_of_length_le (by omega)]; exact hx
theorem slices_IndexFunc_Change__patch_Part_1_spec (n : Nat) (s : den (.slice TChange)) (ca : den PSchema) (cb : den .bool) (d : den TChange → Bool) (B : Nat) (hC : ∀ n, B ≤ n → ∀ x, patch_Part_1 n x ca cb = some (d x)) (hs : s.length ≤ 4194304) (hn : 4194310 + B ≤ n) :
    (slices_IndexFunc_Change__patch_Part_1 n s ca cb = some (-1) ∧ ∀ x ∈ s, d x = false) ∨ ∃ k : Nat, slices_IndexFunc_Change__patch_Part_1 n s ca cb = some (k : Int) ∧ k < s.length ∧ (∀ x ∈ s.take k, d x = false) ∧ d (s.getD k (dflt TChange)) = true := by
  obtain ⟨n, rfl⟩ : ∃ k, n = k + 1 := ⟨n - 1, by omega⟩
  rw [slices_IndexFunc_Change__patch_Part_1, slices_IndexFunc_Change__patch_Part_1_top]
  exact slices_IndexFunc_Change__patch_Part_1_l2_spec (patch_Part_1 n) n s ca cb d (hC n (by omega)) hs n 0 (by omega) (by omega) (by simp)

theorem slices_DeleteFunc_Change__patch_Part_1_l5_spec (Cx : den (.slice TChange)  → den PSchema → den .bool → Option Int) (C : den TChange  → den PSchema → den .bool → Option Bool) (n : Nat) (s : den (.slice TChange)) (ca : den PSchema) (cb : den .bool) (d : den TChange → Bool) (hC : ∀ x, C x ca cb = some (d x)) (hs : s.length ≤ 4194304) :
    ∀ (m i j : Nat) (o : den (.slice TChange)), s.length - j < m → i < j → j ≤ s.length → o.length = s.length → o.take i = (s.take j).filter (fun x => !d x) → o.drop j = s.drop j →
      slices_DeleteFunc_Change__patch_Part_1_l5 Cx C n m ca cb (i : Int) (j : Int) o = some (s.filter (fun x => !d x), ((), ())) := by
  intro m
  induction m with
  | zero => intro i j o h; omega
  | succ m ih =>
    intro i j o hm hij hj hl h1 h2
    rw [slices_DeleteFunc_Change__patch_Part_1_l5, slices_DeleteFunc_Change__patch_Part_1_s5]
    by_cases h : j < s.length
    · have h' : (j : Int) < (o.length : Int) := by omega
      have hi' : (i : Int) < (o.length : Int) := by omega
      obtain ⟨e, hy, hno⟩ := shift_step (fun x => !d x) (dflt TChange) s o i j hij h hl h1 h2
      simp only [h', hi', decide_true, cond_true, Int.natCast_nonneg, Bool.and_self, Int.toNat_natCast, hC, Option.bind_some]
      rw [w64s (n := i) (by omega), w64s (n := j) (by omega), e]
      cases g : d (s.getD j (dflt TChange)) with
      | true =>
        obtain ⟨q1, q2⟩ := hno (by rw [g]; rfl)
        simp only [Bool.not_true, cond_false]
        exact ih i (j + 1) o (by omega) (by omega) (by omega) hl q1 q2
      | false =>
        obtain ⟨q1, q2⟩ := hy (by rw [g]; rfl)
        rw [e] at q1 q2
        simp only [Bool.not_false, cond_true]
        exact ih (i + 1) (j + 1) _ (by omega) (by omega) (by omega) (by rw [List.length_set]; exact hl) q1 q2
    · have h' : ¬ (j : Int) < (o.length : Int) := by omega
      have hi' : (i : Int) ≤ (o.length : Int) := by omega
      have hli : (o.take i).length = i := by rw [List.length_take]; omega
      have h3 : (i : Int) ≤ ((o.take i ++ List.replicate (o.length - i) (dflt TChange)).length : Int) := by rw [List.length_append, hli]; omega
      simp only [h', decide_false, cond_false, hi', h3, decide_true, Int.natCast_nonneg, Bool.and_self, cond_true, Int.toNat_natCast]
      have e1 : (o.take i ++ List.replicate (o.length - i) (dflt TChange)).take i = o.take i := by
        rw [List.take_append_of_le_length (by omega), List.take_of_length_le (by omega)]
      rw [e1, h1, List.take_of_length_le (by omega)]
theorem slices_DeleteFunc_Change__patch_Part_1_spec (n : Nat) (ca : den PSchema) (cb : den .bool) (s : den (.slice TChange)) (d : den TChange → Bool) (B : Nat) (hC : ∀ n, B ≤ n → ∀ x, patch_Part_1 n x ca cb = some (d x)) (hs : s.length ≤ 4194304) (hn : 4194320 + B ≤ n) : slices_DeleteFunc_Change__patch_Part_1 n ca cb s = some (s.filter (fun x => !d x), ((), ())) := by
  obtain ⟨n, rfl⟩ : ∃ k, n = k + 1 := ⟨n - 1, by omega⟩
  rw [slices_DeleteFunc_Change__patch_Part_1, slices_DeleteFunc_Change__patch_Part_1_top]
  rcases slices_IndexFunc_Change__patch_Part_1_spec n s ca cb d B hC hs (by omega) with ⟨h1, h2⟩ | ⟨k, h1, h2, h3, h4⟩
  · rw [h1, Option.bind_some, notAny h2]; rfl
  · rw [h1, Option.bind_some]
    have hne : ¬ (k : Int) = -1 := by omega
    rw [decide_eq_false hne, cond_false, w64s (n := k) (by omega)]
    refine slices_DeleteFunc_Change__patch_Part_1_l5_spec _ (patch_Part_1 n) n s ca cb d (hC n (by omega)) hs n k (k + 1) s (by omega) (by omega) (by omega) rfl ?_ rfl
    rw [take_succ_getD h2 (dflt TChange), List.filter_append, notAny h3]
    simp only [List.filter_cons, h4, Bool.not_true, Bool.false_eq_true, if_false, List.filter_nil, List.append_nil]

theorem patch_Part_spec (n : Nat) (l : List (den KeyT)) (p : den LChange) (b : Bool) (hp : p.length ≤ 4194304) (hn : 4194400 ≤ n) : patch_Part n (schK l) p b = some (partS l p b) := by
  obtain ⟨n, rfl⟩ : ∃ k, n = k + 1 := ⟨n - 1, by omega⟩
  rw [patch_Part, patch_Part_top, slices_Clone_Change_spec n p hp (by omega), Option.bind_some, slices_DeleteFunc_Change__patch_Part_1_spec n (schK l) b p (fun x => !inB l x.1 b) 5 (fun n hn x => patch_Part_1_spec n l x b hn) hp (by omega)]
  simp only [Bool.not_not]
  rfl
end Go.Proofs.YtecangnmmbcbkaaDoor.Ab
