/- PatchMay. -/
import Derived.Test.YtecangnmmbcbkaaDoorQI
set_option linter.unusedVariables false
set_option linter.unusedSimpArgs false
set_option maxRecDepth 100000
namespace Go.Proofs.YtecangnmmbcbkaaDoor.Ab
open Go Classical
theorem ref06_May_g9_spec (n : Nat) (hn : 4194400 ≤ n) (l : List (den KeyT)) (hl : l.length ≤ 1048576) (C1 : den LChange → Option Bool) (C2 : den TValue → Option Bool) : ∀ r : den LChange, (∀ x ∈ r, okV x.2.2.1) →
    ref06_May_g9 C1 C2 (ref04_Find n) (ref04_Fits n) r l = some (bif r.all (chFit l) then 0 else 4)
  | [], _ => rfl
  | x :: r, h => by
    have IH := ref06_May_g9_spec n hn l hl C1 C2 r fun y hy => h y (List.mem_cons_of_mem _ hy)
    rw [ref06_May_g9, ref04_Find_spec n l x.1 hl (by omega), ref04_Fits_spec n l x.1 x.2.2.1 hl (h x List.mem_cons_self) hn]
    simp only [Option.bind_some, List.all_cons, IH]
    have hf : chFit l x = ((findK l x.1).isSome && (x.2.1 || fitK l x.1 x.2.2.1)) := rfl
    rw [hf]
    generalize x.2.1 = G
    cases (findK l x.1).isSome <;> cases fitK l x.1 x.2.2.1 <;> cases G <;> cases r.all (chFit l) <;> rfl
theorem ref06_May_g4_spec (n : Nat) (hn : 4194400 ≤ n) (C1 : den LChange → Option Bool) (C3 : den LKey → Int → Option (den TKey × Bool)) (C4 : den LKey → Int → den TValue → Option Bool) (LL : den LKey → den LChange → Int → Option Int) (l : List (den KeyT)) (p : den LChange) : ∀ r : den LChange, (∀ x ∈ r, okV x.2.2.1) →
    ref06_May_g4 C1 (ref03_May n) C3 C4 LL r l p = bif r.all chOk then LL l p 0 else some 3
  | [], _ => rfl
  | x :: r, h => by
    have IH := ref06_May_g4_spec n hn C1 C3 C4 LL l p r fun y hy => h y (List.mem_cons_of_mem _ hy)
    have hx := h x List.mem_cons_self
    rw [ref06_May_g4, ref03_May_spec n x.2.2.1 hx (by have := hx.2; omega)]
    simp only [Option.bind_some, List.all_cons, IH]
    have hc : chOk x = bif x.2.1 then eqT TValue x.2.2.1 zv else mayV x.2.2.1 := rfl
    have hE : eqT TValue x.2.2.1 ((0 : Int), ((0 : Int), ((0 : Int), ((⟨#[]⟩ : ByteArray), ())))) = eqT TValue x.2.2.1 zv := rfl
    rw [hc, hE]
    generalize x.2.1 = G
    cases G <;> cases eqT TValue x.2.2.1 zv <;> cases mayV x.2.2.1 <;> cases r.all chOk <;> rfl
theorem ref06_May_spec (n : Nat) (hn : 4194500 ≤ n) (l : List (den KeyT)) (hl : l.length ≤ 1048576) (p : den LChange) (hp : p.length ≤ 4194304) (ho : ∀ x ∈ p, okV x.2.2.1) : ref06_May n l p = some (mayP l p) := by
  obtain ⟨n, rfl⟩ : ∃ m, n = m + 1 := ⟨n - 1, by omega⟩
  rw [ref06_May, ref06_May_top, ref06_Rising_iff n p hp (by omega)]
  unfold mayP
  have hr : risF none p = decide (Srt p) := by rw [Bool.eq_iff_iff, risF_none, decide_eq_true_eq]
  rw [hr]
  simp only [Option.bind_some]
  by_cases h : 64 < p.length
  · have h' : (64 : Int) < (p.length : Int) := by omega
    rw [decide_eq_true h, decide_eq_true h']
    cases decide (Srt p) <;> rfl
  · have h' : ¬ (64 : Int) < (p.length : Int) := by omega
    rw [decide_eq_false h, decide_eq_false h', cond_false, cond_false]
    cases decide (Srt p) with
    | false => rfl
    | true =>
      simp only [Bool.not_true, cond_false, Bool.true_and]
      have hl4 := ref06_May_l4_list (ref06_Rising n) (ref03_May n) (ref04_Find n) (ref04_Fits n) n n 0 l p (by omega) (by omega) (by omega)
      have hl9 := ref06_May_l9_list (ref06_Rising n) (ref03_May n) (ref04_Find n) (ref04_Fits n) n n 0 l p (by omega) (by omega) (by omega)
      rw [show ((0 : Nat) : Int) = 0 from rfl, List.drop_zero] at hl4 hl9
      rw [hl4, ref06_May_g4_spec n (by omega) _ _ _ _ l p p ho, hl9, ref06_May_g9_spec n (by omega) l hl _ _ p ho]
      cases p.all chOk <;> rfl
theorem ref06_Part_g3_spec (n : Nat) (hn : 4194400 ≤ n) (l : List (den KeyT)) (hl : l.length ≤ 1048576) (b : Bool) : ∀ (r acc : den LChange), acc.length + r.length ≤ 4194304 →
    ref06_Part_g3 (ref04_Find n) r l b acc = some (acc ++ partS l r b)
  | [], acc, _ => by simp [ref06_Part_g3, partS]
  | x :: r, acc, h => by
    have h : acc.length + (r.length + 1) ≤ 4194304 := h
    have IH := fun acc h => ref06_Part_g3_spec n hn l hl b r acc h
    rw [ref06_Part_g3, ref04_Find_spec n l x.1 hl (by omega)]
    have hbd : decide ((acc.length + ([x] : den LChange).length) * 56 ≤ 140737488355328) = true := decide_eq_true (by simp only [List.length_cons, List.length_nil]; omega)
    simp only [Option.bind_some]
    rw [hbd]
    unfold partS
    simp only [List.filter_cons]
    have hi : inB l x.1 b = ((findK l x.1).isSome && eqT .bool ((findK l x.1).getD (dflt KeyT)).2.1 b) := rfl
    rw [hi]
    show (bif (findK l x.1).isSome then (bif eqT .bool ((findK l x.1).getD (dflt KeyT)).2.1 b then _ else _) else _) = _
    cases (findK l x.1).isSome with
    | false =>
      simp only [cond_false, Bool.false_and, Bool.false_eq_true, if_false]
      exact IH acc (by omega)
    | true =>
      simp only [cond_true, Bool.true_and]
      cases eqT .bool ((findK l x.1).getD (dflt KeyT)).2.1 b with
      | false =>
        simp only [cond_false, Bool.false_eq_true, if_false]
        exact IH acc (by omega)
      | true =>
        simp only [cond_true, if_true]
        rw [IH (acc ++ [x]) (by simp only [List.length_append, List.length_cons, List.length_nil]; omega)]
        unfold partS
        simp
theorem ref06_Part_spec (n : Nat) (hn : 4194500 ≤ n) (l : List (den KeyT)) (hl : l.length ≤ 1048576) (p : den LChange) (b : Bool) (hp : p.length ≤ 4194304) : ref06_Part n l p b = some (partS l p b) := by
  obtain ⟨n, rfl⟩ : ∃ m, n = m + 1 := ⟨n - 1, by omega⟩
  rw [ref06_Part, ref06_Part_top]
  have h := ref06_Part_l3_list (ref04_Find n) n n 0 l p b [] (by omega) (by omega) (by omega)
  rw [show ((0 : Nat) : Int) = 0 from rfl, List.drop_zero] at h
  rw [h, ref06_Part_g3_spec n (by omega) l hl b p [] (by simpa using hp)]
  rfl

theorem slices_Equal_Change_l4_eqs (n : Nat) : ∀ (m i : Nat) (a b : den (.slice TChange)), a.length = b.length → a.length ≤ 4194304 → a.length - i < m → slices_Equal_Change_l4 n m a b (a.length : Int) (i : Int) = some (decide (a.drop i = b.drop i)) := by
  intro m
  induction m with
  | zero => intro i a b h0 h1 h; omega
  | succ m ih =>
    intro i a b hl ha hm
    rw [slices_Equal_Change_l4, slices_Equal_Change_s4]
    by_cases h : i < a.length
    · have h' : (i : Int) < (a.length : Int) := by omega
      have h2 : (i : Int) < (b.length : Int) := by omega
      simp only [h', h2, decide_true, cond_true, Int.natCast_nonneg, Bool.and_self, Int.toNat_natCast]
      rw [w64s (n := i) (by omega), ih (i + 1) a b hl ha (by omega)]
      rw [drop_getD h (dflt TChange), drop_getD (show i < b.length by omega) (dflt TChange)]
      cases g : eqT TChange (a.getD i (dflt TChange)) (b.getD i (dflt TChange)) with
      | true => rw [(eqT_iff TChange _ _ rfl).1 g]; simp
      | false =>
        have : ¬ a.getD i (dflt TChange) = b.getD i (dflt TChange) := fun e => by rw [(eqT_iff TChange _ _ rfl).2 e] at g; cases g
        rw [Bool.not_false, cond_true]
        simp only [List.cons.injEq, this, false_and, decide_false]
    · have h' : ¬ (i : Int) < (a.length : Int) := by omega
      rw [List.drop_eq_nil_of_le (by omega), List.drop_eq_nil_of_le (show b.length ≤ i by omega)]
      simp only [h', decide_false, cond_false, decide_true]
theorem slices_Equal_Change_eqs (n : Nat) (a b : den (.slice TChange)) (ha : a.length ≤ 4194304) (hn : 4194307 ≤ n) : slices_Equal_Change n a b = some (decide (a = b)) := by
  obtain ⟨n, rfl⟩ : ∃ k, n = k + 1 := ⟨n - 1, by omega⟩
  rw [slices_Equal_Change, slices_Equal_Change_top]
  by_cases h : a.length = b.length
  · rw [show decide ((a.length : Int) = (b.length : Int)) = true from decide_eq_true (by omega)]
    have := slices_Equal_Change_l4_eqs n n 0 a b h ha (by omega)
    simp only [Bool.not_true, cond_false]
    simpa using this
  · rw [show decide ((a.length : Int) = (b.length : Int)) = false from decide_eq_false (by omega), decide_eq_false (fun e => h (by rw [e]))]; rfl

theorem patch_Same_spec (n : Nat) (a b : den LChange) (ha : a.length ≤ 4194304) (hn : 4194310 ≤ n) : patch_Same n a b = some (decide (a = b)) := by
  obtain ⟨n, rfl⟩ : ∃ k, n = k + 1 := ⟨n - 1, by omega⟩
  rw [patch_Same, patch_Same_top, slices_Equal_Change_eqs n a b ha (by omega)]; rfl
theorem patchMay (N : Nat) (hN : N = 8388607) (keys : den LKey) (p q : den LChange) (h0 : keys.length ≤ 1048576) (h1 : p.length ≤ 1048576) (h2 : q.length ≤ 1048576) (op : ∀ x ∈ p, okV x.2.2.1) : law06_PatchMay (N + 1) keys p q = some true := by
  have hk : law06_known N = some true := hN ▸ known_at
  obtain ⟨g, hg⟩ := law06_great_some N p [] (by omega) (by simp) (by simp) (by omega)
  obtain ⟨g', hg'⟩ := law06_great_some N q [] (by omega) (by simp) (by simp) (by omega)
  rw [law06_PatchMay, law06_PatchMay_top, hk, hg, hg']
  simp only [Option.bind_some]
  cases hk64 : decide ((64 : Int) < (keys.length : Int)) with
  | true => rfl
  | false =>
  cases g with
  | true => rfl
  | false =>
  cases g' with
  | true => rfl
  | false =>
  simp only [cond_false]
  obtain ⟨m, rfl⟩ : ∃ m, N = m + 1 := ⟨N - 1, by omega⟩
  rw [show schema_New (m + 1) keys = some (newS keys) from rfl]
  simp only [Option.bind_some]
  have hb : keys.length ≤ 64 := by
    have := of_decide_eq_false hk64
    omega
  cases hko : keysOk keys with
  | false =>
    rw [newS_bad hko, ref04_May_spec (m + 1) (by omega) keys hb, hko]
    rfl
  | true =>
  rw [newS_good hko (by omega)]
  have hS : (some (sortK keys, (keys.map fun k => ((k.1 : Int), k), ())) : den PSchema) = schK keys := rfl
  simp only [decide_true, Bool.not_true, cond_false]
  rw [hS, patch_May_spec (m + 1) (by omega) keys p, ref06_May_spec (m + 1) (by omega) keys h0 p (by omega) op, patch_Same_spec (m + 1) p q (by omega) (by omega), ref06_Same_spec (m + 1) p q (by omega) (by omega)]
  have he : eqT .bool (decide (p = q)) (decide (p = q)) = true := beq_self_eq_true _
  simp only [Option.bind_some, decide_true, Bool.not_true, cond_false]
  rw [he]
  have hcp : patch_Copy (m + 1) p = some p := by
    rw [patch_Copy, patch_Copy_top, slices_Clone_Change_spec m p (by omega) (by omega)]; rfl
  rw [hcp]
  simp only [Option.bind_some, Bool.not_true, cond_false]
  rw [patch_Same_spec (m + 1) p p (by omega) (by omega)]
  have q1 := len_partS (l := keys) (p := p) (b := false)
  have q2 := len_partS (l := keys) (p := p) (b := true)
  simp only [Option.bind_some, decide_true, Bool.not_true, cond_false]
  rw [patch_Part_spec (m + 1) keys p true (by omega) (by omega), patch_Part_spec (m + 1) keys p false (by omega) (by omega), ref06_Rising_iff (m + 1) p (by omega) (by omega), ref06_Part_spec (m + 1) (by omega) keys h0 p true (by omega), ref06_Part_spec (m + 1) (by omega) keys h0 p false (by omega)]
  simp only [Option.bind_some]
  rw [ref06_Same_spec (m + 1) (partS keys p true) (partS keys p true) (by omega) (by omega), ref06_Same_spec (m + 1) (partS keys p false) (partS keys p false) (by omega) (by omega)]
  simp only [Option.bind_some, decide_true, cond_true]
  cases decide (Srt p) <;> rfl
theorem PatchMay_ok (keys : den LKey) (p q : den LChange) (_ : wfT LKey keys) (wp : wfT LChange p) (_ : wfT LChange q) (h : bulkT LKey keys + bulkT LChange p + bulkT LChange q ≤ 1048576) :
    ∃ n, acall cfg intr intrI n 4 [.s (.val LKey keys), .s (.val LChange p), .s (.val LChange q)] (.one .bool) = some true := by
  have h0 := bulk_lenK keys
  have h3 := bulk_len6 p
  have h4 := bulk_len6 q
  exact ⟨8388607 + 1, (law06_PatchMay_eq _ keys p q).trans (patchMay _ rfl keys p q (by omega) (by omega) (by omega) (okC_of wp (by omega)))⟩
#print axioms PatchMay_ok
end Go.Proofs.YtecangnmmbcbkaaDoor.Ab
