/- PatchParts. -/
import Derived.Test.YtecangnmmbcbkaaDoorQG
set_option linter.unusedVariables false
set_option linter.unusedSimpArgs false
set_option maxRecDepth 100000
namespace Go.Proofs.YtecangnmmbcbkaaDoor.Ab
open Go Classical
theorem ref05_Get_spec (n : Nat) (a : den LAttr) (t : Int) (ha : a.length ≤ 4194304) (hn : 4194310 ≤ n) : ref05_Get n a t = some (getS a t) := by
  obtain ⟨n, rfl⟩ : ∃ m, n = m + 1 := ⟨n - 1, by omega⟩
  have h := ref05_Get_l2_list n n 0 a t zv (by omega) (by omega) (by omega)
  rw [show ((0 : Nat) : Int) = 0 from rfl, List.drop_zero] at h
  refine Eq.trans h ?_
  have hg : ∀ (r : den LAttr), ref05_Get_g2 r t zv = some (getS r t) := by
    intro r
    induction r with
    | nil => rfl
    | cons x r ih =>
      simp only [ref05_Get_g2, getS, find]
      by_cases c : (x.1 : Int) = t
      · rw [decide_eq_true c, if_pos c]; rfl
      · rw [decide_eq_false c, if_neg c, cond_false, ih]; rfl
  exact hg a
theorem find_partS {β : Type} (l : List (den KeyT)) (k : Int) (p : List (Int × β)) (b : Bool) : find k (partS l p b) = if inB l k b = true then find k p else none := find_filter_key (fun j => inB l j b) k p
theorem inB_not {l : List (den KeyT)} {k : Int} (h : (findK l k).isSome = true) : inB l k false = !inB l k true := by
  unfold inB
  rw [h]
  show (true && (((findK l k).getD (dflt KeyT)).2.1 == false)) = !(true && (((findK l k).getD (dflt KeyT)).2.1 == true))
  cases ((findK l k).getD (dflt KeyT)).2.1 <;> rfl
theorem len_parts {β : Type} (l : List (den KeyT)) : ∀ (p : List (Int × β)), (∀ c ∈ p, (findK l c.1).isSome = true) → (partS l p false).length + (partS l p true).length = p.length
  | [], _ => rfl
  | c :: p, h => by
    have ih := len_parts l p fun x hx => h x (List.mem_cons_of_mem _ hx)
    have hc := inB_not (h c List.mem_cons_self)
    unfold partS at ih ⊢
    simp only [List.filter_cons, hc]
    cases inB l c.1 true <;> simp only [Bool.not_true, Bool.not_false, if_true, Bool.false_eq_true, if_false, List.length_cons] <;> omega
theorem find_mem_ok {β : Type} {k : Int} {v : β} {p : List (Int × β)} (h : find k p = some v) : ∃ c ∈ p, c.1 = k := by
  induction p with
  | nil => simp [find] at h
  | cons x p ih =>
    simp only [find] at h
    by_cases g : x.1 = k
    · exact ⟨x, List.mem_cons_self, g⟩
    · rw [if_neg g] at h
      obtain ⟨c, h1, h2⟩ := ih h
      exact ⟨c, List.mem_cons_of_mem _ h1, h2⟩
theorem parts_either {β : Type} (l : List (den KeyT)) (p : List (Int × β)) (h : ∀ c ∈ p, (findK l c.1).isSome = true) (k : Int) :
    (find k (partS l p false) = find k p ∧ find k (partS l p true) = none) ∨ (find k (partS l p false) = none ∧ find k (partS l p true) = find k p) := by
  rw [find_partS, find_partS]
  cases hf : find k p with
  | none => left; constructor <;> split <;> rfl
  | some v =>
    obtain ⟨c, hc, rfl⟩ := find_mem_ok hf
    have := inB_not (h c hc)
    cases hb : inB l c.1 true with
    | true => rw [hb] at this; rw [this]; right; exact ⟨rfl, rfl⟩
    | false => rw [hb] at this; rw [this]; left; exact ⟨rfl, rfl⟩
theorem srt_partS {β : Type} {l : List (den KeyT)} {p : List (Int × β)} {b : Bool} (h : Srt p) : Srt (partS l p b) := h.filter _
theorem len_partS {β : Type} {l : List (den KeyT)} {p : List (Int × β)} {b : Bool} : (partS l p b).length ≤ p.length := List.length_filter_le _ _
theorem apply_parts {V : Type} {l : List (den KeyT)} {set : List (Int × (V × Unit))} {p : List (Int × (Bool × (V × Unit)))} (hs : Srt set) (hp : Srt p) (h : ∀ c ∈ p, (findK l c.1).isSome = true) :
    applyS (applyS set (partS l p false)) (partS l p true) = applyS set p ∧ applyS (applyS set (partS l p true)) (partS l p false) = applyS set p := by
  have s1 := srt_apply set (partS l p false) hs (srt_partS hp)
  have s2 := srt_apply set (partS l p true) hs (srt_partS hp)
  constructor
  · refine srt_ext (srt_apply _ _ s1 (srt_partS hp)) (srt_apply _ _ hs hp) fun k => ?_
    rw [find_apply k _ _ s1 (srt_partS hp), find_apply k _ _ hs (srt_partS hp), find_apply k _ _ hs hp]
    rcases parts_either l p h k with ⟨e1, e2⟩ | ⟨e1, e2⟩ <;> rw [e1, e2]
    · rfl
    · rfl
  · refine srt_ext (srt_apply _ _ s2 (srt_partS hp)) (srt_apply _ _ hs hp) fun k => ?_
    rw [find_apply k _ _ s2 (srt_partS hp), find_apply k _ _ hs (srt_partS hp), find_apply k _ _ hs hp]
    rcases parts_either l p h k with ⟨e1, e2⟩ | ⟨e1, e2⟩ <;> rw [e1, e2]
    · rfl
    · rfl
theorem apply_twice {V : Type} {set : List (Int × (V × Unit))} {p : List (Int × (Bool × (V × Unit)))} (hs : Srt set) (hp : Srt p) : applyS (applyS set p) p = applyS set p := by
  have s1 := srt_apply set p hs hp
  refine srt_ext (srt_apply _ _ s1 hp) s1 fun k => ?_
  rw [find_apply k _ _ s1 hp, find_apply k _ _ hs hp]
  cases find k p with
  | none => rfl
  | some q => unfold onto; rfl
theorem sumL_len {β : Type} {f : β → Nat} (h : ∀ x, 1 ≤ f x) (l : List β) : l.length ≤ sumL f l := by
  induction l with
  | nil => simp
  | cons x l ih => have := h x; simp only [List.length_cons, sumL]; omega
theorem bulk_len7 (l : den LAttr) : l.length ≤ bulkT LAttr l := by
  have := sumL_len (f := bulkT TAttr) (fun x => by simp only [bulkT]; omega) l
  simp only [bulkT] at *; omega
theorem bulk_len6 (l : den LChange) : l.length ≤ bulkT LChange l := by
  have := sumL_len (f := bulkT TChange) (fun x => by simp only [bulkT]; omega) l
  simp only [bulkT] at *; omega
theorem bulk_lenK (l : den LKey) : l.length ≤ bulkT LKey l := by
  have := sumL_len (f := bulkT TKey) (fun x => by simp only [bulkT]; omega) l
  simp only [bulkT] at *; omega
theorem parts_g11 (N : Nat) (hN : 4194400 ≤ N) (C1 : den LChange → den LLAttr → Option Bool) (C2 : den LAttr → Option Bool) (C3 : den LKey → Option (den PSchema × Int)) (C4 : den PSchema → den LChange → Option Int) (C5 : den PSchema → den LChange → Bool → Option (den LChange)) (C6 : den LAttr → den LChange → Option (den LAttr)) (C7 : den LAttr → den LAttr → Option Bool)
    (set : den LAttr) (p : den LChange) (hs : Srt set) (hp : Srt p) (h1 : set.length ≤ 1048576) (h2 : p.length ≤ 1048576) : ∀ r : den LAttr, (∀ x ∈ r, find x.1 set = some x.2) →
    law06_PatchParts_g11 (some true) C1 C2 C3 C4 C5 C6 C7 (ref06_Find N) (ref05_Get N) r p (applyS set p) = some true
  | [], _ => rfl
  | x :: r, h => by
    have IH := parts_g11 N hN C1 C2 C3 C4 C5 C6 C7 set p hs hp h1 h2 r fun y hy => h y (List.mem_cons_of_mem _ hy)
    have hl := len_apply set p
    rw [law06_PatchParts_g11, ref06_Find_spec N p x.1 (by omega) (by omega)]
    cases hf : find x.1 p with
    | some v => exact IH
    | none =>
      have hg : find x.1 (applyS set p) = some x.2 := by
        rw [find_apply x.1 set p hs hp, hf, h x List.mem_cons_self]; rfl
      simp only [Option.bind_some, cond_false]
      rw [ref05_Get_spec N (applyS set p) x.1 (by omega) (by omega)]
      unfold getS
      rw [hg]
      simp only [Option.bind_some, Bool.not_true, cond_false]
      rw [(eqT_iff TValue x.2.1 x.2.1 rfl).2 rfl]
      exact IH
theorem patchParts (N : Nat) (hN : N = 8388607) (keys : den LKey) (set : den LAttr) (p : den LChange) (h1 : set.length ≤ 1048576) (h2 : p.length ≤ 1048576) : law06_PatchParts (N + 1) keys set p = some true := by
  have hk : law06_known N = some true := hN ▸ known_at
  obtain ⟨g, hg⟩ := law06_great_some N p [set] (by omega) (by simp) (by simp; omega) (by omega)
  rw [law06_PatchParts, law06_PatchParts_top, hk, hg]
  simp only [Option.bind_some]
  cases decide ((64 : Int) < (keys.length : Int)) with
  | true => rfl
  | false =>
  cases g with
  | true => rfl
  | false =>
  simp only [cond_false]
  rcases ref05_Rising_spec N set (by omega) (by omega) with e | ⟨e, ss⟩
  · rw [e]; rfl
  rw [e]
  simp only [Option.bind_some, Bool.not_true, cond_false]
  obtain ⟨m, rfl⟩ : ∃ m, N = m + 1 := ⟨N - 1, by omega⟩
  rw [show schema_New (m + 1) keys = some (newS keys) from rfl]
  simp only [Option.bind_some]
  by_cases hb : 64 < keys.length
  · rw [newS_big hb]; rfl
  cases hko : keysOk keys with
  | false => rw [newS_bad hko]; rfl
  | true =>
  rw [newS_good hko (by omega)]
  have hS : (some (sortK keys, (keys.map fun k => ((k.1 : Int), k), ())) : den PSchema) = schK keys := rfl
  simp only [decide_true, Bool.not_true, cond_false]
  rw [hS, patch_May_spec (m + 1) (by omega) keys p]
  simp only [Option.bind_some]
  by_cases hm : mayP keys p = 0
  · obtain ⟨m1, sp, m3⟩ := mayP_ok.1 hm
    have hin : ∀ c ∈ p, (findK keys c.1).isSome = true := fun c hc => by
      have := (m3 c hc).2
      unfold chFit at this
      rw [Bool.and_eq_true] at this
      exact this.1
    rw [hm]
    simp only [decide_true, Bool.not_true, cond_false]
    have q1 := len_partS (l := keys) (p := p) (b := false)
    have q2 := len_partS (l := keys) (p := p) (b := true)
    have l0 := len_apply set p
    have l1 := len_apply set (partS keys p false)
    have l2 := len_apply set (partS keys p true)
    have l3 := len_apply (applyS set p) p
    obtain ⟨a1, a2⟩ := apply_parts (l := keys) ss sp hin
    rw [patch_Part_spec (m + 1) keys p false (by omega) (by omega), patch_Part_spec (m + 1) keys p true (by omega) (by omega)]
    simp only [Option.bind_some]
    rw [patch_Apply_spec (m + 1) set p (by omega) (by omega) (by omega), patch_Apply_spec (m + 1) set (partS keys p false) (by omega) (by omega) (by omega), patch_Apply_spec (m + 1) set (partS keys p true) (by omega) (by omega) (by omega)]
    simp only [Option.bind_some]
    rw [patch_Apply_spec (m + 1) _ (partS keys p true) (by omega) (by omega) (by omega), a1, patch_Apply_spec (m + 1) _ (partS keys p false) (by omega) (by omega) (by omega), a2, patch_Apply_spec (m + 1) _ p (by omega) (by omega) (by omega), apply_twice ss sp]
    simp only [Option.bind_some]
    rw [ref05_Same_same (m + 1) _ (by omega) (by omega)]
    simp only [Option.bind_some, Bool.not_true, cond_false]
    have hlen := len_parts keys p hin
    have hw : IntKind.wrap .i64 (((partS keys p false).length : Int) + ((partS keys p true).length : Int)) = (p.length : Int) := by
      rw [w64 (by omega) (by omega)]; omega
    rw [hw]
    simp only [decide_true, Bool.not_true, cond_false]
    have hl := law06_PatchParts_l11_list (some true) (law06_great (m + 1)) (ref05_Rising (m + 1)) (schema_New (m + 1)) (patch_May (m + 1)) (patch_Part (m + 1)) (patch_Apply (m + 1)) (ref05_Same (m + 1)) (ref06_Find (m + 1)) (ref05_Get (m + 1)) (m + 1) (m + 1) 0 set p (applyS set p) (by omega) (by omega) (by omega)
    rw [show ((0 : Nat) : Int) = 0 from rfl, List.drop_zero] at hl
    rw [hl]
    exact parts_g11 (m + 1) (by omega) _ _ _ _ _ _ _ set p ss sp h1 h2 set fun x hx => mem_find ss hx
  · rw [decide_eq_false hm]; rfl
theorem PatchParts_ok (keys : den LKey) (set : den LAttr) (p : den LChange) (_ : wfT LKey keys) (_ : wfT LAttr set) (_ : wfT LChange p) (h : bulkT LKey keys + bulkT LAttr set + bulkT LChange p ≤ 1048576) :
    ∃ n, acall cfg intr intrI n 3 [.s (.val LKey keys), .s (.val LAttr set), .s (.val LChange p)] (.one .bool) = some true := by
  have h1 := bulk_len7 set
  have h2 := bulk_len6 p
  exact ⟨8388607 + 1, (law06_PatchParts_eq _ keys set p).trans (patchParts _ rfl keys set p (by omega) (by omega))⟩
#print axioms PatchParts_ok
end Go.Proofs.YtecangnmmbcbkaaDoor.Ab
