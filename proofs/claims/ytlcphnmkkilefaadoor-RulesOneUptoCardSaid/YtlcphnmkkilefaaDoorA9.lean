/- The abstract interpreter, part 9: regions whose order is drawn: whatever the order, they come to what the text's order comes to. -/
import Derived.Test.YtlcphnmkkilefaaDoorA8
set_option linter.unusedVariables false
set_option linter.unusedSimpArgs false
namespace Go.Proofs.YtlcphnmkkilefaaDoor.Ab
open Go Go.RowKit

section
variable {P : Program} {cfg : Cfg} {O : Nat → Prop} {B : Base} {w0 w w' : World} {st st1 : St} {lam : Nat → Value} {tm : Array Value} {C : Cells} {α : Type}

theorem binC_bind {op : BinOp} {T : Ty} {x y : den T} {K : Ent → Option α} : binC op T x y K = (binC op T x y some).bind K := by
  unfold binC
  split
  · split
    · rfl
    · split <;> rfl
  · split <;> rfl
  · split <;> rfl
  · split
    · cases (cmpT _ && Nat.ble _ 10000) <;> rfl
    · cases (cmpT _ && Nat.ble _ 10000) <;> rfl
    · rfl
theorem bif_bind {c : Bool} {x y : Option Ent} {K : Ent → Option α} : (bif c then x else y).bind K = bif c then x.bind K else y.bind K := by cases c <;> rfl
theorem derefK_bind {β : Type} {T : Ty} {x : den T} {f : (T' : Ty) → den T' → Option β} {K : β → Option α} : derefK T x (fun T' z => (f T' z).bind K) = (derefK T x f).bind K := by
  unfold derefK
  split
  · rw [Option.bind_assoc]
  · rfl
theorem extV_bind {k : Nat} {e : Ent} {K : Ent → Option α} : extV k e K = (extV k e some).bind K := by
  unfold extV
  split
  · split <;> rfl
  · split <;> rfl
  · rfl
theorem opP_bind {call : Call0} {o : Oper} {K : Ent → Option α} : opP cfg call o st K = (opP cfg call o st some).bind K := by
  unfold opP
  split
  · rfl
  · split
    · rw [bif_bind]; rfl
    · rfl
  · split
    · rfl
    · split
      · split <;> rfl
      · split
        · split
          · split <;> rfl
          · rfl
        · rfl
      · split
        · split
          · split <;> rfl
          · rfl
        · rfl
      · rfl
  · split
    · rw [bif_bind]; rfl
    · rfl
  · split
    · split
      · rw [bif_bind]; rfl
      · split
        · rw [bif_bind]; rfl
        · rfl
      · rfl
    · rfl
  · split
    · rfl
    · split
      · rw [bif_bind]
        congr 1
        split <;> rfl
      · split
        · split
          · rw [bif_bind]; rfl
          · rfl
        · rfl
      · split
        · split
          · rw [bif_bind]; rfl
          · rfl
        · rfl
      · rfl
  · split
    · rfl
    · split
      · rfl
      · split <;> rfl
  · split
    · split
      · rw [bif_bind]; rfl
      · rfl
    · rfl
  · split
    · split
      · rw [bif_bind]; rfl
      · rfl
    · rfl
  · split
    · rfl
    · rw [bif_bind]
      congr 1
      split
      · rfl
      · split
        · rfl
        · exact binC_bind
  · split <;> rfl
  · split
    · split <;> rfl
    · split <;> rfl
    · split <;> rfl
    · rfl
  · split
    · split <;> rfl
    · rfl
  · split <;> first | rfl | exact (derefK_bind (f := fun T' z => some (Ent.s (E0.eptr T' z))) (K := K))
  · split
    · split <;> rfl
    · rfl
  · split
    · rfl
    · rw [bif_bind]
      congr 1
      split <;> rfl
  · split <;> rfl
  · split
    · split
      · rfl
      · rfl
      · split <;> rfl
      · rfl
    · rfl
  · split
    · split <;> rfl
    · rfl
  · split
    · split <;> rfl
    · rfl
  · split
    · split
      · rfl
      · split
        · rw [bif_bind]
          congr 1
          split <;> rfl
        · rfl
    · rfl
  · split
    · split
      · rfl
      · split
        · rw [bif_bind]; rfl
        · rfl
    · rfl
  · split
    · split
      · split
        · exact extV_bind
        · rfl
      · split
        · split
          · rw [bif_bind]
            congr 1
            rw [Option.bind_assoc]; rfl
          · rfl
        · rfl
    · rfl
  · rfl

/-- The operands of one operation are the same in two states. -/
def Alike (st st' : St) (xs : List Operand) : Prop := ∀ x ∈ xs, ent st x = ent st' x
theorem entT_alike {st st' : St} {x : Operand} (t : TypeId) (h : ent st x = ent st' x) : entT cfg t st x = entT cfg t st' x := by
  unfold entT; cases x <;> first | rfl | exact h
theorem args_alike {st st' : St} {lend : Bool} (ho : st.objs = st'.objs) : ∀ {xs : List Operand} {ts : List TypeId}, Alike st st' xs → args? cfg lend st ts xs = args? cfg lend st' ts xs
  | [], ts, _ => by simp [args?]
  | x :: r, ts, h => by
    simp only [args?]
    rw [entT_alike _ (h x (by simp)), args_alike ho fun y hy => h y (by simp [hy]), ho]
theorem buildF_alike {st st' : St} {T : Ty} : ∀ {parts : List (Nat × Operand)} {x : den T}, Alike st st' (parts.map (·.2)) → buildF T st x parts = buildF T st' x parts
  | [], x, _ => rfl
  | (i, y) :: r, x, h => by
    simp only [buildF]
    rw [h y (by simp)]
    split
    · split
      · split
        · exact buildF_alike fun z hz => h z (by simp at hz ⊢; right; exact hz)
        · rfl
      · rfl
    · rfl
theorem opP_alike {call : Call0} {o : Oper} {st st' : St} {K : Ent → Option α} (ho : st.objs = st'.objs) (h : Alike st st' o.op.operands.toList) : opP cfg call o st K = opP cfg call o st' K := by
  unfold opP
  unfold Alike at h
  split <;> rename_i hop <;> simp only [hop, Op.operands, Call.operands] at h
  · rw [entT_alike o.type (h _ (by simp))]
  · rw [h _ (by simp), entT_alike o.type (h _ (by simp : _ ∈ [_, _, _])), entT_alike o.type (h _ (by simp))]
  · rw [h _ (by simp), ho]
  · rw [h _ (by simp : _ ∈ [_, _]), h _ (by simp)]
  · rw [h _ (by simp), h _ (by simp), ho]
  · rw [h _ (by simp), ho]
  · rw [h _ (by simp)]
  · rw [h _ (by simp), h _ (by simp)]
  · rw [h _ (by simp), h _ (by simp)]
  · rw [h _ (by simp), h _ (by simp)]
  · rw [h _ (by simp)]
  · rw [h _ (by simp)]
  · rw [h _ (by simp)]
  · rw [h _ (by simp)]
  · rw [h _ (by simp), h _ (by simp)]
  · rename_i parts
    have : ∀ (T : Ty) (x : den T), buildF T st x parts.toList = buildF T st' x parts.toList := fun T x => buildF_alike fun y hy => h y (by simpa using hy)
    simp only [this]
  · rename_i first captured
    have : captured.toList.map (ent st) = captured.toList.map (ent st') := List.map_congr_left fun x hx => h x (by simp; right; simpa using hx)
    rw [this]
  · rename_i args argTypes
    split
    · rename_i x t hx ht
      have : x ∈ args.toList := by rw [hx]; simp
      rw [h x (by simpa using this), ho]
    · rfl
  · rename_i args argTypes
    split
    · rename_i x y k hx ht
      have h1 : x ∈ args.toList := by rw [hx]; simp
      have h2 : y ∈ args.toList := by rw [hx]; simp
      rw [h x (by simpa using h1), h y (by simpa using h2)]
    · rfl
  · rename_i args argTypes
    split
    · rename_i x y k hx ht
      have h1 : x ∈ args.toList := by rw [hx]; simp
      have h2 : y ∈ args.toList := by rw [hx]; simp
      rw [h x (by simpa using h1), h y (by simpa using h2)]
    · rfl
  · rename_i x lo hi
    have hx := h x (by simp)
    cases lo with
    | none => cases hi with
      | none => simp only [hx]
      | some z => have hz := h z (by simp); simp only [hx, hz]
    | some y =>
      have hy := h y (by simp)
      cases hi with
      | none => simp only [hx, hy]
      | some z => have hz := h z (by simp); simp only [hx, hy, hz]
  · rename_i x lo hi mx
    have hx := h x (by simp)
    have hz := h hi (by simp)
    have hm := h mx (by simp)
    cases lo with
    | none => simp only [hx, hz, hm]
    | some y =>
      have hy := h y (by simp)
      simp only [hx, hy, hz, hm]
  · rename_i g args argTypes
    rw [h g (by simp)]
    have hent : ∀ x ∈ args.toList, ent st x = ent st' x := fun x hx => h x (by simp; right; simpa using hx)
    have : ∀ lend ts, args? cfg lend st ts args.toList = args? cfg lend st' ts args.toList := fun lend ts => args_alike ho fun x hx => h x (by simp; right; simpa using hx)
    simp only [this, ho]
    split
    · split
      · split
        · rename_i hx _
          rw [hent _ (by rw [hx]; exact List.mem_singleton.2 rfl)]
        · rfl
      · rfl
    · rfl
  · rfl

/-! the text's order, step by step -/
def drun (ops : Array Oper) (cfg : Cfg) (call : Call0) (o : Oper) (st : St) : Option Ent :=
  if isE o.op then none else if isA o.op then
      (match o.op with
        | .assign x => match entT cfg o.type st x with
          | .s (.val T y) => some (.s (.val T y))
          | _ => none
        | _ => none)
  else opP cfg call o st some
/-- What the i-th operation yields in the text's order. -/
def dout (ops : Array Oper) (cfg : Cfg) (call : Call0) (o : Oper) (st : St) (e : Ent) : Prop :=
  (gd ops o st = some true ∧ drun ops cfg call o st = some e) ∨ (gd ops o st = some false ∧ e = skipE)
theorem execOpsD_cons {call : Call0} {ops : Array Oper} {K : St → Option α} {o : Oper} {rest : List Oper} {r : α} (h : execOpsD cfg call ops K (o :: rest) st = some r) :
    ∃ e, dout ops cfg call o st e ∧ execOpsD cfg call ops K rest (st.put o.dst e) = some r := by
  unfold execOpsD at h
  rcases guardC_gd h with ⟨hg, h⟩ | ⟨hg, h⟩
  · cases hE : isE o.op with
    | true => rw [hE] at h; simp at h
    | false =>
      rw [hE] at h
      simp only [cond_false] at h
      cases hA : isA o.op with
      | true =>
        rw [hA] at h
        simp only [cond_true] at h
        split at h
        · rename_i x hop
          split at h
          · rename_i T y hent
            refine ⟨_, .inl ⟨hg, ?_⟩, h⟩
            simp only [drun, hE, hA, Bool.false_eq_true, if_false, if_true]
            rw [hop]; dsimp only; rw [hent]
          · contradiction
        · contradiction
      | false =>
        rw [hA] at h
        simp only [cond_false] at h
        rw [opP_bind] at h
        obtain ⟨e, h1, h2⟩ := Option.bind_eq_some_iff.1 h
        refine ⟨e, .inl ⟨hg, ?_⟩, h2⟩
        simp only [drun, hE, hA, Bool.false_eq_true, if_false]; exact h1
  · exact ⟨skipE, .inr ⟨hg, rfl⟩, h⟩

/-- The states of the text's order. -/
theorem execOpsD_trace {call : Call0} {ops : Array Oper} {K : St → Option α} {r : α} : ∀ (l : List Oper) (st : St), execOpsD cfg call ops K l st = some r →
    ∃ (S : Nat → St) (E : Nat → Ent), S 0 = st ∧ (∀ (i : Nat) (o : Oper), l[i]? = some o → dout ops cfg call o (S i) (E i) ∧ S (i + 1) = (S i).put o.dst (E i)) ∧ K (S l.length) = some r
  | [], st, h => ⟨fun _ => st, fun _ => U, rfl, fun i o hi => by simp at hi, by simpa [execOpsD] using h⟩
  | o :: rest, st, h => by
    obtain ⟨e, h1, h2⟩ := execOpsD_cons h
    obtain ⟨S, E, h3, h4, h5⟩ := execOpsD_trace rest _ h2
    refine ⟨fun i => match i with | 0 => st | i + 1 => S i, fun i => match i with | 0 => e | i + 1 => E i, rfl, fun i o' hi => ?_, h5⟩
    cases i with
    | zero => simp at hi; subst hi; exact ⟨h1, h3⟩
    | succ i => exact h4 i o' (by simpa using hi)

theorem inL_iff {t : Nat} {l : List Nat} : inL t l = true ↔ t ∈ l := by
  simp [inL]
/-- What the look at a drawn region's operations tells. -/
structure DrawFacts (ops : Array Oper) : Prop where
  dst : ∀ (i : Nat) (o : Oper), ops[i]? = some o → ∃ t, o.dst = some t ∧ t ∉ o.looksAt ops
  back : ∀ (i : Nat) (o : Oper), ops[i]? = some o → ∀ e ∈ o.after, Region.binds .any e = true → e.on < i
  ne : ∀ (i j : Nat) (a b : Oper), i < j → ops[i]? = some a → ops[j]? = some b → a.dst ≠ b.dst
  anti : ∀ (i j : Nat) (a b : Oper) (u : Nat), i < j → ops[i]? = some a → ops[j]? = some b → b.dst = some u → u ∉ a.looksAt ops
  data : ∀ (i j : Nat) (a b : Oper) (t : Nat), i < j → ops[i]? = some a → ops[j]? = some b → a.dst = some t → t ∈ b.looksAt ops → ∃ e ∈ b.after, e.on = i ∧ Region.binds .any e = true
  sel : Region.noSelect ops = true
theorem drawRow_at {ops : Array Oper} {i : Nat} {a : Oper} : ∀ {l : List Oper} {j : Nat}, drawRow ops i a j l = true → ∀ k b, l[k]? = some b → drawPair ops i (j + k) a b = true
  | [], j, _, k, b, hk => by simp at hk
  | c :: r, j, h, k, b, hk => by
    simp only [drawRow, Bool.and_eq_true] at h
    cases k with
    | zero => simp at hk; subst hk; exact h.1
    | succ k => have := drawRow_at h.2 k b (by simpa using hk); rwa [show j + 1 + k = j + (k + 1) by omega] at this
theorem drawAll_at {ops : Array Oper} : ∀ {l : List Oper} {i : Nat}, drawAll ops i l = true → ∀ k a, l[k]? = some a →
    (∃ t, a.dst = some t ∧ t ∉ a.looksAt ops) ∧ (∀ e ∈ a.after, Region.binds .any e = true → e.on < i + k) ∧ (∀ m b, k < m → l[m]? = some b → drawPair ops (i + k) (i + m) a b = true)
  | [], i, _, k, a, hk => by simp at hk
  | c :: r, i, h, k, a, hk => by
    simp only [drawAll, Bool.and_eq_true] at h
    obtain ⟨⟨⟨h1, h2⟩, h3⟩, h4⟩ := h
    cases k with
    | zero =>
      simp at hk; subst hk
      refine ⟨?_, fun e he hb => ?_, fun m b hm hmb => ?_⟩
      · split at h1
        · rename_i t ht
          refine ⟨t, ht, fun hin => ?_⟩
          rw [Bool.not_eq_true', ← Bool.not_eq_true] at h1
          exact h1 (inL_iff.2 hin)
        · contradiction
      · have := List.all_eq_true.1 h2 e (by simpa using he)
        simp only [Bool.or_eq_true, Bool.not_eq_true', hb, Bool.true_eq_false, or_false] at this
        simpa using this
      · cases m with
        | zero => omega
        | succ m => have := drawRow_at h3 m b (by simpa using hmb); rwa [show i + 1 + m = i + 0 + (m + 1) by omega, Nat.add_zero] at this
    | succ k =>
      obtain ⟨h5, h6, h7⟩ := drawAll_at h4 k a (by simpa using hk)
      refine ⟨h5, fun e he hb => by have := h6 e he hb; omega, fun m b hm hmb => ?_⟩
      cases m with
      | zero => omega
      | succ m => have := h7 m b (by omega) (by simpa using hmb); rwa [show i + 1 + k = i + (k + 1) by omega, show i + 1 + m = i + (m + 1) by omega] at this
theorem drawOk_facts {ops : Array Oper} (h : drawOk ops = true) : DrawFacts ops := by
  simp only [drawOk, Bool.and_eq_true] at h
  obtain ⟨hs, h⟩ := h
  have key := fun i a (hi : ops[i]? = some a) => drawAll_at h i a (by simpa using hi)
  have pair : ∀ i j a b, i < j → ops[i]? = some a → ops[j]? = some b → drawPair ops i j a b = true := fun i j a b hij hi hj => by
    have := (key i a hi).2.2 j b hij (by simpa using hj); simpa using this
  refine ⟨fun i o hi => (key i o hi).1, fun i o hi e he hb => by have := (key i o hi).2.1 e he hb; omega, fun i j a b hij hi hj he => ?_, fun i j a b u hij hi hj hu hin => ?_, fun i j a b t hij hi hj ht hin => ?_, hs⟩
  · have := pair i j a b hij hi hj
    unfold drawPair at this
    split at this
    · rename_i t u h1 h2
      simp only [Bool.and_eq_true, Bool.not_eq_true'] at this
      rw [h1, h2] at he
      simp only [Option.some.injEq] at he
      subst he
      have := this.1.1.1
      simp at this
    · contradiction
  · have := pair i j a b hij hi hj
    unfold drawPair at this
    split at this
    · rename_i t u' h1 h2
      rw [hu] at h2
      simp only [Option.some.injEq] at h2
      subst h2
      simp only [Bool.and_eq_true, Bool.not_eq_true'] at this
      have h3 := this.1.1.2
      rw [← Bool.not_eq_true] at h3
      exact h3 (inL_iff.2 hin)
    · contradiction
  · have := pair i j a b hij hi hj
    unfold drawPair at this
    split at this
    · rename_i t' u h1 h2
      rw [ht] at h1
      simp only [Option.some.injEq] at h1
      subst h1
      simp only [Bool.and_eq_true, Bool.or_eq_true, Bool.not_eq_true'] at this
      rcases this.1.2 with h3 | h3
      · rw [← Bool.not_eq_true] at h3
        exact absurd (inL_iff.2 hin) h3
      · unfold edge at h3
        obtain ⟨e, he, h4⟩ := List.any_eq_true.1 h3
        simp only [Bool.and_eq_true] at h4
        exact ⟨e, by simpa using he, Nat.eq_of_beq_eq_true h4.1, h4.2⟩
    · contradiction

/-- The entries when the operations of L have run. -/
noncomputable def F (ops : Array Oper) (E : Nat → Ent) (st : St) (L : Nat → Prop) (t : Nat) : Ent := by
  classical
  exact if h : t < st.env.length ∧ ∃ i o, L i ∧ ops[i]? = some o ∧ o.dst = some t then E (Classical.choose h.2) else eget t st.env
theorem F_yes {ops : Array Oper} (hf : DrawFacts ops) {E : Nat → Ent} {st : St} {L : Nat → Prop} {t i : Nat} {o : Oper} (ht : t < st.env.length) (hL : L i) (hi : ops[i]? = some o) (hd : o.dst = some t) : F ops E st L t = E i := by
  unfold F
  have h : t < st.env.length ∧ ∃ i o, L i ∧ ops[i]? = some o ∧ o.dst = some t := ⟨ht, i, o, hL, hi, hd⟩
  rw [dif_pos h]
  obtain ⟨o', h1, h2, h3⟩ := Classical.choose_spec h.2
  generalize Classical.choose h.2 = j at *
  rcases Nat.lt_trichotomy i j with hlt | rfl | hlt
  · exact absurd (hd.trans h3.symm) (hf.ne i j o o' hlt hi h2)
  · rfl
  · exact absurd (h3.trans hd.symm) (hf.ne j i o' o hlt h2 hi)
theorem F_no {ops : Array Oper} {E : Nat → Ent} {st : St} {L : Nat → Prop} {t : Nat} (h : ∀ i o, L i → ops[i]? = some o → o.dst ≠ some t) : F ops E st L t = eget t st.env := by
  unfold F
  rw [dif_neg]
  rintro ⟨_, i, o, h1, h2, h3⟩
  exact h i o h1 h2 h3
theorem F_ge {ops : Array Oper} {E : Nat → Ent} {st : St} {L : Nat → Prop} {t : Nat} (h : st.env.length ≤ t) : F ops E st L t = eget t st.env := by
  unfold F
  rw [dif_neg]
  rintro ⟨h1, _⟩; omega

/-- Whether an operation runs, and what it yields, hangs on what it looks at alone. -/
theorem gd_alike {ops : Array Oper} {o : Oper} {st st' : St} (h : ∀ t, t ∈ o.looksAt ops → eget t st.env = eget t st'.env) : gd ops o st = gd ops o st' := by
  unfold gd
  cases hg : o.guard with
  | none => rfl
  | some q =>
    obtain ⟨j, want⟩ := q
    dsimp only
    cases hd : (ops[j]?).bind (·.dst) with
    | none => rfl
    | some g =>
      dsimp only
      rw [h g (List.mem_append_right _ (by simp [hg, hd]))]
theorem alike_of {ops : Array Oper} {o : Oper} {st st' : St} (h : ∀ t, t ∈ o.looksAt ops → eget t st.env = eget t st'.env) : Alike st st' o.op.operands.toList := by
  intro x hx
  cases x with
  | tmp t => exact h t (List.mem_append_left _ (List.mem_filterMap.2 ⟨.tmp t, hx, rfl⟩))
  | const v => rfl
  | func f => rfl
  | global g => rfl
theorem drun_alike {call : Call0} {ops : Array Oper} {o : Oper} {st st' : St} (ho : st.objs = st'.objs) (h : ∀ t, t ∈ o.looksAt ops → eget t st.env = eget t st'.env) : drun ops cfg call o st = drun ops cfg call o st' := by
  have ha := alike_of h
  unfold drun
  rw [opP_alike ho ha]
  split
  · rfl
  · split
    · split
      · rename_i x hop
        rw [entT_alike o.type (ha x (by simp [hop, Op.operands]))]
      · rfl
    · rfl
theorem drun_wp {call : Call0} (hc : CallsOk P cfg call) {ops : Array Oper} {o : Oper} {a : Act} (hR : Rel O B w0 st lam a.tmps w) {e : Ent} (h : drun ops cfg call o st = some e) {next : Act → World → Prop} {Q : Exit → Act → World → Prop}
    (hn : ∀ a' w', Rel O B w0 (st.put o.dst e) lam a'.tmps w' → a'.defers = a.defers → next a' w') : o.wp P a w next Q := by
  unfold drun at h
  split at h
  · contradiction
  · split at h
    · split at h
      · rename_i x hop
        split at h
        · rename_i T y hent
          simp only [Option.some.injEq] at h
          subst h
          have hx := entT_rel (cfg := cfg) hR o.type x
          rw [hent] at hx
          refine upon_of_run (v := a.eval x) (w' := w) (by simp [execOp, hop]) (hn _ w ?_ (by cases o.dst <;> rfl))
          cases o.dst with
          | none => exact hR
          | some d => exact hR.put d hx
        · contradiction
      · contradiction
    · have hy := opP_sound hc.ok hc.call hc.body hR h
      have putOk : ∀ (w1 : World) (v : Value), Rel O B w0 st lam a.tmps w1 → RelEnt (Cst (Full O st.objs lam) w1) st.objs lam e v → Rel O B w0 (st.put o.dst e) lam (a.put o.dst v).tmps w1 := by
        intro w1 v h1 h2
        cases hd : o.dst with
        | none => exact h1
        | some d => exact h1.put d h2
      rcases hy with ⟨e', v, w', hk, hrun, hv, hb⟩ | ⟨f, cargs, hrun, hcall⟩
      · simp only [Option.some.injEq] at hk
        subst hk
        exact upon_of_run hrun (hn _ w' (putOk w' v (hR.world hb) hv) (by cases o.dst <;> rfl))
      · unfold Oper.wp
        rw [hrun]
        refine Calls.mono hcall ?_
        rintro en w' ⟨e', v, rfl, hk, hv, hb⟩
        simp only [Option.some.injEq] at hk
        subst hk
        exact hn _ w' (putOk w' v (hR.world hb) hv) (by cases o.dst <;> rfl)

/-- A drawn region. -/
theorem execOpsD_sound {call : Call0} (hc : CallsOk P cfg call) {id : Nat} {ops : Array Oper} (hdr : drawOk ops = true) {K : St → Option α} {r : α} {Q : Exit → Act → World → Prop}
    (hQ : ∀ st' lam' a' w', K st' = some r → Rel O B w0 st' lam' a'.tmps w' → a'.defers = [] → Q .normal a' w')
    {a : Act} (h : execOpsD cfg call ops K ops.toList st = some r) (hR : Rel O B w0 st lam a.tmps w) (hdf : a.defers = []) : (Code.region id ops true).wp P Q a w := by
  have hf := drawOk_facts hdr
  obtain ⟨S, E, hS0, hS, hK⟩ := execOpsD_trace _ _ h
  have hat : ∀ (i : Nat) (o : Oper), ops[i]? = some o → ops.toList[i]? = some o := fun i o hi => by simpa using hi
  -- the text's states
  have hobjs : ∀ i, i ≤ ops.size → (S i).objs = st.objs ∧ (S i).env.length = st.env.length := by
    intro i
    induction i with
    | zero => intro _; rw [hS0]; exact ⟨rfl, rfl⟩
    | succ i ih =>
      intro hi
      obtain ⟨o, ho⟩ : ∃ o, ops[i]? = some o := ⟨ops[i], by simp [show i < ops.size by omega]⟩
      obtain ⟨t, ht, _⟩ := hf.dst i o ho
      have := ih (by omega)
      rw [(hS i o (hat i o ho)).2, ht]
      exact ⟨this.1, by simp only [St.put, St.set, length_eset]; exact this.2⟩
  have henv : ∀ i, i ≤ ops.size → ∀ t, eget t (S i).env = F ops E st (fun j => j < i) t := by
    intro i
    induction i with
    | zero => intro _ t; rw [hS0, F_no]; intro i o hi; omega
    | succ i ih =>
      intro hi t
      obtain ⟨o, ho⟩ : ∃ o, ops[i]? = some o := ⟨ops[i], by simp [show i < ops.size by omega]⟩
      obtain ⟨d, hd, _⟩ := hf.dst i o ho
      have hlen := (hobjs i (by omega)).2
      rw [(hS i o (hat i o ho)).2, hd]
      simp only [St.put, St.set, eget_set, hlen]
      split
      · rename_i hh
        obtain ⟨rfl, hlt⟩ := hh
        rw [F_yes (i := i) (L := fun j => j < i + 1) hf hlt (show i < i + 1 by omega) ho hd]
      · rename_i hh
        rw [ih (by omega) t]
        rcases Nat.lt_or_ge t st.env.length with hlt | hge
        · have htd : t ≠ d := fun e => hh ⟨e, e ▸ hlt⟩
          by_cases hex : ∃ (j : Nat) (o' : Oper), j < i ∧ ops[j]? = some o' ∧ o'.dst = some t
          · obtain ⟨j, o', h1, h2, h3⟩ := hex
            rw [F_yes (i := j) (L := fun j => j < i) hf hlt h1 h2 h3, F_yes (i := j) (L := fun j => j < i + 1) hf hlt (show j < i + 1 by omega) h2 h3]
          · rw [F_no, F_no]
            · intro j o' h1 h2 h3
              rcases Nat.lt_or_ge j i with h4 | h4
              · exact hex ⟨j, o', h4, h2, h3⟩
              · have : j = i := by omega
                subst this
                rw [ho] at h2
                simp only [Option.some.injEq] at h2
                subst h2
                rw [hd] at h3
                simp only [Option.some.injEq] at h3
                exact htd h3.symm
            · intro j o' h1 h2 h3; exact hex ⟨j, o', h1, h2, h3⟩
        · rw [F_ge hge, F_ge hge]
  -- any order
  have key : ∀ (fuel : Nat) (listed : Array Bool) (a : Act) (w : World) (st' : St), listed.size = ops.size → (∀ j oj, ops[j]? = some oj → listed.getD j false = true → ∀ e ∈ oj.after, Region.binds .any e = true → listed.getD e.on false = true) →
      (ops.size ≤ fuel + ((List.range ops.size).filter fun i => listed.getD i false).length) → st'.objs = st.objs → st'.env.length = st.env.length → (∀ t, eget t st'.env = F ops E st (fun j => listed.getD j false = true) t) → Rel O B w0 st' lam a.tmps w → a.defers = [] →
      wpAny P .any ops Q fuel listed a w := by
    have final : ∀ (listed : Array Bool) (a : Act) (w : World) (st' : St), listed.size = ops.size → Region.ready .any ops listed = [] → st'.objs = st.objs → st'.env.length = st.env.length → (∀ t, eget t st'.env = F ops E st (fun j => listed.getD j false = true) t) → Rel O B w0 st' lam a.tmps w → a.defers = [] → Q .normal a w := by
      intro listed a w st' hsz hrd ho hl he hR' hdf'
      have hall : ∀ i, i < ops.size → listed.getD i false = true := by
        intro i
        induction i using Nat.strongRecOn with
        | _ i ih =>
          intro hi
          cases hli : listed.getD i false with
          | true => rfl
          | false =>
            exfalso
            have hmem : i ∈ Region.ready .any ops listed := by
              rw [mem_ready]
              refine ⟨by have : i < listed.size := by omega
                         simp [this] at hli ⊢; exact hli, ops[i], by simp [hi], fun e he hb => ?_⟩
              have hlt := hf.back i _ (by simp [hi]) e he hb
              exact ih e.on hlt (by omega)
            rw [hrd] at hmem; cases hmem
      have heq : ∀ t, eget t st'.env = eget t (S ops.toList.length).env := by
        intro t
        rw [Array.length_toList, he t, henv ops.size (Nat.le_refl _) t]
        rcases Nat.lt_or_ge t st.env.length with hlt | hge
        · by_cases hex : ∃ (j : Nat) (o' : Oper), ops[j]? = some o' ∧ o'.dst = some t
          · obtain ⟨j, o', h2, h3⟩ := hex
            have hj : j < ops.size := (Array.getElem?_eq_some_iff.1 h2).1
            rw [F_yes (i := j) (L := fun j => listed.getD j false = true) hf hlt (hall j hj) h2 h3, F_yes (i := j) (L := fun j => j < ops.size) hf hlt hj h2 h3]
          · rw [F_no, F_no]
            · intro j o' h1 h2 h3; exact hex ⟨j, o', h2, h3⟩
            · intro j o' h1 h2 h3; exact hex ⟨j, o', h2, h3⟩
        · rw [F_ge hge, F_ge hge]
      have hSo := hobjs ops.size (Nat.le_refl _)
      refine hQ _ lam a w hK (hR'.weak ?_ (fun s o hs => ?_) fun t ht => ?_) hdf'
      · rw [Array.length_toList, hSo.2, hl]; exact Nat.le_refl _
      · rw [Array.length_toList, hSo.1] at hs; rw [ho]; exact hs
      · rw [← heq t]
        have : (S ops.toList.length).objs = st'.objs := by rw [Array.length_toList, hSo.1, ho]
        rw [this]; exact ht
    intro fuel
    induction fuel with
    | zero =>
      intro listed a w st' hsz hdown hfu ho hl he hR' hdf'
      have hrd : Region.ready .any ops listed = [] := by
        apply List.eq_nil_iff_forall_not_mem.2
        intro i hi
        obtain ⟨h1, o, h2, _⟩ := mem_ready.1 hi
        have hlt : i < ops.size := (Array.getElem?_eq_some_iff.1 h2).1
        have hli : listed.getD i false = false := by
          have : i < listed.size := by omega
          simp [this] at h1 ⊢; exact h1
        have hfl : ((List.range ops.size).filter fun i => listed.getD i false).length < (List.range ops.size).length := by
          rcases Nat.lt_or_ge ((List.range ops.size).filter fun i => listed.getD i false).length (List.range ops.size).length with h3 | h3
          · exact h3
          · have h4 := List.length_filter_le (fun i => listed.getD i false) (List.range ops.size)
            have h5 := List.length_filter_eq_length_iff.1 (Nat.le_antisymm h4 h3) i (by simp [hlt])
            simp only [hli] at h5; cases h5
        rw [List.length_range] at hfl
        omega
      exact ⟨hrd, final listed a w st' hsz hrd ho hl he hR' hdf'⟩
    | succ fuel ih =>
      intro listed a w st' hsz hdown hfu ho hl he hR' hdf'
      refine ⟨fun hrd => final listed a w st' hsz hrd ho hl he hR' hdf', fun i hi => ?_⟩
      obtain ⟨h1, o, h2, h3⟩ := mem_ready.1 hi
      have hlt : i < ops.size := (Array.getElem?_eq_some_iff.1 h2).1
      have hil : i < listed.size := by omega
      have hli : listed.getD i false = false := by simp [hil] at h1 ⊢; exact h1
      obtain ⟨d, hd, hself⟩ := hf.dst i o h2
      -- what this operation looks at is as in the text's order
      have hlook : ∀ t, t ∈ o.looksAt ops → eget t (S i).env = eget t st'.env := by
        intro t ht
        rw [henv i (by omega) t, he t]
        rcases Nat.lt_or_ge t st.env.length with hl1 | hge
        · by_cases hex : ∃ (j : Nat) (o' : Oper), ops[j]? = some o' ∧ o'.dst = some t
          · obtain ⟨j, o', h4, h5⟩ := hex
            rcases Nat.lt_trichotomy j i with h6 | rfl | h6
            · obtain ⟨e, he1, he2, he3⟩ := hf.data j i o' o t h6 h4 h2 h5 ht
              have := h3 e he1 he3
              rw [he2] at this
              rw [F_yes (i := j) (L := fun j => j < i) hf hl1 h6 h4 h5, F_yes (i := j) (L := fun j => listed.getD j false = true) hf hl1 this h4 h5]
            · rw [h2] at h4
              simp only [Option.some.injEq] at h4
              subst h4
              rw [hd] at h5
              simp only [Option.some.injEq] at h5
              subst h5
              exact absurd ht hself
            · exact absurd ht (hf.anti i j o o' t h6 h2 h4 h5)
          · rw [F_no, F_no]
            · intro j o' h4 h5 h6; exact hex ⟨j, o', h5, h6⟩
            · intro j o' h4 h5 h6; exact hex ⟨j, o', h5, h6⟩
        · rw [F_ge hge, F_ge hge]
      have hSi := hobjs i (by omega)
      have hout := (hS i o (hat i o h2)).1
      -- the next state
      have next : ∀ (a' : Act) (w' : World), Rel O B w0 (st'.put o.dst (E i)) lam a'.tmps w' → a'.defers = a.defers → wpAny P .any ops Q fuel (listed.setIfInBounds i true) a' w' := by
        intro a' w' hR2 hdf2
        refine ih _ a' w' (st'.put o.dst (E i)) (by simpa using hsz) (fun j oj hj hlj e he1 hb => ?_) ?_ (by rw [hd]; exact ho) (by rw [hd]; simp only [St.put, St.set, length_eset]; exact hl) (fun t => ?_) hR2 (hdf2.trans hdf')
        · by_cases hji : j = i
          · subst hji
            rw [h2] at hj
            simp only [Option.some.injEq] at hj
            subst hj
            exact getD_set_true (h3 e he1 hb)
          · rw [getD_set_ne false (Ne.symm hji)] at hlj
            exact getD_set_true (hdown j oj hj hlj e he1 hb)
        · have hcount : ((List.range ops.size).filter fun j => (listed.setIfInBounds i true).getD j false).length = ((List.range ops.size).filter fun j => listed.getD j false).length + 1 := by
            have hnd : (List.range ops.size).Nodup := List.nodup_range
            have hmem : i ∈ List.range ops.size := by simp [hlt]
            have gen : ∀ l : List Nat, l.Nodup → (l.filter fun j => (listed.setIfInBounds i true).getD j false).length = (l.filter fun j => listed.getD j false).length + (if i ∈ l then 1 else 0) := by
              intro l
              induction l with
              | nil => intro _; simp
              | cons x xs ihl =>
                intro hn
                obtain ⟨hx, hxs⟩ := List.nodup_cons.1 hn
                have ihl := ihl hxs
                by_cases hxi : x = i
                · subst hxi
                  have e1 : (listed.setIfInBounds x true).getD x false = true := by simp [hil]
                  rw [List.filter_cons_of_pos (p := fun j => (listed.setIfInBounds x true).getD j false) e1, List.filter_cons_of_neg (p := fun j => listed.getD j false) (by rw [hli]; simp)]
                  simp only [List.length_cons, ihl, hx, if_false, List.mem_cons, true_or, if_true]
                · have e1 : (listed.setIfInBounds i true).getD x false = listed.getD x false := getD_set_ne false (fun e => hxi e.symm)
                  have e2 : (i ∈ x :: xs) ↔ i ∈ xs := by simp [Ne.symm hxi]
                  by_cases hb : listed.getD x false = true
                  · rw [List.filter_cons_of_pos (p := fun j => (listed.setIfInBounds i true).getD j false) (by rw [e1]; exact hb), List.filter_cons_of_pos (p := fun j => listed.getD j false) hb]
                    simp only [List.length_cons, ihl, e2]; omega
                  · rw [List.filter_cons_of_neg (p := fun j => (listed.setIfInBounds i true).getD j false) (by rw [e1]; exact hb), List.filter_cons_of_neg (p := fun j => listed.getD j false) hb]
                    simp only [ihl, e2]
            rw [gen _ hnd, if_pos hmem]
          omega
        · rw [hd]
          simp only [St.put, St.set, eget_set, hl]
          split
          · rename_i hh
            obtain ⟨rfl, hl1⟩ := hh
            rw [F_yes (i := i) (L := fun j => (listed.setIfInBounds i true).getD j false = true) hf hl1 (by simp [hil]) h2 hd]
          · rename_i hh
            rw [he t]
            rcases Nat.lt_or_ge t st.env.length with hl1 | hge
            · have htd : t ≠ d := fun e => hh ⟨e, e ▸ hl1⟩
              by_cases hex : ∃ (j : Nat) (o' : Oper), listed.getD j false = true ∧ ops[j]? = some o' ∧ o'.dst = some t
              · obtain ⟨j, o', h4, h5, h6⟩ := hex
                rw [F_yes (i := j) (L := fun j => listed.getD j false = true) hf hl1 h4 h5 h6, F_yes (i := j) (L := fun j => (listed.setIfInBounds i true).getD j false = true) hf hl1 (getD_set_true h4) h5 h6]
              · rw [F_no, F_no]
                · intro j o' h4 h5 h6
                  by_cases hji : j = i
                  · subst hji
                    rw [h2] at h5
                    simp only [Option.some.injEq] at h5
                    subst h5
                    rw [hd] at h6
                    simp only [Option.some.injEq] at h6
                    exact htd h6.symm
                  · rw [getD_set_ne false (Ne.symm hji)] at h4
                    exact hex ⟨j, o', h4, h5, h6⟩
                · intro j o' h4 h5 h6; exact hex ⟨j, o', h4, h5, h6⟩
            · rw [F_ge hge, F_ge hge]
      unfold wpOp
      simp only [h2]
      rcases hout with ⟨hg, hrun⟩ | ⟨hg, hsk⟩
      · have hg' : gd ops o st' = some true := by rw [← gd_alike hlook]; exact hg
        rw [gd_wanted hR' hg']
        simp only [if_true]
        left
        have hrun' : drun ops cfg call o st' = some (E i) := by rw [← drun_alike (by rw [hSi.1, ho]) hlook]; exact hrun
        exact drun_wp hc hR' hrun' fun a' w' => next a' w'
      · have hg' : gd ops o st' = some false := by rw [← gd_alike hlook]; exact hg
        rw [gd_wanted hR' hg']
        simp only [Bool.false_eq_true, if_false]
        refine next _ w ?_ (by cases o.dst <;> rfl)
        rw [hd, hsk]
        exact hR'.put d rfl
  refine wp_region_any hc.ok.mixed (key ops.size _ a _ st (by simp) (fun j oj _ hlj => ?_) (by omega) rfl rfl (fun t => ?_) (hR.world ⟨rfl, rfl, rfl, Nat.le_refl _, fun _ _ => rfl⟩) hdf)
  · exfalso
    rcases Nat.lt_or_ge j ops.size with h1 | h1 <;> simp [h1] at hlj
  · rw [F_no]
    intro j o' h4
    exfalso
    rcases Nat.lt_or_ge j ops.size with h1 | h1 <;> simp [h1] at h4
end
end Go.Proofs.YtlcphnmkkilefaaDoor.Ab
