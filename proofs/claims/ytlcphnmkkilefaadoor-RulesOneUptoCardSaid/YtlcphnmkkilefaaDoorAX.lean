/- The abstract interpreter: drawn regions that fill slots of their own, and what comes behind. -/
import Derived.Test.YtlcphnmkkilefaaDoorA9
set_option linter.unusedVariables false
set_option linter.unusedSimpArgs false
namespace Go.Proofs.YtlcphnmkkilefaaDoor.Ab
open Go Go.RowKit

section
variable {P : Program} {cfg : Cfg} {O : Nat → Prop} {B : Base} {w0 w w' : World} {st st1 : St} {lam : Nat → Value} {tm : Array Value} {C : Cells} {α : Type}

abbrev pairE (e : Ent) (ob : Option Obj) : Option (Ent × Option Obj) := some (e, ob)
theorem stepI_bind {call : Call0} {o : Oper} {d : Nat} {st : St} {K : Ent → Option Obj → Option α} {r : α} (h : stepI cfg call o d st K = some r) : ∃ e ob, stepI cfg call o d st pairE = some (e, ob) ∧ K e ob = some r := by
  unfold stepI at h ⊢
  split at h
  · split at h
    · split at h
      · split at h
        · rename_i h1 h2
          obtain ⟨hb, h⟩ := bif_some h
          obtain ⟨x, hx, hk⟩ := Option.bind_eq_some_iff.1 h
          refine ⟨_, _, ?_, hk⟩
          simp only [h1, h2]
          rw [hb]
          exact Option.bind_eq_some_iff.2 ⟨x, hx, rfl⟩
        · contradiction
      · contradiction
    · contradiction
  · contradiction
theorem bif_none {b : Bool} {x : Option α} {r : α} (h : (bif b then none else x) = some r) : b = false ∧ x = some r := by cases b <;> simp_all
theorem stepX_bind {call : Call0} {o : Oper} {st : St} {K : Ent → Option Obj → Option α} {r : α} (h : stepX cfg call o st K = some r) : ∃ e ob, stepX cfg call o st pairE = some (e, ob) ∧ K e ob = some r := by
  unfold stepX at h ⊢
  cases hd : o.dst with
  | none => rw [hd] at h; contradiction
  | some d =>
    rw [hd] at h
    dsimp only at h ⊢
    generalize o.op = op at h ⊢
    split at h
    · rename_i t
      split at h
      · exact ⟨_, _, rfl, h⟩
      · contradiction
    · rename_i t x
      split at h
      · rename_i T hT
        split at h
        · exact ⟨_, _, rfl, h⟩
        · contradiction
      · contradiction
    · rename_i t n parts
      split at h
      · rename_i T e hT he
        split at h
        · rename_i l hl
          obtain ⟨hb, h⟩ := bif_some h
          exact ⟨_, _, by rw [hb]; rfl, h⟩
        · contradiction
      · contradiction
    · rename_i x
      split at h
      · exact ⟨_, _, rfl, h⟩
      · contradiction
    · cases hI : isI cfg o st with
      | true => rw [hI] at h; exact stepI_bind h
      | false =>
        rw [hI] at h
        simp only [cond_false] at h ⊢
        obtain ⟨hE, h⟩ := bif_none h
        rw [hE]
        simp only [cond_false]
        rw [opP_bind] at h
        obtain ⟨e, h1, h2⟩ := Option.bind_eq_some_iff.1 h
        refine ⟨e, none, ?_, h2⟩
        rw [opP_bind, h1]; rfl

/-! what a step tells hangs on what it looks at alone -/
theorem entA_alike {st st' : St} : ∀ {xs : List Operand} {ts : List TypeId}, Alike st st' xs → entA cfg st ts xs = entA cfg st' ts xs
  | [], ts, _ => rfl
  | x :: r, ts, h => by
    simp only [entA]
    rw [entT_alike _ (h x (by simp)), entA_alike fun y hy => h y (by simp [hy])]
theorem elems_alike {st st' : St} {T : Ty} : ∀ {parts : List (Nat × Operand)} {i : Nat}, Alike st st' (parts.map (·.2)) → elems? T st i parts = elems? T st' i parts
  | [], i, _ => rfl
  | (j, y) :: r, i, h => by
    simp only [elems?]
    rw [h y (by simp), elems_alike (parts := r) fun z hz => h z (by simp at hz ⊢; right; exact hz)]
theorem isI_alike {o : Oper} {st st' : St} (h : Alike st st' o.op.operands.toList) : isI cfg o st = isI cfg o st' := by
  unfold isI
  split
  · rename_i g args at_ hop
    rw [h g (by rw [hop]; simp [Op.operands, Call.operands])]
  · rfl
theorem stepX_alike {call : Call0} {o : Oper} {st st' : St} {K : Ent → Option Obj → Option α} (ho : st.objs = st'.objs) (h : Alike st st' o.op.operands.toList) : stepX cfg call o st K = stepX cfg call o st' K := by
  unfold stepX
  cases hd : o.dst with
  | none => rfl
  | some d =>
    dsimp only
    split
    · rfl
    · rename_i t x hop
      rw [h x (by rw [hop]; simp [Op.operands])]
    · rename_i t n parts hop
      have : ∀ T, elems? T st 0 parts.toList = elems? T st' 0 parts.toList := fun T => elems_alike fun y hy => h y (by rw [hop]; simpa [Op.operands] using hy)
      simp only [this]
    · rename_i x hop
      rw [entT_alike o.type (h x (by rw [hop]; simp [Op.operands]))]
    · rw [isI_alike h, opP_alike ho h]
      congr 1
      unfold stepI
      split
      · rename_i g args at_ hop
        have hg := h g (by rw [hop]; simp [Op.operands, Call.operands])
        have ha : ∀ ts, entA cfg st ts args.toList = entA cfg st' ts args.toList := fun ts => entA_alike fun y hy => h y (by rw [hop]; simp [Op.operands, Call.operands]; right; simpa using hy)
        rw [hg]
        simp only [ha]
      · rfl
def xout (ops : Array Oper) (cfg : Cfg) (call : Call0) (o : Oper) (st : St) (e : Ent) (ob : Option Obj) : Prop :=
  (gd ops o st = some true ∧ stepX cfg call o st pairE = some (e, ob)) ∨ (gd ops o st = some false ∧ e = skipE ∧ ob = none)
def frNext (o : Oper) (ob : Option Obj) (fr : List (Nat × Obj)) : List (Nat × Obj) := match ob, o.dst with
  | some b, some d => (d, b) :: fr
  | _, _ => fr
structure XTrace (ops : Array Oper) (cfg : Cfg) (call : Call0) (K : St → Option α) (r : α) (m : Nat) (l : List Oper) (st : St) (fr : List (Nat × Obj)) (S : Nat → St) (E : Nat → Ent) (Ob : Nat → Option Obj) (FR : Nat → List (Nat × Obj)) : Prop where
  s0 : S 0 = st
  f0 : FR 0 = fr
  len : m ≤ l.length
  look : ∀ i o, i < m → l[i]? = some o → ∀ p ∈ FR i, p.1 ∉ o.looksAt ops
  out : ∀ i o, i < m → l[i]? = some o → xout ops cfg call o (S i) (E i) (Ob i)
  next : ∀ i o, i < m → l[i]? = some o → S (i + 1) = (S i).put o.dst (E i)
  fr : ∀ i o, i < m → l[i]? = some o → FR (i + 1) = frNext o (Ob i) (FR i)
  fresh : ∀ i o b, i < m → l[i]? = some o → Ob i = some b → ∃ d, o.dst = some d ∧ freshOk d (S i) (FR i) = true
  last : execOps cfg call ops K (l.drop m) { env := (S m).env, objs := FR m ++ (S m).objs } = some r
theorem execOpsX_trace {call : Call0} {ops : Array Oper} {K : St → Option α} {r : α} : ∀ (m : Nat) (l : List Oper) (st : St) (fr : List (Nat × Obj)), execOpsX cfg call ops K m l st fr = some r →
    ∃ S E Ob FR, XTrace ops cfg call K r m l st fr S E Ob FR
  | 0, l, st, fr, h => ⟨fun _ => st, fun _ => U, fun _ => none, fun _ => fr, rfl, rfl, by omega, fun i o hi => by omega, fun i o hi => by omega, fun i o hi => by omega, fun i o hi => by omega, fun i o b hi => by omega, by simpa [execOpsX] using h⟩
  | m + 1, [], st, fr, h => by simp [execOpsX] at h
  | m + 1, o :: rest, st, fr, h => by
    simp only [execOpsX] at h
    obtain ⟨hl, h⟩ := bif_some h
    have hl' : ∀ p ∈ fr, p.1 ∉ o.looksAt ops := fun p hp hin => by
      have := List.all_eq_true.1 hl p hp
      rw [Bool.not_eq_true', ← Bool.not_eq_true] at this
      exact this (inL_iff.2 hin)
    have step : ∃ e ob, xout ops cfg call o st e ob ∧ (∀ b, ob = some b → ∃ d, o.dst = some d ∧ freshOk d st fr = true) ∧ execOpsX cfg call ops K m rest (st.put o.dst e) (frNext o ob fr) = some r := by
      rcases guardC_gd h with ⟨hg, h⟩ | ⟨hg, h⟩
      · obtain ⟨e, ob, h1, h2⟩ := stepX_bind h
        refine ⟨e, ob, .inl ⟨hg, h1⟩, ?_⟩
        cases ob with
        | none => exact ⟨(fun b hb => by cases hb), h2⟩
        | some b =>
          cases hd : o.dst with
          | none => rw [hd] at h2; simp at h2
          | some d =>
            rw [hd] at h2
            dsimp only at h2
            obtain ⟨hf, h2⟩ := bif_some h2
            refine ⟨fun b' _ => ⟨d, rfl, hf⟩, ?_⟩
            simp only [frNext, hd]; exact h2
      · exact ⟨skipE, none, .inr ⟨hg, rfl, rfl⟩, (fun b hb => by cases hb), h⟩
    obtain ⟨e, ob, h1, h2, h3⟩ := step
    obtain ⟨S, E, Ob, FR, T⟩ := execOpsX_trace m rest _ _ h3
    refine ⟨fun i => match i with | 0 => st | i + 1 => S i, fun i => match i with | 0 => e | i + 1 => E i, fun i => match i with | 0 => ob | i + 1 => Ob i, fun i => match i with | 0 => fr | i + 1 => FR i, rfl, rfl, by have := T.len; simp; omega, ?_, ?_, ?_, ?_, ?_, ?_⟩
    · intro i o' hi ho
      cases i with
      | zero => simp at ho; subst ho; exact hl'
      | succ i => exact T.look i o' (by omega) (by simpa using ho)
    · intro i o' hi ho
      cases i with
      | zero => simp at ho; subst ho; exact h1
      | succ i => exact T.out i o' (by omega) (by simpa using ho)
    · intro i o' hi ho
      cases i with
      | zero => simp at ho; subst ho; exact T.s0
      | succ i => exact T.next i o' (by omega) (by simpa using ho)
    · intro i o' hi ho
      cases i with
      | zero => simp at ho; subst ho; exact T.f0
      | succ i => exact T.fr i o' (by omega) (by simpa using ho)
    · intro i o' b hi ho hb
      cases i with
      | zero => simp at ho; subst ho; exact h2 b hb
      | succ i => exact T.fresh i o' b (by omega) (by simpa using ho) hb
    · simpa using T.last

/-- A slot of its own, in memory of its own. -/
theorem fresh_mono (hb : Below w.heap.size w w') {d : Nat} {v : Value} {ob : Obj} (hd : oget d st.objs = none) (hv : ∀ g, owns v g → w.heap.size ≤ g) :
    ∀ a u, Cst (Full O st.objs lam) w a u → Cst (Full O ((d, ob) :: st.objs) (upd lam d v)) w' a u := by
  rintro a u ⟨h1, h2⟩
  have hlt := look_lt h2
  refine ⟨?_, by rw [look_eq (hb.block _ hlt)]; exact h2⟩
  rintro (h3 | ⟨s, o, h3, h4⟩)
  · exact h1 (.inl h3)
  · rw [oget_cons] at h3
    by_cases hs : s = d
    · rw [upd, if_pos hs] at h4
      have := hv _ h4; omega
    · rw [if_neg hs] at h3
      rw [upd, if_neg hs] at h4
      exact h1 (.inr ⟨s, o, h3, h4⟩)
theorem Rel.fresh (h : Rel O B w0 st lam tm w) (hb : Below w.heap.size w w') {d : Nat} {v : Value} {ob : Obj} {e : Ent} (hd : oget d st.objs = none) (hdl : d < st.env.length) (hv : ∀ g, owns v g → w.heap.size ≤ g)
    (hob : RelO (Cst (Full O ((d, ob) :: st.objs) (upd lam d v)) w') w' B v ob) (he : ∀ C' : Cells, RelEnt C' ((d, ob) :: st.objs) (upd lam d v) e v) :
    Rel O B w0 { env := eset d e st.env, objs := (d, ob) :: st.objs } (upd lam d v) (tm.setIfInBounds d v) w' := by
  have hdn : d < B.nt := Nat.lt_of_lt_of_le hdl h.stay.1
  have hbn : BelN (fun g => w.heap.size ≤ g) w w' := ⟨hb.os, hb.tape, hb.output, hb.size, fun k hk _ => hb.block k hk⟩
  refine h.after (st1 := { env := eset d e st.env, objs := (d, ob) :: st.objs }) (lam1 := upd lam d v) (tm1 := tm.setIfInBounds d v) hbn (fun g h1 h2 => by omega) (fun g hg hf => ?_) (fun hC s o hs => ?_) (fun s s' o o' g h1 h2 h3 h4 => ?_) (by simpa [length_eset] using h.len) ⟨by simpa [length_eset] using h.stay.1, fun s o h1 h2 => ?_⟩ (fun hC t => ?_)
  · rcases hf with h1 | ⟨s, o, h1, h2⟩
    · exact .inl h1
    · rw [oget_cons] at h1
      by_cases hs : s = d
      · rw [upd, if_pos hs] at h2
        have := hv _ h2; omega
      · rw [if_neg hs] at h1
        rw [upd, if_neg hs] at h2
        exact .inr ⟨s, o, h1, h2⟩
  · simp only [oget_cons] at hs
    by_cases hsd : s = d
    · rw [if_pos hsd] at hs
      simp only [Option.some.injEq] at hs
      subst hs
      rw [upd, if_pos hsd]
      exact .inr hob
    · rw [if_neg hsd] at hs
      refine .inl ⟨hs, by rw [upd, if_neg hsd], fun g hg hn => ?_⟩
      have := h.full_lt g (.inr ⟨s, o, hs, hg⟩); omega
  · simp only [oget_cons] at h1 h2
    have cross : ∀ s o, oget s st.objs = some o → owns (lam s) g → owns v g → False := fun s o hs hg hg' => by
      have h5 := h.full_lt g (.inr ⟨s, o, hs, hg⟩)
      have := hv g hg'; omega
    by_cases hs : s = d <;> by_cases hs' : s' = d
    · rw [hs, hs']
    · rw [if_neg hs'] at h2
      rw [upd, if_pos hs] at h3
      rw [upd, if_neg hs'] at h4
      exact (cross s' o' h2 h4 h3).elim
    · rw [if_neg hs] at h1
      rw [upd, if_neg hs] at h3
      rw [upd, if_pos hs'] at h4
      exact (cross s o h1 h3 h4).elim
    · rw [if_neg hs] at h1; rw [if_neg hs'] at h2
      rw [upd, if_neg hs] at h3; rw [upd, if_neg hs'] at h4
      exact h.apart s s' o o' g h1 h2 h3 h4
  · have hsd : s ≠ d := by omega
    simp only [oget_cons, if_neg hsd] at h2
    rw [upd, if_neg hsd]
    exact h.stay.2 s o h1 h2
  · simp only [eget_set]
    split
    · rename_i hh
      obtain ⟨rfl, _⟩ := hh
      have : t < tm.size := Nat.lt_of_lt_of_le hdl h.len
      simp [this]; exact he _
    · rename_i hh
      by_cases ht : t = d
      · subst ht; exact absurd ⟨rfl, hdl⟩ hh
      · have : RelEnt (Cst (Full O ((d, ob) :: st.objs) (upd lam d v)) w') ((d, ob) :: st.objs) (upd lam d v) (eget t st.env) (tm.getD t undef) :=
          RelEnt_id (fun e' v' he' => RelE_lam hC (fun s hs => by
            obtain ⟨o, ho⟩ := slot_some he' hs
            have hne : s ≠ d := fun e' => by rw [e', hd] at ho; cases ho
            exact ⟨by rw [oget_cons, if_neg hne], by rw [upd, if_neg hne]⟩) he') (h.env t)
        simpa [Array.getElem?_setIfInBounds_ne (Ne.symm ht)] using this

def addX (st : St) (d : Nat) (e : Ent) : Option Obj → St
  | none => st.set d e
  | some b => { env := eset d e st.env, objs := (d, b) :: st.objs }
theorem ent_objs (env : List Ent) (o1 o2 : List (Nat × Obj)) (x : Operand) : ent { env := env, objs := o1 } x = ent { env := env, objs := o2 } x := by cases x <;> rfl
theorem below_alloc (w : World) (c : Array Value) (t : TypeId) : Below w.heap.size w (w.alloc (.cells c t)) :=
  ⟨rfl, rfl, rfl, by simp, fun k hk => heap_alloc_old w _ k hk⟩
theorem idents_none {es : List Ent} (h : lendL es = []) : ∀ e ∈ es, slotsE e = [] := by
  have gen : ∀ (l acc : List Nat), l.foldl addL acc = [] → l = [] ∧ acc = [] := by
    intro l
    induction l with
    | nil => intro acc h; exact ⟨rfl, h⟩
    | cons x r ih =>
      intro acc h
      obtain ⟨h1, h2⟩ := ih _ h
      unfold addL at h2
      cases hh : has acc x with
      | true => rw [hh] at h2; simp at h2; subst h2; simp [has] at hh
      | false => rw [hh] at h2; simp at h2
  have := (gen _ _ h).1
  intro e he
  have h2 := List.flatMap_eq_nil_iff.1 this e he
  exact h2
theorem RelEnt_noslot {C : Cells} {objs objs' : List (Nat × Obj)} {lam lam' : Nat → Value} {e : Ent} {v : Value} (hs : ∀ e', e ≠ .tup e' → slotsE e = []) (h : RelEnt C objs lam e v) (ht : ∀ es, e ≠ .tup es) : RelEnt C objs' lam' e v := by
  cases e with
  | s e =>
    have h1 := hs [] (by simp)
    simp only [slotsE] at h1
    cases hsl : slotOf e with
    | none => exact RelE_same (fun _ _ h => h) (fun s h' => by rw [hsl] at h'; cases h') h
    | some s => rw [hsl] at h1; simp at h1
  | fn g caps =>
    have h1 := hs [] (by simp)
    simp only [slotsE] at h1
    obtain ⟨vs, e1, h2⟩ := h
    refine ⟨vs, e1, ?_⟩
    have : ∀ (caps : List E0) (vs : List Value), caps.filterMap slotOf = [] → RelL C objs lam caps vs → RelL C objs' lam' caps vs := by
      intro caps
      induction caps with
      | nil => intro vs _ h; exact h
      | cons c r ih =>
        intro vs hc h
        obtain ⟨v, r', k1, k2, k3⟩ := h
        cases hsl : slotOf c with
        | none =>
          rw [List.filterMap_cons_none hsl] at hc
          exact ⟨v, r', k1, RelE_same (fun _ _ h => h) (fun s h' => by rw [hsl] at h'; cases h') k2, ih r' hc k3⟩
        | some s => rw [List.filterMap_cons_some hsl] at hc; cases hc
    exact this caps _ h1 h2
  | tup es => exact absurd rfl (ht es)

theorem RelEsI_noslot {C : Cells} {objs objs' : List (Nat × Obj)} {lam lam' : Nat → Value} : ∀ {es : List Ent} {vs : List Value}, (∀ e ∈ es, slotsE e = [] ∧ notTup e = true) → RelEsI C objs lam es vs → RelEsI C objs' lam' es vs
  | [], _, _, h => h
  | e :: es, _, hs, ⟨v, r, h1, h2, h3⟩ => ⟨v, r, h1, RelEnt_noslot (fun _ _ => (hs e (by simp)).1) h2 (fun es' h' => by have := (hs e (by simp)).2; rw [h'] at this; cases this), RelEsI_noslot (fun e' he' => hs e' (by simp [he'])) h3⟩
theorem RelEsI_mono {C C' : Cells} {objs : List (Nat × Obj)} {lam : Nat → Value} (hC : ∀ a u, C a u → C' a u) : ∀ {es : List Ent} {vs : List Value}, RelEsI C objs lam es vs → RelEsI C' objs lam es vs
  | [], _, h => h
  | e :: es, _, ⟨v, r, h1, h2, h3⟩ => ⟨v, r, h1, RelEnt_id (fun e v he => RelE_weak hC (fun _ _ => rfl) he) h2, RelEsI_mono hC h3⟩
def maskE (p : Nat → Bool) : Nat → List Ent → List Ent
  | _, [] => []
  | i, e :: r => (bif p i then U else e) :: maskE p (i + 1) r
theorem eget_mask (p : Nat → Bool) : ∀ (l : List Ent) (i t : Nat), eget t (maskE p i l) = if p (i + t) = true then U else eget t l := by
  intro l
  induction l with
  | nil => intro i t; simp [maskE, eget]
  | cons e r ih =>
    intro i t
    cases t with
    | zero => simp only [maskE, eget, Nat.add_zero]; cases p i <;> simp
    | succ t => simp only [maskE, eget, ih]; rw [show i + 1 + t = i + (t + 1) by omega]
theorem length_mask (p : Nat → Bool) : ∀ (l : List Ent) (i : Nat), (maskE p i l).length = l.length := by
  intro l
  induction l with
  | nil => intro i; rfl
  | cons e r ih => intro i; simp [maskE, ih]
theorem stepX_wp {call : Call0} (hc : CallsOk P cfg call) {ops : Array Oper} {o : Oper} {a : Act} (hR : Rel O B w0 st lam a.tmps w) {base : List (Nat × Obj)} (hsub : ∀ s ob, oget s base = some ob → oget s st.objs = some ob) {D : Nat → Bool}
    (hbase : ∀ t, D t = false → RelEnt (Cst (Full O st.objs lam) w) base lam (eget t st.env) (a.tmps.getD t undef)) (hD : ∀ t, t ∈ o.looksAt ops → D t = false) {d : Nat} (hd : o.dst = some d) {e : Ent} {ob : Option Obj}
    (h : stepX cfg call o { env := st.env, objs := base } pairE = some (e, ob)) (hfr : ∀ b, ob = some b → oget d st.objs = none ∧ d < st.env.length) {next : Act → World → Prop} {Q : Exit → Act → World → Prop}
    (hn : ∀ lam' v w', Rel O B w0 (addX st d e ob) lam' (a.tmps.setIfInBounds d v) w' → (∀ s b, oget s base = some b → lam' s = lam s) →
      (∀ x u, Cst (Full O st.objs lam) w x u → Cst (Full O (addX st d e ob).objs lam') w' x u) → (ob = none → RelEnt (Cst (Full O (addX st d e ob).objs lam') w') base lam' e v) → next (a.put o.dst v) w') : o.wp P a w next Q := by
  have hent : ∀ x, ent { env := st.env, objs := base } x = ent st x := fun x => ent_objs st.env base st.objs x
  have hbd : ∀ {b : Obj}, oget d st.objs = none → ∀ v s b', oget s base = some b' → upd lam d v s = lam s := fun hdn v s b' hs => by
    have : s ≠ d := fun e => by have := hsub s b' hs; rw [e, hdn] at this; cases this
    rw [upd, if_neg this]
  have hput : (a.put o.dst) = fun v => { a with tmps := a.tmps.setIfInBounds d v } := by rw [hd]; rfl
  unfold stepX at h
  rw [hd] at h
  dsimp only at h
  split at h
  · -- alloc
    rename_i t hop
    split at h
    · rename_i T hT
      simp only [pairE, Option.some.injEq, Prod.mk.injEq] at h
      obtain ⟨rfl, rfl⟩ := h
      obtain ⟨h1, h2⟩ := hfr _ rfl
      have ht := hc.ok.ty _ _ hT
      obtain ⟨z, hz, hzr⟩ := ht.zero w
      refine upon_of_run (v := .pointer (some ⟨w.heap.size, 0, none⟩)) (w' := w.alloc (.cells z.cells t)) (by simp [execOp, hop, Instr.alloc, hz, newVar, newRow]) ?_
      have hv : ∀ g, owns (.pointer (some ⟨w.heap.size, 0, none⟩)) g → w.heap.size ≤ g := fun g hg => by simp [owns] at hg; omega
      exact hn _ _ _ (hR.fresh (below_alloc w z.cells t) h1 h2 hv ⟨w.heap.size, z.cells, t, rfl, hR.base _ (Nat.le_refl _), heap_alloc_new w _, RelV_cells (hzr _)⟩ (fun _ => ref_ent)) (hbd (b := .box T (dflt T)) h1 _) (fresh_mono (below_alloc w z.cells t) h1 hv) (fun h => by cases h)
    · contradiction
  · -- box
    rename_i t x hop
    split at h
    · rename_i T hT
      split at h
      · rename_i y hy
        simp only [pairE, Option.some.injEq, Prod.mk.injEq] at h
        obtain ⟨rfl, rfl⟩ := h
        obtain ⟨h1, h2⟩ := hfr _ rfl
        rw [hent] at hy
        have hx := asT_rel hy (ent_rel hR x)
        refine upon_of_run (v := .pointer (some ⟨w.heap.size, 0, none⟩)) (w' := w.alloc (.cells (a.eval x).cells t)) (by simp [execOp, hop, Instr.box, newVar, newRow]) ?_
        have hv : ∀ g, owns (.pointer (some ⟨w.heap.size, 0, none⟩)) g → w.heap.size ≤ g := fun g hg => by simp [owns] at hg; omega
        have hm := fresh_mono (O := O) (lam := lam) (ob := .box T y) (below_alloc w (a.eval x).cells t) h1 hv
        exact hn _ _ _ (hR.fresh (below_alloc w _ t) h1 h2 hv ⟨w.heap.size, (a.eval x).cells, t, rfl, hR.base _ (Nat.le_refl _), heap_alloc_new w _, Rd_mono hm (RelV_cells hx)⟩ (fun _ => ref_ent)) (hbd (b := .box T y) h1 _) hm (fun h => by cases h)
      · contradiction
    · contradiction
  · -- buildSlice
    rename_i t n parts hop
    split at h
    · rename_i T e1 hT he
      split at h
      · rename_i l hl
        obtain ⟨hb, h⟩ := bif_some h
        simp only [pairE, Option.some.injEq, Prod.mk.injEq] at h
        obtain ⟨rfl, rfl⟩ := h
        obtain ⟨h1, h2⟩ := hfr _ rfl
        simp only [Bool.and_eq_true] at hb
        have hn1 : l.length = n := Nat.eq_of_beq_eq_true hb.1.1
        have hsz : l.length * T.size ≤ 2 ^ 24 := by have := Nat.le_of_ble_eq_true hb.1.2; omega
        have hpos : l.length ≤ maxLen := by have := Nat.le_of_ble_eq_true hb.2; simp only [maxLen]; omega
        subst hn1
        obtain ⟨u, hu, hTu⟩ := (hc.ok.ty _ _ hT).slice
        have hu' := hc.ok.el _ _ he
        rw [hu'] at hu
        simp only [Option.some.injEq, TypeDesc.slice.injEq] at hu
        subst hu
        have hl' : elems? T st 0 parts.toList = some l := by
          rw [← hl]; exact (elems_alike fun y _ => hent y).symm
        obtain ⟨cells, k1, k2⟩ := run_buildSlice hR hu' hTu hl' hsz
        refine upon_of_run (v := .slice (some ⟨w.heap.size, 0, none⟩) l.length l.length) (w' := w.alloc (.cells cells e1)) (by simp only [execOp, hop]; rw [Sem.run_bind, k1]; rfl) ?_
        have hv : ∀ g, owns (.slice (some ⟨w.heap.size, 0, none⟩) l.length l.length) g → w.heap.size ≤ g := fun g hg => by simp [owns] at hg; omega
        have hm := fresh_mono (O := O) (lam := lam) (ob := .arr e1 T l) (below_alloc w cells e1) h1 hv
        have hlen := RdL_len k2
        simp only [Array.length_toList] at hlen
        exact hn _ _ _ (hR.fresh (below_alloc w cells e1) h1 h2 hv ⟨cells.toList, ⟨own_new hlen hpos, fun g hg => by simp [owns] at hg; subst hg; exact hR.base _ (Nat.le_refl _)⟩, RdL_mono (fun _ _ => Rd_mono hm) k2⟩ (fun _ => arr_ent)) (hbd (b := .arr e1 T l) h1 _) hm (fun h => by cases h)
      · contradiction
    · contradiction
  · -- assign
    rename_i x hop
    split at h
    · rename_i T y hx
      simp only [pairE, Option.some.injEq, Prod.mk.injEq] at h
      obtain ⟨rfl, rfl⟩ := h
      have hx2 := entT_rel (cfg := cfg) hR o.type x
      have hxe : entT cfg o.type st x = .s (.val T y) := by rw [← hx]; exact (entT_alike o.type (hent x)).symm
      rw [hxe] at hx2
      refine upon_of_run (v := a.eval x) (w' := w) (by simp [execOp, hop]) ?_
      exact hn lam _ w (hR.put d hx2) (fun _ _ _ => rfl) (fun _ _ h => h) (fun _ => hx2)
    · contradiction
  · cases hI : isI cfg o { env := st.env, objs := base } with
    | true =>
      rw [hI] at h
      simp only [cond_true] at h
      unfold stepI at h
      split at h
      · rename_i g args at_ hop
        split at h
        · rename_i f cs hg0
          split at h
          · rename_i F hF
            split at h
            · rename_i e1 T hL hS
              obtain ⟨hnt, h⟩ := bif_some h
              obtain ⟨x, hx, h⟩ := Option.bind_eq_some_iff.1 h
              simp only [pairE, Option.some.injEq, Prod.mk.injEq] at h
              obtain ⟨rfl, rfl⟩ := h
              obtain ⟨h1, h2⟩ := hfr _ rfl
              have hgr := ent_rel hR g
              rw [hent] at hg0
              rw [hg0] at hgr
              obtain ⟨vs, hgv, hcs⟩ := hgr
              obtain ⟨hfn, hname⟩ := hc.ok.fns _ _ hF
              obtain ⟨b, hb⟩ := hc.body _ _ hF
              have hea : entA cfg { env := st.env, objs := base } F.params.toList args.toList = entA cfg st F.params.toList args.toList := entA_alike fun y _ => hent y
              rw [hea] at hL hx hnt
              have hsl := idents_none hL
              have hents : RelEsI (Cst (Full (Full O st.objs lam) [] lam) w) [] lam (entA cfg st F.params.toList args.toList ++ cs.map .s) (args.map a.eval ++ vs).toList := by
                rw [Array.toList_append, Array.toList_map]
                have hh := RelEsI_append (entA_rel (cfg := cfg) hR args.toList F.params.toList) (RelEsI_caps hcs)
                refine RelEsI_noslot (fun e' he' => ⟨hsl e' he', ?_⟩) (RelEsI_mono (Cst_mono (by
                  rintro q (q1 | ⟨s, o', q1, _⟩)
                  · exact q1
                  · simp [oget] at q1)) hh)
                rcases List.mem_append.1 he' with he' | he'
                · exact List.all_eq_true.1 hnt e' he'
                · obtain ⟨c, _, rfl⟩ := List.mem_map.1 he'; rfl
              have hcall := hc.icall f F _ [] _ x hF hx (Full O st.objs lam) w (args.map a.eval ++ vs) lam (fun g hg => ⟨hR.full_lt g hg, by rintro ⟨s, o', q1, _⟩; simp [oget] at q1⟩) ⟨fun s o' q => by simp [oget] at q, fun s s' o' o'' g q => by simp [oget] at q⟩ (hR.amb.mono (Cst_mono (by
                rintro q (q1 | ⟨s, o', q1, _⟩)
                · exact q1
                · simp [oget] at q1))) hents
              have hrun : (execOp a.eval o).run P w = .ok (.enter f (args.map a.eval ++ vs)) w := by
                simp only [execOp, hop, resolve, hgv, Deferred.ofValue, Sem.run_bind, Sem.run_pure, Result.andThen_ok, invoke]
                rw [Array.empty_append, run_callFunc hfn hname hb]
              unfold Oper.wp
              rw [hrun]
              refine Calls.mono hcall ?_
              rintro en w' ⟨v, lam', rfl, hbel, _, hm, hres⟩
              have hbel' : Below w.heap.size w w' := ⟨hbel.os, hbel.tape, hbel.output, hbel.size, fun k hk => hbel.block k hk (by
                rintro (⟨s, o', q1, _⟩ | q)
                · simp [oget] at q1
                · omega)⟩
              have hrow : oget (F.ntmps + 0) (outS F.ntmps ⟨.row e1 T, []⟩ x) = some (.arr e1 T x.1) := by simp [outS, oget_cons]
              have hrO := hm.obj _ _ hrow
              have hlv : lam' (F.ntmps + 0) = v := hres
              rw [hlv] at hrO
              have hv : ∀ g, owns v g → w.heap.size ≤ g := fun g hg => by
                rcases (RelO_N hrO g hg).1 with ⟨s, o', q1, _⟩ | q
                · simp [oget] at q1
                · exact q
              have hm2 := fresh_mono (O := O) (lam := lam) (ob := .arr e1 T x.1) hbel' h1 hv
              refine hn _ _ _ (hR.fresh hbel' h1 h2 hv ?_ (fun _ => arr_ent)) (hbd (b := .arr e1 T x.1) h1 _) hm2 (fun h => by cases h)
              refine RelO_base (fun g hg _ => hR.base g (hv g hg)) (RelO_mono (Cst_mono ?_) hrO)
              rintro g (q | ⟨s, o', q1, q2⟩)
              · exact .inl (.inl q)
              · rw [oget_cons] at q1
                by_cases hs : s = d
                · rw [upd, if_pos hs] at q2
                  exact .inr ⟨_, _, hrow, by rw [hlv]; exact q2⟩
                · rw [if_neg hs] at q1
                  rw [upd, if_neg hs] at q2
                  exact .inl (.inr ⟨s, o', q1, q2⟩)
            · contradiction
          · contradiction
        · contradiction
      · contradiction
    | false =>
      rw [hI] at h
      simp only [cond_false] at h
      obtain ⟨hE, h⟩ := bif_none h
      rw [opP_bind] at h
      obtain ⟨e0, h1, h2⟩ := Option.bind_eq_some_iff.1 h
      simp only [pairE, Option.some.injEq, Prod.mk.injEq] at h2
      obtain ⟨rfl, rfl⟩ := h2
      have hla : Alike { env := st.env, objs := base } { env := maskE D 0 st.env, objs := base } o.op.operands.toList := by
        refine alike_of (ops := ops) fun t ht => ?_
        simp only [eget_mask, Nat.zero_add, hD t ht]
        simp
      rw [opP_alike (o := o) (st := { env := st.env, objs := base }) (st' := { env := maskE D 0 st.env, objs := base }) rfl hla] at h1
      let O1 : Nat → Prop := fun g => O g ∨ ∃ s b, oget s st.objs = some b ∧ oget s base = none ∧ owns (lam s) g
      have hfull : ∀ g, Full O1 base lam g ↔ Full O st.objs lam g := by
        intro g
        constructor
        · rintro ((q | ⟨s, b, q1, _, q3⟩) | ⟨s, b, q1, q2⟩)
          · exact .inl q
          · exact .inr ⟨s, b, q1, q3⟩
          · exact .inr ⟨s, b, hsub s b q1, q2⟩
        · rintro (q | ⟨s, b, q1, q2⟩)
          · exact .inl (.inl q)
          · cases hbs : oget s base with
            | none => exact .inl (.inr ⟨s, b, q1, hbs, q2⟩)
            | some b' => exact .inr ⟨s, b', hbs, q2⟩
      have hC1 : ∀ x u, Cst (Full O st.objs lam) w x u → Cst (Full O1 base lam) w x u := Cst_mono fun g hg => (hfull g).1 hg
      have hRb : Rel O1 ⟨LentN base lam w, st.env.length, base, lam⟩ w { env := maskE D 0 st.env, objs := base } lam a.tmps w := by
        refine ⟨fun t => ?_, by simpa [length_mask] using hR.len, fun s b hs => RelO_base (fun g hg _ => .inl ⟨s, b, hs, hg⟩) (RelO_mono hC1 (hR.objs s b (hsub s b hs))), fun s s' b b' g q1 q2 => hR.apart s s' b b' g (hsub _ _ q1) (hsub _ _ q2), BelN.refl _ _, fun g hg => .inr hg,
          fun g hg => ⟨?_, hR.full_lt g ((hfull g).1 (.inl hg))⟩, hR.amb.mono hC1, by simp [length_mask], fun s b _ hs => ⟨b, hs, LamK_self (hR.objs s b (hsub s b hs)), sameK_refl b⟩⟩
        · simp only [eget_mask, Nat.zero_add]
          cases hDt : D t with
          | true => simp only [if_true]; trivial
          | false =>
            simp only [Bool.false_eq_true, if_false]
            exact RelEnt_id (fun e v he => RelE_weak hC1 (fun _ _ => rfl) he) (hbase t hDt)
        · rintro (⟨s, b, q1, q2⟩ | q)
          · have q3 := hsub s b q1
            rcases hg with q4 | ⟨s', b', q5, q6, q7⟩
            · exact (hR.out g q4).1 (RelO_N (hR.objs s b q3) g q2).1
            · have := hR.apart s s' b b' g q3 q5 q2 q7
              rw [← this, q1] at q6; cases q6
          · have := hR.full_lt g ((hfull g).1 (.inl hg)); omega
      have back : ∀ (w1 : World) (v : Value), RelEnt (Cst (Full O1 base lam) w1) base lam e0 v → RelEnt (Cst (Full O st.objs lam) w1) st.objs lam e0 v ∧ RelEnt (Cst (Full O st.objs lam) w1) base lam e0 v := by
        intro w1 v hv
        have hC2 : ∀ x u, Cst (Full O1 base lam) w1 x u → Cst (Full O st.objs lam) w1 x u := Cst_mono fun g hg => (hfull g).2 hg
        refine ⟨RelEnt_id (fun e v he => RelE_same hC2 (fun s _ b hs => ⟨b, hsub s b hs, LamK_self (hR.objs s b (hsub s b hs)), sameK_refl b, rfl⟩) he) hv, RelEnt_id (fun e v he => RelE_weak hC2 (fun _ _ => rfl) he) hv⟩
      rcases opP_sound hc.ok hc.call hc.body hRb h1 with ⟨e', v, w', hk, hrun, hv, hb⟩ | ⟨f, cargs, hrun, hcall⟩
      · simp only [Option.some.injEq] at hk
        subst hk
        refine upon_of_run hrun ?_
        obtain ⟨b1, b2⟩ := back w' v hv
        exact hn lam v w' ((hR.world hb).put d b1) (fun _ _ _ => rfl) (fun x u ⟨q1, q2⟩ => ⟨q1, by rw [look_eq (hb.block _ (look_lt q2))]; exact q2⟩) (fun _ => b2)
      · unfold Oper.wp
        rw [hrun]
        refine Calls.mono hcall ?_
        rintro en w' ⟨e', v, rfl, hk, hv, hb⟩
        simp only [Option.some.injEq] at hk
        subst hk
        obtain ⟨b1, b2⟩ := back w' v hv
        refine hn lam v w' ((hR.world hb).put d b1) (fun _ _ _ => rfl) (fun x u ⟨q1, q2⟩ => ⟨q1, by rw [look_eq (hb.block _ (look_lt q2))]; exact q2⟩) (fun _ => b2)

theorem Rel.prekillX (ops : List Oper) : ∀ {st : St}, Rel O B w0 st lam tm w → Rel O B w0 (prekillX ops st) lam tm w := by
  induction ops with
  | nil => exact fun h => h
  | cons o r ih =>
    intro st h
    unfold Ab.prekillX
    refine ih ?_
    split
    · split
      · exact h.kill _
      · exact h
    · exact h
/-! the whole region -/
theorem mem_bindE {o : Oper} {k : Nat} : k ∈ bindE o ↔ ∃ e ∈ o.after, Region.binds .any e = true ∧ e.on = k := by
  unfold bindE
  simp only [List.mem_map, List.mem_filter, Array.mem_toList_iff]
  exact ⟨fun ⟨e, ⟨h1, h2⟩, h3⟩ => ⟨e, h1, h2, h3⟩, fun ⟨e, h1, h2, h3⟩ => ⟨e, ⟨h1, h2⟩, h3⟩⟩
theorem ancs_get : ∀ (l : List Oper) (acc : List (List Nat)), (∀ i, i < acc.length → (ancs l acc).getD i [] = acc.getD i []) ∧
    ∀ i o, l[i]? = some o → ∀ j, j ∈ (ancs l acc).getD (acc.length + i) [] → j ∈ bindE o ∨ ∃ k ∈ bindE o, j ∈ (ancs l acc).getD k []
  | [], acc => ⟨fun i _ => rfl, fun i o h => by simp at h⟩
  | x :: r, acc => by
    obtain ⟨h1, h2⟩ := ancs_get r (acc ++ [bindE x ++ (bindE x).flatMap fun i => acc.getD i []])
    have hlen : (acc ++ [bindE x ++ (bindE x).flatMap fun i => acc.getD i []]).length = acc.length + 1 := by simp
    have hold : ∀ i, i < acc.length → (ancs (x :: r) acc).getD i [] = acc.getD i [] := fun i hi => by
      simp only [ancs]
      rw [h1 i (by omega)]
      simp [List.getD_eq_getElem?_getD, List.getElem?_append_left hi]
    refine ⟨hold, fun i o ho j hj => ?_⟩
    cases i with
    | zero =>
      simp at ho; subst ho
      simp only [ancs, Nat.add_zero] at hj
      rw [h1 acc.length (by omega)] at hj
      have e : (acc ++ [bindE x ++ (bindE x).flatMap fun i => acc.getD i []]).getD acc.length [] = bindE x ++ (bindE x).flatMap fun i => acc.getD i [] := by simp [List.getD_eq_getElem?_getD]
      rw [e] at hj
      rcases List.mem_append.1 hj with hj | hj
      · exact .inl hj
      · obtain ⟨k, hk, hjk⟩ := List.mem_flatMap.1 hj
        refine .inr ⟨k, hk, ?_⟩
        rcases Nat.lt_or_ge k acc.length with hlt | hge
        · rw [hold k hlt]; exact hjk
        · rw [List.getD_eq_getElem?_getD, List.getElem?_eq_none hge] at hjk; simp at hjk
    | succ i =>
      have := h2 i o (by simpa using ho) j (by rw [hlen]; simp only [ancs] at hj; rwa [show acc.length + 1 + i = acc.length + (i + 1) by omega])
      simpa only [ancs] using this
theorem mem_upto {n j : Nat} : j ∈ upto n ↔ j < n := by
  induction n with
  | zero => simp [upto]
  | succ n ih => simp only [upto, List.mem_append, ih, List.mem_singleton]; omega
theorem behind_at {acc : List (List Nat)} : ∀ {l : List Oper} {i : Nat}, behind acc i l = true → ∀ k, k < l.length → ∀ j, j < i + k → j ∈ acc.getD (i + k) []
  | [], i, _, k, hk, _, _ => by simp at hk
  | x :: r, i, h, k, hk, j, hj => by
    simp only [behind, Bool.and_eq_true] at h
    cases k with
    | zero => exact inL_iff.1 (List.all_eq_true.1 h.1 j (mem_upto.2 (by omega)))
    | succ k => have := behind_at h.2 k (by simpa using hk) j (by omega); rwa [show i + 1 + k = i + (k + 1) by omega] at this
structure XFacts (ops : Array Oper) (m : Nat) : Prop where
  dst : ∀ (i : Nat) (o : Oper), i < m → ops[i]? = some o → ∃ t, o.dst = some t ∧ t ∉ o.looksAt ops
  back : ∀ (i : Nat) (o : Oper), ops[i]? = some o → ∀ e ∈ o.after, Region.binds .any e = true → e.on < i
  ne : ∀ (i j : Nat) (a b : Oper), i < j → j < m → ops[i]? = some a → ops[j]? = some b → a.dst ≠ b.dst
  anti : ∀ (i j : Nat) (a b : Oper) (u : Nat), i < j → j < m → ops[i]? = some a → ops[j]? = some b → b.dst = some u → u ∉ a.looksAt ops
  data : ∀ (i j : Nat) (a b : Oper) (t : Nat), i < j → j < m → ops[i]? = some a → ops[j]? = some b → a.dst = some t → t ∈ b.looksAt ops → ∃ e ∈ b.after, e.on = i ∧ Region.binds .any e = true
  suf : ∀ (listed : Nat → Prop), (∀ j oj, ops[j]? = some oj → listed j → ∀ e ∈ oj.after, Region.binds .any e = true → listed e.on) → ∀ i o, m ≤ i → ops[i]? = some o → (∀ e ∈ o.after, Region.binds .any e = true → listed e.on) → ∀ j, j < i → listed j
  le : m ≤ ops.size
theorem drawOkX_facts {ops : Array Oper} {m : Nat} (h : drawOkX ops m = true) : XFacts ops m := by
  simp only [drawOkX, Bool.and_eq_true] at h
  obtain ⟨⟨⟨⟨hs, hd⟩, hb⟩, hbe⟩, hle⟩ := h
  have hle := Nat.le_of_ble_eq_true hle
  have htk : ∀ i, i < m → ∀ o, ops[i]? = some o → (ops.toList.take m)[i]? = some o := fun i hi o ho => by
    rw [List.getElem?_take, if_pos hi]; simpa using ho
  have key := fun i (hi : i < m) a (ho : ops[i]? = some a) => drawAll_at hd i a (htk i hi a ho)
  have pair : ∀ i j a b, i < j → j < m → ops[i]? = some a → ops[j]? = some b → drawPair ops i j a b = true := fun i j a b hij hj hi hjo => by
    have := (key i (by omega) a hi).2.2 j b hij (htk j hj b hjo); simpa using this
  have hback : ∀ (i : Nat) (o : Oper), ops[i]? = some o → ∀ e ∈ o.after, Region.binds .any e = true → e.on < i := by
    intro i o ho e he hbi
    have h1 : (o, i) ∈ ops.toList.zipIdx := by
      rw [List.mem_zipIdx_iff_getElem?]; simpa using ho
    have h2 := List.all_eq_true.1 hb _ h1
    have h3 := List.all_eq_true.1 h2 e.on (mem_bindE.2 ⟨e, he, hbi, rfl⟩)
    simpa [Nat.blt_eq] using h3
  refine ⟨fun i o hi ho => (key i hi o ho).1, hback, fun i j a b hij hj hi hjo he => ?_, fun i j a b u hij hj hi hjo hu hin => ?_, fun i j a b t hij hj hi hjo ht hin => ?_, fun listed hdown => ?_, hle⟩
  · have := pair i j a b hij hj hi hjo
    unfold drawPair at this
    split at this
    · rename_i t u h1 h2
      simp only [Bool.and_eq_true, Bool.not_eq_true'] at this
      rw [h1, h2] at he
      simp only [Option.some.injEq] at he
      subst he
      have := this.1.1.1
      simp at this
    · contradiction
  · have := pair i j a b hij hj hi hjo
    unfold drawPair at this
    split at this
    · rename_i t u' h1 h2
      rw [hu] at h2
      simp only [Option.some.injEq] at h2
      subst h2
      simp only [Bool.and_eq_true, Bool.not_eq_true'] at this
      have h3 := this.1.1.2
      rw [← Bool.not_eq_true] at h3
      exact h3 (inL_iff.2 hin)
    · contradiction
  · have := pair i j a b hij hj hi hjo
    unfold drawPair at this
    split at this
    · rename_i t' u h1 h2
      rw [ht] at h1
      simp only [Option.some.injEq] at h1
      subst h1
      simp only [Bool.and_eq_true, Bool.or_eq_true, Bool.not_eq_true'] at this
      rcases this.1.2 with h3 | h3
      · rw [← Bool.not_eq_true] at h3
        exact absurd (inL_iff.2 hin) h3
      · unfold edge at h3
        obtain ⟨e, he, h4⟩ := List.any_eq_true.1 h3
        simp only [Bool.and_eq_true] at h4
        exact ⟨e, by simpa using he, Nat.eq_of_beq_eq_true h4.1, h4.2⟩
    · contradiction
  · obtain ⟨_, hanc⟩ := ancs_get ops.toList []
    have reach : ∀ i o, ops[i]? = some o → (∀ e ∈ o.after, Region.binds .any e = true → listed e.on) → ∀ j, j ∈ (ancs ops.toList []).getD i [] → listed j := by
      intro i
      induction i using Nat.strongRecOn with
      | _ i ih =>
        intro o ho hed j hj
        have := hanc i o (by simpa using ho) j (by simpa using hj)
        rcases this with h1 | ⟨k, h1, h2⟩
        · obtain ⟨e, he, hbi, rfl⟩ := mem_bindE.1 h1
          exact hed e he hbi
        · obtain ⟨e, he, hbi, rfl⟩ := mem_bindE.1 h1
          have hlt := hback i o ho e he hbi
          have hi : i < ops.size := (Array.getElem?_eq_some_iff.1 ho).1
          have hk : ops[e.on]? = some ops[e.on] := by simp [show e.on < ops.size by omega]
          exact ih e.on hlt _ hk (fun e' he' hb' => hdown e.on _ hk (hed e he hbi) e' he' hb') j h2
    intro i o hi ho hed j hj
    refine reach i o ho hed j ?_
    have hi' : i < ops.size := (Array.getElem?_eq_some_iff.1 ho).1
    have := behind_at hbe (i - m) (by simp; omega) j (by omega)
    rwa [show m + (i - m) = i by omega] at this

/-- The entries, and the slots, when the operations of L (below m) have run. -/
structure ER (ops : Array Oper) (m : Nat) (E : Nat → Ent) (env0 : List Ent) (L : Nat → Prop) (env : List Ent) : Prop where
  len : env.length = env0.length
  yes : ∀ i o t, L i → i < m → ops[i]? = some o → o.dst = some t → t < env0.length → eget t env = E i
  no : ∀ t, (∀ i o, L i → i < m → ops[i]? = some o → o.dst ≠ some t) → eget t env = eget t env0
def OR (ops : Array Oper) (m : Nat) (Ob : Nat → Option Obj) (base : List (Nat × Obj)) (L : Nat → Prop) (objs : List (Nat × Obj)) : Prop :=
  ∀ s b, oget s objs = some b ↔ (oget s base = some b ∨ ∃ i o, L i ∧ i < m ∧ ops[i]? = some o ∧ o.dst = some s ∧ Ob i = some b)
theorem ER.next {ops : Array Oper} {m : Nat} (hf : XFacts ops m) {E : Nat → Ent} {env0 env : List Ent} {L L' : Nat → Prop} (h : ER ops m E env0 L env) {i : Nat} {o : Oper} {d : Nat} (hi : i < m) (ho : ops[i]? = some o) (hd : o.dst = some d)
    (hL : ∀ j, L' j ↔ (L j ∨ j = i)) : ER ops m E env0 L' (eset d (E i) env) := by
  refine ⟨by rw [length_eset, h.len], fun j oj t hj hjm hoj ht htl => ?_, fun t hno => ?_⟩
  · rw [eget_set]
    rcases (hL j).1 hj with hj | rfl
    · by_cases htd : t = d
      · subst htd
        rcases Nat.lt_trichotomy i j with hlt | rfl | hlt
        · exact absurd (hd.trans ht.symm) (hf.ne i j o oj hlt hjm ho hoj)
        · rw [if_pos ⟨rfl, by rw [h.len]; exact htl⟩]
        · exact absurd (ht.trans hd.symm) (hf.ne j i oj o hlt hi hoj ho)
      · rw [if_neg (fun hh => htd hh.1)]; exact h.yes j oj t hj hjm hoj ht htl
    · rw [ho] at hoj
      simp only [Option.some.injEq] at hoj
      subst hoj
      rw [hd] at ht
      simp only [Option.some.injEq] at ht
      subst ht
      rw [if_pos ⟨rfl, by rw [h.len]; exact htl⟩]
  · have htd : t ≠ d := fun e => hno i o ((hL i).2 (.inr rfl)) hi ho (by rw [hd, e])
    rw [eget_set, if_neg (fun hh => htd hh.1)]
    exact h.no t fun j oj hj hjm hoj => hno j oj ((hL j).2 (.inl hj)) hjm hoj
theorem ER.same {ops : Array Oper} {m : Nat} {E : Nat → Ent} {env0 env env' : List Ent} {L : Nat → Prop} (h : ER ops m E env0 L env) (h' : ER ops m E env0 L env') (t : Nat) : eget t env = eget t env' := by
  rcases Nat.lt_or_ge t env0.length with hlt | hge
  · by_cases hex : ∃ i o, L i ∧ i < m ∧ ops[i]? = some o ∧ o.dst = some t
    · obtain ⟨i, o, h1, h2, h3, h4⟩ := hex
      rw [h.yes i o t h1 h2 h3 h4 hlt, h'.yes i o t h1 h2 h3 h4 hlt]
    · have hno : ∀ i o, L i → i < m → ops[i]? = some o → o.dst ≠ some t := fun i o h1 h2 h3 h4 => hex ⟨i, o, h1, h2, h3, h4⟩
      rw [h.no t hno, h'.no t hno]
  · rw [eget_ge t _ (by rw [h.len]; exact hge), eget_ge t _ (by rw [h'.len]; exact hge)]
theorem getD_count {listed : Array Bool} {i n : Nat} (hil : i < listed.size) (hlt : i < n) (hli : listed.getD i false = false) :
    ((List.range n).filter fun j => (listed.setIfInBounds i true).getD j false).length = ((List.range n).filter fun j => listed.getD j false).length + 1 := by
  have hnd : (List.range n).Nodup := List.nodup_range
  have hmem : i ∈ List.range n := by simp [hlt]
  have gen : ∀ l : List Nat, l.Nodup → (l.filter fun j => (listed.setIfInBounds i true).getD j false).length = (l.filter fun j => listed.getD j false).length + (if i ∈ l then 1 else 0) := by
    intro l
    induction l with
    | nil => intro _; simp
    | cons x xs ihl =>
      intro hn
      obtain ⟨hx, hxs⟩ := List.nodup_cons.1 hn
      have ihl := ihl hxs
      by_cases hxi : x = i
      · subst hxi
        have e1 : (listed.setIfInBounds x true).getD x false = true := by simp [hil]
        rw [List.filter_cons_of_pos (p := fun j => (listed.setIfInBounds x true).getD j false) e1, List.filter_cons_of_neg (p := fun j => listed.getD j false) (by rw [hli]; simp)]
        simp only [List.length_cons, ihl, hx, if_false, List.mem_cons, true_or, if_true]
      · have e1 : (listed.setIfInBounds i true).getD x false = listed.getD x false := getD_set_ne false (fun e => hxi e.symm)
        have e2 : (i ∈ x :: xs) ↔ i ∈ xs := by simp [Ne.symm hxi]
        by_cases hb : listed.getD x false = true
        · rw [List.filter_cons_of_pos (p := fun j => (listed.setIfInBounds i true).getD j false) (by rw [e1]; exact hb), List.filter_cons_of_pos (p := fun j => listed.getD j false) hb]
          simp only [List.length_cons, ihl, e2]; omega
        · rw [List.filter_cons_of_neg (p := fun j => (listed.setIfInBounds i true).getD j false) (by rw [e1]; exact hb), List.filter_cons_of_neg (p := fun j => listed.getD j false) hb]
          simp only [ihl, e2]
  rw [gen _ hnd, if_pos hmem]
theorem getD_set_iff {listed : Array Bool} {i : Nat} (hil : i < listed.size) (j : Nat) : (listed.setIfInBounds i true).getD j false = true ↔ (listed.getD j false = true ∨ j = i) := by
  by_cases h : j = i
  · subst h; simp [hil]
  · rw [getD_set_ne false (Ne.symm h)]; simp [h]
open Classical in
theorem execOpsX_sound {call : Call0} (hc : CallsOk P cfg call) {id m : Nat} {ops : Array Oper} (hdr : drawOkX ops m = true) {K : St → Option α} {r : α} {Q : Exit → Act → World → Prop}
    (hQ : ∀ st' lam' a' w', K st' = some r → Rel O B w0 st' lam' a'.tmps w' → a'.defers = [] → Q .normal a' w')
    {a : Act} (h : execOpsX cfg call ops K m ops.toList st [] = some r) (hR : Rel O B w0 st lam a.tmps w) (hdf : a.defers = []) : (Code.region id ops true).wp P Q a w := by
  have hf := drawOkX_facts hdr
  obtain ⟨S, E, Ob, FR, T⟩ := execOpsX_trace _ _ _ _ h
  have hat : ∀ (i : Nat) (o : Oper), ops[i]? = some o → ops.toList[i]? = some o := fun i o hi => by simpa using hi
  have hop : ∀ i, i < m → ∃ o d, ops[i]? = some o ∧ o.dst = some d := fun i hi => by
    have hlt : i < ops.size := Nat.lt_of_lt_of_le hi hf.le
    obtain ⟨t, ht, _⟩ := hf.dst i ops[i] hi (by simp [hlt])
    exact ⟨ops[i], t, by simp [hlt], ht⟩
  -- the text's states
  have hS : ∀ i, i ≤ m → (S i).objs = st.objs ∧ ER ops m E st.env (fun j => j < i) (S i).env := by
    intro i
    induction i with
    | zero =>
      intro _; rw [T.s0]
      exact ⟨rfl, rfl, fun i o t hi => by omega, fun t _ => rfl⟩
    | succ i ih =>
      intro hi
      obtain ⟨o, d, ho, hd⟩ := hop i (by omega)
      obtain ⟨h1, h2⟩ := ih (by omega)
      rw [T.next i o (by omega) (hat i o ho), hd]
      exact ⟨h1, h2.next hf (by omega) ho hd fun j => by omega⟩
  have hfrm : ∀ i, i ≤ m → ∀ s b, (s, b) ∈ FR i ↔ ∃ j o, j < i ∧ ops[j]? = some o ∧ o.dst = some s ∧ Ob j = some b := by
    intro i
    induction i with
    | zero => intro _ s b; rw [T.f0]; simp
    | succ i ih =>
      intro hi s b
      obtain ⟨o, d, ho, hd⟩ := hop i (by omega)
      rw [T.fr i o (by omega) (hat i o ho)]
      cases hob : Ob i with
      | none =>
        simp only [frNext]
        rw [ih (by omega) s b]
        constructor
        · rintro ⟨j, o', h1, h2⟩; exact ⟨j, o', by omega, h2⟩
        · rintro ⟨j, o', h1, h2, h3, h4⟩
          rcases Nat.lt_or_ge j i with h5 | h5
          · exact ⟨j, o', h5, h2, h3, h4⟩
          · have : j = i := by omega
            subst this; rw [hob] at h4; cases h4
      | some b0 =>
        simp only [frNext, hd, List.mem_cons, Prod.mk.injEq]
        rw [ih (by omega) s b]
        constructor
        · rintro (⟨rfl, rfl⟩ | ⟨j, o', h1, h2⟩)
          · exact ⟨i, o, by omega, ho, hd, hob⟩
          · exact ⟨j, o', by omega, h2⟩
        · rintro ⟨j, o', h1, h2, h3, h4⟩
          rcases Nat.lt_or_ge j i with h5 | h5
          · exact .inr ⟨j, o', h5, h2, h3, h4⟩
          · have : j = i := by omega
            subst this
            rw [ho] at h2; simp only [Option.some.injEq] at h2; subst h2
            rw [hd] at h3; simp only [Option.some.injEq] at h3
            rw [hob] at h4; simp only [Option.some.injEq] at h4
            exact .inl ⟨h3.symm, h4.symm⟩
  have hfree : ∀ i o d b, i < m → ops[i]? = some o → o.dst = some d → Ob i = some b → oget d st.objs = none ∧ d < st.env.length := by
    intro i o d b hi ho hd hb
    obtain ⟨d', hd', hfo⟩ := T.fresh i o b hi (hat i o ho) hb
    rw [hd] at hd'; simp only [Option.some.injEq] at hd'; subst hd'
    simp only [freshOk, Bool.and_eq_true] at hfo
    obtain ⟨h1, h2⟩ := dfree_true hfo.1
    obtain ⟨h3, h4⟩ := hS i (by omega)
    rw [h3] at h1
    rw [h4.len] at h2
    exact ⟨h1, h2⟩
  -- what the state behind the operations ahead is
  have hOR : OR ops m Ob st.objs (fun j => j < m) (FR m ++ (S m).objs) := by
    intro s b
    rw [(hS m (Nat.le_refl _)).1, oget_append]
    have gen : ∀ (l : List (Nat × Obj)), (∀ s b b', (s, b) ∈ l → (s, b') ∈ l → b = b') → ∀ s b, oget s l = some b ↔ (s, b) ∈ l := by
      intro l
      induction l with
      | nil => intro _ s b; simp [oget]
      | cons p r ih =>
        intro hu s b
        obtain ⟨p1, p2⟩ := p
        rw [oget_cons]
        by_cases hs : s = p1
        · subst hs
          rw [if_pos rfl]
          constructor
          · intro hb; simp only [Option.some.injEq] at hb; subst hb; simp
          · intro hm; rw [hu s b p2 hm (by simp)]
        · rw [if_neg hs, ih (fun s b b' h1 h2 => hu s b b' (by simp [h1]) (by simp [h2])) s b]
          simp [hs]
    have hun : ∀ s b b', (s, b) ∈ FR m → (s, b') ∈ FR m → b = b' := by
      intro s b b' h1 h2
      obtain ⟨j, o, k1, k2, k3, k4⟩ := (hfrm m (Nat.le_refl _) s b).1 h1
      obtain ⟨j', o', k5, k6, k7, k8⟩ := (hfrm m (Nat.le_refl _) s b').1 h2
      rcases Nat.lt_trichotomy j j' with hlt | rfl | hlt
      · exact absurd (k3.trans k7.symm) (hf.ne j j' o o' hlt k5 k2 k6)
      · rw [k4] at k8; simpa using k8
      · exact absurd (k7.trans k3.symm) (hf.ne j' j o' o hlt k1 k6 k2)
    constructor
    · intro hb
      cases hg : oget s (FR m) with
      | none => rw [hg] at hb; simp only [Option.none_or] at hb; exact .inl hb
      | some b' =>
        rw [hg] at hb
        simp only [Option.some_or, Option.some.injEq] at hb
        subst hb
        obtain ⟨j, o, k1, k2⟩ := (hfrm m (Nat.le_refl _) s b').1 ((gen _ hun s b').1 hg)
        exact .inr ⟨j, o, k1, k1, k2⟩
    · rintro (hb | ⟨j, o, k1, _, k2, k3, k4⟩)
      · have hnone : oget s (FR m) = none := by
          cases hg : oget s (FR m) with
          | none => rfl
          | some b' =>
            obtain ⟨j, o, k1, k2, k3, k4⟩ := (hfrm m (Nat.le_refl _) s b').1 ((gen _ hun s b').1 hg)
            have := (hfree j o s b' k1 k2 k3 k4).1
            rw [hb] at this; cases this
        rw [hnone, hb]; rfl
      · rw [(gen _ hun s b).2 ((hfrm m (Nat.le_refl _) s b).2 ⟨j, o, k1, k2, k3, k4⟩)]; rfl
  have norm : ∀ (listed : Nat → Prop) (st' : St) (lam' : Nat → Value) (tm : Array Value) (w : World), (∀ j, j < m → listed j) → ER ops m E st.env listed st'.env → OR ops m Ob st.objs listed st'.objs → Rel O B w0 st' lam' tm w →
      Rel O B w0 { env := (S m).env, objs := FR m ++ (S m).objs } lam' tm w := by
    intro listed st' lam' tm w hall hE hO hR'
    have hE' : ER ops m E st.env (fun j => j < m) st'.env := ⟨hE.len, fun i o t _ h2 => hE.yes i o t (hall i h2) h2, fun t hno => hE.no t fun i o _ h2 => hno i o h2 h2⟩
    have hO' : ∀ s b, oget s (FR m ++ (S m).objs) = some b ↔ oget s st'.objs = some b := by
      intro s b
      rw [hOR s b, hO s b]
      constructor
      · rintro (h1 | ⟨i, o, h1, h2, h3⟩)
        · exact .inl h1
        · exact .inr ⟨i, o, hall i h2, h2, h3⟩
      · rintro (h1 | ⟨i, o, h1, h2, h3⟩)
        · exact .inl h1
        · exact .inr ⟨i, o, h2, h2, h3⟩
    refine hR'.weak (by rw [hE.len]; exact Nat.le_of_eq (hS m (Nat.le_refl _)).2.len) (fun s o hs => (hO' s o).1 hs) fun t ht => ?_
    rw [(hS m (Nat.le_refl _)).2.same hE' t]
    refine RelEnt_id (fun e v he => RelE_same (Cst_mono ?_) (fun s _ o hs => ⟨o, (hO' s o).2 hs, LamK_self (hR'.objs s o hs), sameK_refl o, rfl⟩) he) ht
    rintro g (h1 | ⟨s, o, h1, h2⟩)
    · exact .inl h1
    · exact .inr ⟨s, o, (hO' s o).1 h1, h2⟩
  have key : ∀ (fuel : Nat) (listed : Array Bool) (a : Act) (w : World) (st' : St) (lam' : Nat → Value), listed.size = ops.size → (∀ j oj, ops[j]? = some oj → listed.getD j false = true → ∀ e ∈ oj.after, Region.binds .any e = true → listed.getD e.on false = true) →
      (ops.size ≤ fuel + ((List.range ops.size).filter fun i => listed.getD i false).length) → a.defers = [] →
      (((∀ j, listed.getD j false = true → j < m) ∧ (∃ j, j < m ∧ listed.getD j false = false) ∧ ER ops m E st.env (fun j => listed.getD j false = true) st'.env ∧ OR ops m Ob st.objs (fun j => listed.getD j false = true) st'.objs ∧ Rel O B w0 st' lam' a.tmps w ∧
          ∀ t, (¬ ∃ i o b, listed.getD i false = true ∧ i < m ∧ ops[i]? = some o ∧ o.dst = some t ∧ Ob i = some b) → RelEnt (Cst (Full O st'.objs lam') w) st.objs lam' (eget t st'.env) (a.tmps.getD t undef)) ∨
        ∃ i, m ≤ i ∧ (∀ j, listed.getD j false = true ↔ j < i) ∧ execOps cfg call ops K (ops.toList.drop i) st' = some r ∧ Rel O B w0 st' lam' a.tmps w) →
      wpAny P .any ops Q fuel listed a w := by
    have final : ∀ (listed : Array Bool) (a : Act) (w : World) (st' : St) (lam' : Nat → Value), listed.size = ops.size → Region.ready .any ops listed = [] → a.defers = [] →
        ((∃ j, j < m ∧ listed.getD j false = false) ∨ ∃ i, m ≤ i ∧ (∀ j, listed.getD j false = true ↔ j < i) ∧ execOps cfg call ops K (ops.toList.drop i) st' = some r ∧ Rel O B w0 st' lam' a.tmps w) → Q .normal a w := by
      intro listed a w st' lam' hsz hrd hdf' hinv
      have hall : ∀ i, i < ops.size → listed.getD i false = true := by
        intro i
        induction i using Nat.strongRecOn with
        | _ i ih =>
          intro hi
          cases hli : listed.getD i false with
          | true => rfl
          | false =>
            exfalso
            have hmem : i ∈ Region.ready .any ops listed := by
              rw [mem_ready]
              refine ⟨by have : i < listed.size := by omega
                         simp [this] at hli ⊢; exact hli, ops[i], by simp [hi], fun e he hb => ?_⟩
              have hlt := hf.back i _ (by simp [hi]) e he hb
              exact ih e.on hlt (by omega)
            rw [hrd] at hmem; cases hmem
      rcases hinv with ⟨j, hj, hjl⟩ | ⟨i, hmi, hiff, hk, hR'⟩
      · have := hall j (Nat.lt_of_lt_of_le hj hf.le)
        rw [this] at hjl; cases hjl
      · have hge : ops.size ≤ i := by
          rcases Nat.lt_or_ge i ops.size with h1 | h1
          · have := (hiff i).1 (hall i h1); omega
          · exact h1
        rw [List.drop_eq_nil_of_le (by simpa using hge)] at hk
        exact hQ _ lam' a w hk hR' hdf'
    intro fuel
    induction fuel with
    | zero =>
      intro listed a w st' lam' hsz hdown hfu hdf' hinv
      have hrd : Region.ready .any ops listed = [] := by
        apply List.eq_nil_iff_forall_not_mem.2
        intro i hi
        obtain ⟨h1, o, h2, _⟩ := mem_ready.1 hi
        have hlt : i < ops.size := (Array.getElem?_eq_some_iff.1 h2).1
        have hli : listed.getD i false = false := by
          have : i < listed.size := by omega
          simp [this] at h1 ⊢; exact h1
        have hfl : ((List.range ops.size).filter fun i => listed.getD i false).length < (List.range ops.size).length := by
          rcases Nat.lt_or_ge ((List.range ops.size).filter fun i => listed.getD i false).length (List.range ops.size).length with h3 | h3
          · exact h3
          · have h4 := List.length_filter_le (fun i => listed.getD i false) (List.range ops.size)
            have h5 := List.length_filter_eq_length_iff.1 (Nat.le_antisymm h4 h3) i (by simp [hlt])
            simp only [hli] at h5; cases h5
        rw [List.length_range] at hfl
        omega
      exact ⟨hrd, final listed a w st' lam' hsz hrd hdf' (hinv.imp (fun h => h.2.1) (fun h => h))⟩
    | succ fuel ih =>
      intro listed a w st' lam' hsz hdown hfu hdf' hinv
      refine ⟨fun hrd => final listed a w st' lam' hsz hrd hdf' (hinv.imp (fun h => h.2.1) (fun h => h)), fun i hi => ?_⟩
      obtain ⟨h1, o, h2, h3⟩ := mem_ready.1 hi
      have hlt : i < ops.size := (Array.getElem?_eq_some_iff.1 h2).1
      have hil : i < listed.size := by omega
      have hli : listed.getD i false = false := by simp [hil] at h1 ⊢; exact h1
      have hdown' : ∀ j oj, ops[j]? = some oj → (listed.setIfInBounds i true).getD j false = true → ∀ e ∈ oj.after, Region.binds .any e = true → (listed.setIfInBounds i true).getD e.on false = true := by
        intro j oj hj hlj e he1 hb
        rcases (getD_set_iff hil j).1 hlj with h4 | rfl
        · exact getD_set_true (hdown j oj hj h4 e he1 hb)
        · rw [h2] at hj; simp only [Option.some.injEq] at hj; subst hj
          exact getD_set_true (h3 e he1 hb)
      have hfu' : ops.size ≤ fuel + ((List.range ops.size).filter fun j => (listed.setIfInBounds i true).getD j false).length := by
        rw [getD_count hil hlt hli]; omega
      have hsuf : m ≤ i → ∀ j, j < i → listed.getD j false = true := fun hmi => hf.suf (fun j => listed.getD j false = true) hdown i o hmi h2 h3
      rcases hinv with ⟨hlow, ⟨j0, hj0, hj0l⟩, hE, hO, hR', hb'⟩ | ⟨i0, hmi, hiff, hk, hR'⟩
      · -- ahead
        have him : i < m := by
          rcases Nat.lt_or_ge i m with h4 | h4
          · exact h4
          · have := hsuf h4 j0 (by omega); rw [this] at hj0l; cases hj0l
        obtain ⟨d, hd, hself⟩ := hf.dst i o him h2
        obtain ⟨hSo, hSe⟩ := hS i (by omega)
        have hlook : ∀ t, t ∈ o.looksAt ops → eget t (S i).env = eget t st'.env := by
          intro t ht
          rcases Nat.lt_or_ge t st.env.length with hl1 | hge
          · by_cases hex : ∃ (j : Nat) (o' : Oper), j < m ∧ ops[j]? = some o' ∧ o'.dst = some t
            · obtain ⟨j, o', hjm, h4, h5⟩ := hex
              rcases Nat.lt_trichotomy j i with h6 | rfl | h6
              · obtain ⟨e, he1, he2, he3⟩ := hf.data j i o' o t h6 him h4 h2 h5 ht
                have := h3 e he1 he3
                rw [he2] at this
                rw [hSe.yes j o' t h6 hjm h4 h5 hl1, hE.yes j o' t this hjm h4 h5 hl1]
              · rw [h2] at h4; simp only [Option.some.injEq] at h4; subst h4
                rw [hd] at h5; simp only [Option.some.injEq] at h5; subst h5
                exact absurd ht hself
              · exact absurd ht (hf.anti i j o o' t h6 hjm h2 h4 h5)
            · have hno : ∀ (L : Nat → Prop) i o, L i → i < m → ops[i]? = some o → o.dst ≠ some t := fun L i o _ h5 h6 h7 => hex ⟨i, o, h5, h6, h7⟩
              rw [hSe.no t (hno _), hE.no t (hno _)]
          · rw [eget_ge t _ (by rw [hSe.len]; exact hge), eget_ge t _ (by rw [hE.len]; exact hge)]
        -- the next state
        have next : ∀ (lam2 : Nat → Value) (v : Value) (w' : World), Rel O B w0 (addX st' d (E i) (Ob i)) lam2 (a.tmps.setIfInBounds d v) w' → (∀ s b, oget s st.objs = some b → lam2 s = lam' s) →
            (∀ x u, Cst (Full O st'.objs lam') w x u → Cst (Full O (addX st' d (E i) (Ob i)).objs lam2) w' x u) → (Ob i = none → RelEnt (Cst (Full O (addX st' d (E i) (Ob i)).objs lam2) w') st.objs lam2 (E i) v) →
            wpAny P .any ops Q fuel (listed.setIfInBounds i true) (a.put o.dst v) w' := by
          intro lam2 v w' hR2 hlam hmono hev
          have hputt : (a.put o.dst v).tmps = a.tmps.setIfInBounds d v := by rw [hd]; rfl
          have hdf2 : (a.put o.dst v).defers = [] := by rw [hd]; exact hdf'
          have hE2 : ER ops m E st.env (fun j => (listed.setIfInBounds i true).getD j false = true) (addX st' d (E i) (Ob i)).env := by
            have := hE.next hf him h2 hd (L' := fun j => (listed.setIfInBounds i true).getD j false = true) (fun j => getD_set_iff hil j)
            cases hob : Ob i <;> exact this
          have hO2 : OR ops m Ob st.objs (fun j => (listed.setIfInBounds i true).getD j false = true) (addX st' d (E i) (Ob i)).objs := by
            intro s b
            cases hob : Ob i with
            | none =>
              show oget s st'.objs = some b ↔ _
              rw [hO s b]
              constructor
              · rintro (q | ⟨j, oj, q1, q2⟩)
                · exact .inl q
                · exact .inr ⟨j, oj, (getD_set_iff hil j).2 (.inl q1), q2⟩
              · rintro (q | ⟨j, oj, q1, q2, q3, q4, q5⟩)
                · exact .inl q
                · rcases (getD_set_iff hil j).1 q1 with q6 | rfl
                  · exact .inr ⟨j, oj, q6, q2, q3, q4, q5⟩
                  · rw [hob] at q5; cases q5
            | some b0 =>
              show oget s ((d, b0) :: st'.objs) = some b ↔ _
              rw [oget_cons]
              by_cases hs : s = d
              · subst hs
                rw [if_pos rfl]
                constructor
                · intro q; simp only [Option.some.injEq] at q; subst q
                  exact .inr ⟨i, o, (getD_set_iff hil i).2 (.inr rfl), him, h2, hd, hob⟩
                · rintro (q | ⟨j, oj, q1, q2, q3, q4, q5⟩)
                  · rw [(hfree i o s b0 him h2 hd hob).1] at q; cases q
                  · rcases Nat.lt_trichotomy i j with h6 | rfl | h6
                    · exact absurd (hd.trans q4.symm) (hf.ne i j o oj h6 q2 h2 q3)
                    · rw [hob] at q5; exact q5
                    · exact absurd (q4.trans hd.symm) (hf.ne j i oj o h6 him q3 h2)
              · rw [if_neg hs, hO s b]
                constructor
                · rintro (q | ⟨j, oj, q1, q2⟩)
                  · exact .inl q
                  · exact .inr ⟨j, oj, (getD_set_iff hil j).2 (.inl q1), q2⟩
                · rintro (q | ⟨j, oj, q1, q2, q3, q4, q5⟩)
                  · exact .inl q
                  · rcases (getD_set_iff hil j).1 q1 with q6 | rfl
                    · exact .inr ⟨j, oj, q6, q2, q3, q4, q5⟩
                    · rw [h2] at q3; simp only [Option.some.injEq] at q3; subst q3
                      rw [hd] at q4; simp only [Option.some.injEq] at q4
                      exact absurd q4.symm hs
          by_cases hallm : ∀ j, j < m → (listed.setIfInBounds i true).getD j false = true
          · refine ih _ _ w' { env := (S m).env, objs := FR m ++ (S m).objs } lam2 (by simpa using hsz) hdown' hfu' hdf2 (.inr ⟨m, Nat.le_refl _, fun j => ⟨fun hj => ?_, hallm j⟩, T.last, norm _ _ lam2 _ w' hallm hE2 hO2 (by rw [hputt]; exact hR2)⟩)
            rcases (getD_set_iff hil j).1 hj with h4 | rfl
            · exact hlow j h4
            · exact him
          · obtain ⟨j1, hj1⟩ := Classical.not_forall.1 hallm
            obtain ⟨hj1m, hj1l⟩ := Classical.not_imp.1 hj1
            refine ih _ _ w' (addX st' d (E i) (Ob i)) lam2 (by simpa using hsz) hdown' hfu' hdf2 (.inl ⟨fun j hj => ?_, ⟨j1, hj1m, by simpa using hj1l⟩, hE2, hO2, by rw [hputt]; exact hR2, fun t ht => ?_⟩)
            · rcases (getD_set_iff hil j).1 hj with h4 | rfl
              · exact hlow j h4
              · exact him
            · rw [hputt]
              by_cases htd : t = d
              · subst htd
                cases hob : Ob i with
                | some b0 => exact absurd ⟨i, o, b0, (getD_set_iff hil i).2 (.inr rfl), him, h2, hd, hob⟩ ht
                | none =>
                  have hev' := hev hob
                  rw [hob] at hev'
                  show RelEnt _ _ _ (eget t (eset t (E i) st'.env)) _
                  rw [eget_set]
                  by_cases htl : t < st'.env.length
                  · rw [if_pos ⟨rfl, htl⟩]
                    have : t < a.tmps.size := Nat.lt_of_lt_of_le htl hR'.len
                    simp [this]; exact hev'
                  · rw [if_neg (fun hh => htl hh.2), eget_ge t _ (Nat.le_of_not_lt htl)]; trivial
              · have h4 : eget t (addX st' d (E i) (Ob i)).env = eget t st'.env := by
                  cases Ob i <;> (show eget t (eset d (E i) st'.env) = _; rw [eget_set, if_neg (fun hh => htd hh.1)])
                rw [h4]
                have h5 := hb' t (fun ⟨j, oj, b, q1, q2⟩ => ht ⟨j, oj, b, (getD_set_iff hil j).2 (.inl q1), q2⟩)
                have h6 : RelEnt (Cst (Full O (addX st' d (E i) (Ob i)).objs lam2) w') st.objs lam2 (eget t st'.env) (a.tmps.getD t undef) :=
                  RelEnt_id (fun e v he => RelE_same hmono (fun s _ b hs => ⟨b, hs, by rw [hlam s b hs]; exact LamK_self (hR'.objs s b ((hO s b).2 (.inl hs))), sameK_refl b, rfl⟩) he) h5
                simpa [Array.getElem?_setIfInBounds_ne (Ne.symm htd)] using h6
        unfold wpOp
        simp only [h2]
        rcases T.out i o him (hat i o h2) with ⟨hg, hrun⟩ | ⟨hg, hsk, hno⟩
        · have hg' : gd ops o st' = some true := by rw [← gd_alike hlook]; exact hg
          rw [gd_wanted hR' hg']
          simp only [if_true]
          left
          have hrun' : stepX cfg call o { env := st'.env, objs := st.objs } pairE = some (E i, Ob i) := by
            rw [← stepX_alike (o := o) (st := S i) (st' := { env := st'.env, objs := st.objs }) hSo (alike_of (ops := ops) hlook)]; exact hrun
          refine stepX_wp hc (ops := ops) hR' (fun s b hs => (hO s b).2 (.inl hs)) (D := fun t => decide (∃ i o b, listed.getD i false = true ∧ i < m ∧ ops[i]? = some o ∧ o.dst = some t ∧ Ob i = some b)) (fun t ht => hb' t (of_decide_eq_false ht)) (fun t ht => decide_eq_false ?_) hd hrun' (fun b hb => ?_) next
          · rintro ⟨j, oj, b, q1, q2, q3, q4, q5⟩
            rcases Nat.lt_trichotomy j i with h6 | rfl | h6
            · exact T.look i o him (hat i o h2) (t, b) ((hfrm i (by omega) t b).2 ⟨j, oj, h6, q3, q4, q5⟩) ht
            · rw [hli] at q1; cases q1
            · exact hf.anti i j o oj t h6 q2 h2 q3 q4 ht
          · obtain ⟨q1, q2⟩ := hfree i o d b him h2 hd hb
            refine ⟨?_, by rw [hE.len]; exact q2⟩
            cases hq : oget d st'.objs with
            | none => rfl
            | some b' =>
              rcases (hO d b').1 hq with q3 | ⟨j, oj, q3, q4, q5, q6, q7⟩
              · rw [q1] at q3; cases q3
              · rcases Nat.lt_trichotomy i j with h6 | rfl | h6
                · exact absurd (hd.trans q6.symm) (hf.ne i j o oj h6 q4 h2 q5)
                · rw [hli] at q3; cases q3
                · exact absurd (q6.trans hd.symm) (hf.ne j i oj o h6 him q5 h2)
        · have hg' : gd ops o st' = some false := by rw [← gd_alike hlook]; exact hg
          rw [gd_wanted hR' hg']
          simp only [Bool.false_eq_true, if_false]
          refine next lam' undef w ?_ (fun _ _ _ => rfl) (fun x u hx => ?_) (fun _ => ?_)
          · rw [hsk, hno]; exact hR'.put d rfl
          · rw [hno]; exact hx
          · rw [hsk]; rfl
      · -- behind
        have hii : i = i0 := by
          have h4 : i0 ≤ i := by
            rcases Nat.lt_or_ge i i0 with h5 | h5
            · rw [(hiff i).2 h5] at hli; cases hli
            · exact h5
          rcases Nat.lt_or_ge i0 i with h5 | h5
          · have := (hiff i0).1 (hsuf (by omega) i0 h5); omega
          · omega
        subst hii
        have hdrop : ops.toList.drop i = o :: ops.toList.drop (i + 1) := by
          rw [List.drop_eq_getElem_cons (by simpa using hlt)]
          have : ops.toList[i]'(by simpa using hlt) = o := by
            have := hat i o h2
            rw [List.getElem?_eq_getElem (by simpa using hlt)] at this
            simpa using this
          rw [this]
        rw [hdrop] at hk
        simp only [execOps] at hk
        have nextB : ∀ (st2 : St) (lam2 : Nat → Value) (a2 : Act) (w2 : World), execOps cfg call ops K (ops.toList.drop (i + 1)) st2 = some r → Rel O B w0 st2 lam2 a2.tmps w2 → a2.defers = [] → wpAny P .any ops Q fuel (listed.setIfInBounds i true) a2 w2 := by
          intro st2 lam2 a2 w2 hk2 hR2 hd2
          refine ih _ a2 w2 st2 lam2 (by simpa using hsz) hdown' hfu' hd2 (.inr ⟨i + 1, by omega, fun j => ?_, hk2, hR2⟩)
          rw [getD_set_iff hil j, hiff j]; omega
        unfold wpOp
        simp only [h2]
        rcases guardC_gd hk with ⟨hg, hk⟩ | ⟨hg, hk⟩
        · rw [gd_wanted hR' hg]
          simp only [if_true]
          left
          exact opC_sound hc hR' hk fun st2 lam2 a2 w2 hk2 hR2 hd2 => nextB st2 lam2 a2 w2 hk2 hR2 (hd2.trans hdf')
        · rw [gd_wanted hR' hg]
          simp only [Bool.false_eq_true, if_false]
          refine nextB _ lam' _ w hk ?_ (by cases o.dst <;> exact hdf')
          cases hd : o.dst with
          | none => exact hR'
          | some d => exact hR'.put d rfl
  have hno0 : ∀ j, (Array.replicate ops.size false).getD j false = false := by
    intro j
    rcases Nat.lt_or_ge j ops.size with h1 | h1 <;> simp [h1]
  have hR0 : Rel O B w0 st lam a.tmps { w with drawn := w.drawn + 1 } := hR.world ⟨rfl, rfl, rfl, Nat.le_refl _, fun _ _ => rfl⟩
  have hE0 : ER ops m E st.env (fun j => (Array.replicate ops.size false).getD j false = true) st.env := ⟨rfl, (fun i o t hi => by rw [hno0] at hi; cases hi), fun t _ => rfl⟩
  have hO0 : OR ops m Ob st.objs (fun j => (Array.replicate ops.size false).getD j false = true) st.objs := fun s b => ⟨.inl, by
    rintro (q | ⟨j, oj, q1, _⟩)
    · exact q
    · rw [hno0] at q1; cases q1⟩
  refine wp_region_any hc.ok.mixed ?_
  by_cases hm0 : m = 0
  · subst hm0
    refine key ops.size _ a _ { env := (S 0).env, objs := FR 0 ++ (S 0).objs } lam (by simp) (fun j oj _ hlj => by rw [hno0] at hlj; cases hlj) (by omega) hdf (.inr ⟨0, Nat.le_refl _, fun j => ⟨(fun hj => by rw [hno0] at hj; cases hj), fun hj => by omega⟩, T.last, ?_⟩)
    rw [T.s0, T.f0]; exact hR0
  · exact key ops.size _ a _ st lam (by simp) (fun j oj _ hlj => by rw [hno0] at hlj; cases hlj) (by omega) hdf (.inl ⟨(fun j hj => by rw [hno0] at hj; cases hj), ⟨0, by omega, hno0 0⟩, hE0, hO0, hR0, fun t _ => hR0.env t⟩)
end
end Go.Proofs.YtlcphnmkkilefaaDoor.Ab
