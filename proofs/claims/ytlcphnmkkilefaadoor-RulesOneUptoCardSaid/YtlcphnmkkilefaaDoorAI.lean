/- The abstract interpreter, calls by reference: what a callee that is lent slots does to its caller's. -/
import Derived.Test.YtlcphnmkkilefaaDoorA7
set_option linter.unusedVariables false
set_option linter.unusedSimpArgs false
namespace Go.Proofs.YtlcphnmkkilefaaDoor.Ab
open Go Go.RowKit

def bN (N : Nat → Prop) : Base := ⟨N, 0, [], fun _ => undef⟩
theorem RelO_base {C : Cells} {w : World} {B B' : Base} {v : Value} {o : Obj} (hN : ∀ g, owns v g → B.N g → B'.N g) (h : RelO C w B v o) : RelO C w B' v o := by
  cases o with
  | box T x => obtain ⟨g, c, e, h1, h2, h3⟩ := h; exact ⟨g, c, e, h1, hN g (by rw [h1]; rfl) h2, h3⟩
  | arr e T l => obtain ⟨xs, ⟨h1, h2⟩, h3⟩ := h; exact ⟨xs, ⟨h1, fun g hg => hN g hg (h2 g hg)⟩, h3⟩
  | obj k T x => obtain ⟨vs, h1, h2, h3⟩ := h; exact ⟨vs, h1, h2, fun g hg => ⟨hN g hg (h3 g hg).1, (h3 g hg).2⟩⟩
theorem RelO_N {C : Cells} {w : World} {B : Base} {v : Value} {o : Obj} (h : RelO C w B v o) : ∀ g, owns v g → B.N g ∧ g < w.heap.size := by
  intro g hg
  cases o with
  | box T x =>
    obtain ⟨g', c, e, h1, h2, h3, _⟩ := h
    rw [h1] at hg; simp [owns] at hg; subst hg
    exact ⟨h2, (Array.getElem?_eq_some_iff.1 h3).1⟩
  | arr e T l =>
    obtain ⟨xs, ⟨h1, h2⟩, h3⟩ := h
    refine ⟨h2 g hg, ?_⟩
    rcases h1.2 with ⟨hv, _⟩ | ⟨g', cap, cur, hv, _, hh, _⟩ <;> rw [hv] at hg <;> simp [owns] at hg
    subst hg
    exact (Array.getElem?_eq_some_iff.1 hh).1
  | obj k T x => obtain ⟨vs, h1, h2, h3⟩ := h; exact h3 g hg
theorem LamK_self {C : Cells} {w : World} {B : Base} {v : Value} {o : Obj} (h : RelO C w B v o) : LamK o v v := by
  cases o with
  | box T x => exact rfl
  | arr e T l => exact rfl
  | obj k T x => obtain ⟨vs, h1, _⟩ := h; exact ⟨vs, vs, h1, h1, rfl⟩
theorem RelO_len {C : Cells} {w : World} {B : Base} {v : Value} {e : TypeId} {T : Ty} {l : List (den T)} (h : RelO C w B v (.arr e T l)) : ∃ A c, v = .slice A l.length c := by
  obtain ⟨xs, _, _, hc⟩ := row_head h
  rcases hc with ⟨hv, rfl⟩ | ⟨g, cap, cur, hv, _⟩
  · exact ⟨none, 0, hv⟩
  · exact ⟨_, _, hv⟩
theorem RelO_kept {C C' : Cells} {w w' : World} {B : Base} {N' : Nat → Prop} {v : Value} {o : Obj} (h : RelO C w B v o) (hC : ∀ a u, C a u → C' a u) (hb : BelN N' w w') (hn : ∀ g, owns v g → ¬ N' g) : RelO C' w' B v o := by
  have hlt := RelO_N h
  cases o with
  | box T x =>
    obtain ⟨g, c, e, h1, h2, h3, h4⟩ := h
    have hg : owns v g := by rw [h1]; rfl
    exact ⟨g, c, e, h1, h2, by rw [hb.block g (hlt g hg).2 (hn g hg)]; exact h3, Rd_mono hC h4⟩
  | arr e T l =>
    obtain ⟨xs, ⟨h1, h2⟩, h3⟩ := h
    refine ⟨xs, ⟨⟨h1.1, ?_⟩, h2⟩, RdL_mono (fun _ _ => Rd_mono hC) h3⟩
    rcases h1.2 with hv | ⟨g, cap, cur, hv, h0, hh, r⟩
    · exact .inl hv
    · have hg : owns v g := by rw [hv]; rfl
      exact .inr ⟨g, cap, cur, hv, h0, by rw [hb.block g (hlt g hg).2 (hn g hg)]; exact hh, r⟩
  | obj k T x =>
    obtain ⟨vs, h1, h2, h3⟩ := h
    refine ⟨vs, h1, RepK_keep hC (fun g hg => ?_) h2, fun g hg => ⟨(h3 g hg).1, Nat.lt_of_lt_of_le (h3 g hg).2 hb.size⟩⟩
    have hg' : owns v g := by rw [h1]; exact hg
    exact hb.block g (h3 g hg').2 (hn g hg')

structure MemOk (O N : Nat → Prop) (w : World) (objs : List (Nat × Obj)) (lam : Nat → Value) : Prop where
  obj : ∀ s o, oget s objs = some o → RelO (Cst (Full O objs lam) w) w (bN N) (lam s) o
  apart : ∀ s s' o o' g, oget s objs = some o → oget s' objs = some o' → owns (lam s) g → owns (lam s') g → s = s'
def RelEsI (C : Cells) (objs : List (Nat × Obj)) (lam : Nat → Value) : List Ent → List Value → Prop
  | [], vs => vs = []
  | e :: es, vs => ∃ v r, vs = v :: r ∧ RelEnt C objs lam e v ∧ RelEsI C objs lam es r
def outK : Nat → (ks : List LentK) → denKs ks → List (Nat × Obj)
  | _, [], _ => []
  | n, .dead :: ks, x => outK (n + 1) ks x.2
  | n, .box T :: ks, x => (n, .box T x.1) :: outK (n + 1) ks x.2
  | n, .arr e T :: ks, x => (n, .arr e T x.1) :: outK (n + 1) ks x.2
  | n, .obj k T :: ks, x => (n, .obj k T x.1) :: outK (n + 1) ks x.2
def outS (nt : Nat) : (S : Sig) → denS S → List (Nat × Obj)
  | ⟨.vals _, ks⟩, x => outK nt ks x.2
  | ⟨.row e T, ks⟩, x => (nt + ks.length, .arr e T x.1) :: outK nt ks x.2
  | ⟨.rowv e T A, ks⟩, x => (nt + ks.length, .arr e T x.1.1) :: outK nt ks x.2
  | ⟨.newobj k T, ks⟩, x => (nt + ks.length, .obj k T x.1) :: outK nt ks x.2
def ResOk (C : Cells) (objs : List (Nat × Obj)) (lam : Nat → Value) (nt : Nat) : (S : Sig) → denS S → Value → Prop
  | ⟨.vals R, _⟩, x, v => RelEnt C objs lam (resE R x.1) v
  | ⟨.row _ _, ks⟩, _, v => lam (nt + ks.length) = v
  | ⟨.rowv _ _ A, ks⟩, x, v => ∃ vr u, v = .tuple #[vr, u] ∧ lam (nt + ks.length) = vr ∧ RelV C A x.1.2 u
  | ⟨.newobj _ _, ks⟩, _, v => ∃ vs ad, lam (nt + ks.length) = .tuple vs ∧ vs.toList.head? = some (.pointer (some ad)) ∧ v = .pointer (some ad)
def LentN (objs : List (Nat × Obj)) (lam : Nat → Value) (w : World) (g : Nat) : Prop := Owned objs lam g ∨ w.heap.size ≤ g
/-- What a call by reference of the abstract interpreter says of the machine's. -/
def ICallOk (P : Program) (nt : Nat) (f : FuncId) (args : List Ent) (objs : List (Nat × Obj)) (S : Sig) (x : denS S) : Prop :=
  ∀ (O : Nat → Prop) (w : World) (cargs : Array Value) (lam : Nat → Value), (∀ g, O g → g < w.heap.size ∧ ¬ Owned objs lam g) → MemOk O (LentN objs lam w) w objs lam → AmbOk (Cst (Full O objs lam) w) →
    RelEsI (Cst (Full O objs lam) w) objs lam args cargs.toList →
    Calls P f cargs w fun e w' => ∃ v lam', e = .returned v ∧ BelN (LentN objs lam w) w w' ∧ (∀ s o, oget s (outS nt S x) = some o → nt ≤ s → s < nt + S.lent.length → LamK o (lam s) (lam' s)) ∧
      MemOk O (LentN objs lam w) w' (outS nt S x) lam' ∧ ResOk (Cst (Full O (outS nt S x) lam') w') (outS nt S x) lam' nt S x v

section
variable {P : Program} {cfg : Cfg} {O : Nat → Prop} {B : Base} {w0 w w' : World} {st st1 : St} {lam lam1 : Nat → Value} {tm tm1 : Array Value} {C : Cells} {α : Type}

/-- Behind a change of what the slots own alone. -/
theorem Rel.after (h : Rel O B w0 st lam tm w) {N' : Nat → Prop} (hb : BelN N' w w') (hN' : ∀ g, g < w.heap.size → N' g → B.N g ∧ Full O st.objs lam g)
    (hF : ∀ g, g < w.heap.size → Full O st1.objs lam1 g → Full O st.objs lam g)
    (hobj : (∀ a u, Cst (Full O st.objs lam) w a u → Cst (Full O st1.objs lam1) w' a u) → ∀ s o, oget s st1.objs = some o → (oget s st.objs = some o ∧ lam1 s = lam s ∧ ∀ g, owns (lam s) g → ¬ N' g) ∨ RelO (Cst (Full O st1.objs lam1) w') w' B (lam1 s) o)
    (hap : ∀ s s' o o' g, oget s st1.objs = some o → oget s' st1.objs = some o' → owns (lam1 s) g → owns (lam1 s') g → s = s') (hlen : st1.env.length ≤ tm1.size)
    (hstay : st1.env.length ≤ B.nt ∧ ∀ s o, B.nt ≤ s → oget s st1.objs = some o → ∃ o0, oget s B.objs = some o0 ∧ LamK o (B.lam s) (lam1 s) ∧ sameK o0 o)
    (henv : (∀ a u, Cst (Full O st.objs lam) w a u → Cst (Full O st1.objs lam1) w' a u) → ∀ t, RelEnt (Cst (Full O st1.objs lam1) w') st1.objs lam1 (eget t st1.env) (tm1.getD t undef)) : Rel O B w0 st1 lam1 tm1 w' := by
  have hC : ∀ a u, Cst (Full O st.objs lam) w a u → Cst (Full O st1.objs lam1) w' a u := by
    rintro a u ⟨h1, h2⟩
    have hlt := look_lt h2
    refine ⟨fun h3 => h1 (hF _ hlt h3), ?_⟩
    rw [look_eq (hb.block _ hlt fun hn => h1 (hN' _ hlt hn).2)]; exact h2
  refine ⟨henv hC, hlen, fun s o hs => ?_, hap, h.below.trans hb fun g hg hn => (hN' g hg hn).1, fun g hg => h.base g (Nat.le_trans hb.size hg), fun g hg => ⟨(h.out g hg).1, Nat.lt_of_lt_of_le (h.out g hg).2 hb.size⟩, h.amb.mono hC, hstay⟩
  rcases hobj hC s o hs with ⟨h1, h2, h3⟩ | h1
  · rw [h2]; exact RelO_kept (h.objs s o h1) hC hb h3
  · exact h1

/-! lists of slots -/
theorem has_iff {L : List Nat} {s : Nat} : has L s = true ↔ s ∈ L := by
  simp only [has, List.any_eq_true]
  exact ⟨fun ⟨m, h1, h2⟩ => Nat.eq_of_beq_eq_true h2 ▸ h1, fun h => ⟨s, h, by simp⟩⟩
theorem has_no {L : List Nat} {s : Nat} : has L s = false ↔ s ∉ L := by
  rw [← has_iff]; simp
theorem oget_append (s : Nat) : ∀ a b : List (Nat × Obj), oget s (a ++ b) = (oget s a).or (oget s b) := by
  intro a b
  induction a with
  | nil => simp [oget]
  | cons p r ih => simp only [List.cons_append, oget]; cases Nat.beq p.1 s <;> simp [ih]
theorem oget_delL (s : Nat) (L : List Nat) : ∀ l : List (Nat × Obj), oget s (delL L l) = if s ∈ L then none else oget s l := by
  intro l
  induction l with
  | nil => simp [delL, oget]
  | cons p r ih =>
    simp only [delL]
    cases h : has L p.1 with
    | true =>
      have hm := has_iff.1 h
      simp only [cond_true, ih]
      by_cases hs : s ∈ L
      · simp [hs]
      · have : p.1 ≠ s := fun e => hs (e ▸ hm)
        simp [hs, oget, beq_no this]
    | false =>
      have hm := has_no.1 h
      simp only [cond_false, oget, ih]
      by_cases hp : p.1 = s
      · subst hp; simp [hm]
      · simp [beq_no hp]
theorem idx_get {s : Nat} : ∀ {L : List Nat} {k : Nat}, idx s L = some k → L[k]? = some s
  | [], _, h => by simp [idx] at h
  | t :: r, k, h => by
    simp only [idx] at h
    cases hb : Nat.beq t s with
    | true => rw [hb] at h; simp at h; subst h; simp [Nat.eq_of_beq_eq_true hb]
    | false =>
      rw [hb] at h
      simp only [cond_false, Option.map_eq_some_iff] at h
      obtain ⟨k', h1, rfl⟩ := h
      simpa using idx_get h1
theorem lentO_get {objs : List (Nat × Obj)} : ∀ {L : List Nat} {n : Nat} {ob : List (Nat × Obj)}, lentO objs n L = some ob →
    (∀ k t, L[k]? = some t → ∃ o, oget t objs = some o ∧ oget (n + k) ob = some o) ∧ (∀ s o, oget s ob = some o → ∃ k t, s = n + k ∧ L[k]? = some t ∧ oget t objs = some o)
  | [], n, ob, h => by
    simp only [lentO, Option.some.injEq] at h; subst h
    exact ⟨fun k t hk => by simp at hk, fun s o hs => by simp [oget] at hs⟩
  | t :: r, n, ob, h => by
    unfold lentO at h
    split at h
    · rename_i o l ho hl
      simp only [Option.some.injEq] at h; subst h
      obtain ⟨h1, h2⟩ := lentO_get hl
      have hge : ∀ s o, oget s l = some o → n < s := fun s o hs => by obtain ⟨k, t, e, _⟩ := h2 s o hs; omega
      refine ⟨fun k t' hk => ?_, fun s o' hs => ?_⟩
      · cases k with
        | zero => simp at hk; subst hk; exact ⟨o, ho, by rw [oget_cons, if_pos (by omega)]⟩
        | succ k =>
          obtain ⟨o', h3, h4⟩ := h1 k t' (by simpa using hk)
          exact ⟨o', h3, by rw [oget_cons, if_neg (by omega), show n + (k + 1) = n + 1 + k by omega]; exact h4⟩
      · rw [oget_cons] at hs
        split at hs
        · rename_i e; subst e; simp only [Option.some.injEq] at hs; subst hs; exact ⟨0, t, by omega, rfl, ho⟩
        · obtain ⟨k, t', e, h3, h4⟩ := h2 s o' hs
          exact ⟨k + 1, t', by omega, by simpa using h3, h4⟩
    · contradiction
theorem surv_out : ∀ {ks : List LentK} {x : denKs ks} {L : List Nat} {s : Nat} {o : Obj} (n : Nat), oget s (survK ks x L) = some o → ∃ k, L[k]? = some s ∧ k < ks.length ∧ (nodupL L = true → oget (n + k) (outK n ks x) = some o)
  | [], x, L, s, o, n, h => by simp [survK, oget] at h
  | k :: ks, x, [], s, o, n, h => by cases k <;> simp [survK, oget] at h
  | .dead :: ks, x, t :: L, s, o, n, h => by
    obtain ⟨k, h1, h2, h3⟩ := surv_out (n + 1) (show oget s (survK ks x.2 L) = some o from h)
    exact ⟨k + 1, by simpa using h1, by simp; omega, fun hd => by
      simp only [nodupL, Bool.and_eq_true] at hd
      rw [show n + (k + 1) = n + 1 + k by omega]; exact h3 hd.2⟩
  | .box T :: ks, x, t :: L, s, o, n, h => by
    simp only [survK, oget_cons] at h
    split at h
    · rename_i e; subst e; exact ⟨0, rfl, by simp, fun hd => by simp only [outK, oget_cons]; rw [if_pos (by omega)]; exact h⟩
    · obtain ⟨k, h1, h2, h3⟩ := surv_out (n + 1) h
      exact ⟨k + 1, by simpa using h1, by simp; omega, fun hd => by
        simp only [nodupL, Bool.and_eq_true] at hd
        simp only [outK, oget_cons]; rw [if_neg (by omega), show n + (k + 1) = n + 1 + k by omega]; exact h3 hd.2⟩
  | .arr e T :: ks, x, t :: L, s, o, n, h => by
    simp only [survK, oget_cons] at h
    split at h
    · rename_i e; subst e; exact ⟨0, rfl, by simp, fun hd => by simp only [outK, oget_cons]; rw [if_pos (by omega)]; exact h⟩
    · obtain ⟨k, h1, h2, h3⟩ := surv_out (n + 1) h
      exact ⟨k + 1, by simpa using h1, by simp; omega, fun hd => by
        simp only [nodupL, Bool.and_eq_true] at hd
        simp only [outK, oget_cons]; rw [if_neg (by omega), show n + (k + 1) = n + 1 + k by omega]; exact h3 hd.2⟩
  | .obj k0 T :: ks, x, t :: L, s, o, n, h => by
    simp only [survK, oget_cons] at h
    split at h
    · rename_i e; subst e; exact ⟨0, rfl, by simp, fun hd => by simp only [outK, oget_cons]; rw [if_pos (by omega)]; exact h⟩
    · obtain ⟨k, h1, h2, h3⟩ := surv_out (n + 1) h
      exact ⟨k + 1, by simpa using h1, by simp; omega, fun hd => by
        simp only [nodupL, Bool.and_eq_true] at hd
        simp only [outK, oget_cons]; rw [if_neg (by omega), show n + (k + 1) = n + 1 + k by omega]; exact h3 hd.2⟩
/-- A slot that was lent, and is not dead, is there as the kind that it was. -/
theorem surv_there {objs : List (Nat × Obj)} : ∀ {ks : List LentK} (x : denKs ks) {L : List Nat} {s : Nat}, okK objs ks L = true → nodupL L = true → s ∈ L → s ∉ deadK ks L → ∃ o o', oget s objs = some o ∧ oget s (survK ks x L) = some o' ∧ sameK o o'
  | [], x, [], s, _, _, h, _ => by simp at h
  | [], x, _ :: _, s, h, _, _, _ => by simp [okK] at h
  | k :: ks, x, [], s, _, _, h, _ => by simp at h
  | .dead :: ks, x, t :: L, s, h, hd, hm, hn => by
    simp only [okK] at h
    simp only [nodupL, Bool.and_eq_true] at hd
    simp only [deadK, List.mem_cons, not_or] at hn
    exact surv_there x.2 h hd.2 (by simpa [hn.1] using hm) hn.2
  | .box T :: ks, x, t :: L, s, h, hd, hm, hn => by
    simp only [okK] at h
    split at h
    · rename_i T' y ho
      simp only [Bool.and_eq_true, decide_eq_true_eq] at h
      obtain ⟨rfl, h⟩ := h
      simp only [nodupL, Bool.and_eq_true, Bool.not_eq_true'] at hd
      simp only [survK, oget_cons]
      by_cases hs : s = t
      · subst hs; exact ⟨_, .box T x.1, ho, by rw [if_pos rfl], show T = T from rfl⟩
      · rw [if_neg hs]
        exact surv_there x.2 h hd.2 (by simpa [hs] using hm) (by simpa [deadK] using hn)
    · contradiction
  | .arr e T :: ks, x, t :: L, s, h, hd, hm, hn => by
    simp only [okK] at h
    split at h
    · rename_i e' T' y ho
      simp only [Bool.and_eq_true, decide_eq_true_eq] at h
      obtain ⟨⟨he, rfl⟩, h⟩ := h
      obtain rfl := Nat.eq_of_beq_eq_true he
      simp only [nodupL, Bool.and_eq_true, Bool.not_eq_true'] at hd
      simp only [survK, oget_cons]
      by_cases hs : s = t
      · subst hs; exact ⟨_, .arr e T x.1, ho, by rw [if_pos rfl], show e = e ∧ T = T from ⟨rfl, rfl⟩⟩
      · rw [if_neg hs]
        exact surv_there x.2 h hd.2 (by simpa [hs] using hm) (by simpa [deadK] using hn)
    · contradiction
  | .obj e T :: ks, x, t :: L, s, h, hd, hm, hn => by
    simp only [okK] at h
    split at h
    · rename_i e' T' y ho
      simp only [Bool.and_eq_true, decide_eq_true_eq] at h
      obtain ⟨⟨he, rfl⟩, h⟩ := h
      obtain rfl := Nat.eq_of_beq_eq_true he
      simp only [nodupL, Bool.and_eq_true, Bool.not_eq_true'] at hd
      simp only [survK, oget_cons]
      by_cases hs : s = t
      · subst hs; exact ⟨_, .obj e T x.1, ho, by rw [if_pos rfl], show e = e ∧ T = T from ⟨rfl, rfl⟩⟩
      · rw [if_neg hs]
        exact surv_there x.2 h hd.2 (by simpa [hs] using hm) (by simpa [deadK] using hn)
    · contradiction
theorem deadK_sub : ∀ {ks : List LentK} {L : List Nat} {s : Nat}, s ∈ deadK ks L → s ∈ L
  | [], L, s, h => by cases L <;> simp [deadK] at h
  | k :: ks, [], s, h => by cases k <;> simp [deadK] at h
  | .dead :: ks, t :: L, s, h => by
    simp only [deadK, List.mem_cons] at h
    rcases h with h | h
    · simp [h]
    · exact List.mem_cons_of_mem _ (deadK_sub h)
  | .box _ :: ks, t :: L, s, h => List.mem_cons_of_mem _ (deadK_sub (show s ∈ deadK ks L from h))
  | .arr _ _ :: ks, t :: L, s, h => List.mem_cons_of_mem _ (deadK_sub (show s ∈ deadK ks L from h))
  | .obj _ _ :: ks, t :: L, s, h => List.mem_cons_of_mem _ (deadK_sub (show s ∈ deadK ks L from h))
theorem surv_sub {ks : List LentK} {x : denKs ks} {L : List Nat} {s : Nat} {o : Obj} (h : oget s (survK ks x L) = some o) : s ∈ L := by
  obtain ⟨k, h1, _⟩ := surv_out 0 h
  exact List.mem_of_getElem? h1
theorem okK_len {objs : List (Nat × Obj)} : ∀ {ks : List LentK} {L : List Nat}, okK objs ks L = true → ks.length = L.length
  | [], [], _ => rfl
  | [], _ :: _, h => by simp [okK] at h
  | k :: ks, [], h => by cases k <;> simp [okK] at h
  | .dead :: ks, t :: L, h => by simp [okK_len (show okK objs ks L = true from h)]
  | .box _ :: ks, t :: L, h => by
    simp only [okK] at h
    split at h
    · simp only [Bool.and_eq_true] at h; simp [okK_len h.2]
    · contradiction
  | .arr _ _ :: ks, t :: L, h => by
    simp only [okK] at h
    split at h
    · simp only [Bool.and_eq_true] at h; simp [okK_len h.2]
    · contradiction
  | .obj _ _ :: ks, t :: L, h => by
    simp only [okK] at h
    split at h
    · simp only [Bool.and_eq_true] at h; simp [okK_len h.2]
    · contradiction
theorem resE_mono {C C' : Cells} {objs objs' : List (Nat × Obj)} {lam lam' : Nat → Value} (hC : ∀ a u, C a u → C' a u) {R : RTy} {x : denR R} {v : Value} (h : RelEnt C objs lam (resE R x) v) : RelEnt C' objs' lam' (resE R x) v := by
  cases R with
  | none => exact h
  | one A => exact RelV_mono hC h
  | two A D =>
    obtain ⟨vs, e, v1, r1, e1, h1, v2, r2, e2, h2, h3⟩ := h
    exact ⟨vs, e, v1, r1, e1, RelV_mono hC h1, v2, r2, e2, RelV_mono hC h2, h3⟩
  | three A D E =>
    obtain ⟨vs, e, v1, r1, e1, h1, v2, r2, e2, h2, v3, r3, e3, h3, h4⟩ := h
    exact ⟨vs, e, v1, r1, e1, RelV_mono hC h1, v2, r2, e2, RelV_mono hC h2, v3, r3, e3, RelV_mono hC h3, h4⟩
theorem RelEsI_map {C C' : Cells} {objs objs' : List (Nat × Obj)} {lam lam' : Nat → Value} (f : E0 → E0) (h : ∀ e v, RelE C objs lam e v → RelE C' objs' lam' (f e) v) : ∀ {es : List Ent} {vs : List Value}, RelEsI C objs lam es vs → RelEsI C' objs' lam' (es.map (map1 f)) vs
  | [], _, hh => hh
  | e :: es, _, ⟨v, r, h1, h2, h3⟩ => ⟨v, r, h1, RelEnt_map f h h2, RelEsI_map f h h3⟩
theorem RelE_same {C C' : Cells} {objs objs' : List (Nat × Obj)} {lam lam' : Nat → Value} {e : E0} {v : Value} (hC : ∀ a u, C a u → C' a u)
    (ho : ∀ s, slotOf e = some s → ∀ o, oget s objs = some o → ∃ o', oget s objs' = some o' ∧ LamK o (lam s) (lam' s) ∧ sameK o o' ∧ lenO o = lenO o') (h : RelE C objs lam e v) : RelE C' objs' lam' e v := by
  cases e with
  | undef => trivial
  | val T x => exact RelV_mono hC h
  | eptr T x => obtain ⟨ad, cs, h1, h2, h3⟩ := h; exact ⟨ad, cs, h1, Rd_mono hC h2, fun j u hj => hC _ _ (h3 j u hj)⟩
  | cst c => exact h
  | ref s p =>
    obtain ⟨T, x, g, T', off, h1, h2, h3⟩ := h
    obtain ⟨o', k1, k2, k3, k4⟩ := ho s rfl _ h1
    cases o' with
    | box T2 y => obtain rfl : T = T2 := k3; have k2 : lam' s = lam s := k2; exact ⟨T, y, g, T', off, k1, by rw [k2]; exact h2, h3⟩
    | arr _ _ _ => exact k3.elim
    | obj _ _ _ => exact k3.elim
  | arr s =>
    obtain ⟨⟨e, T, l, h1⟩, h2⟩ := h
    obtain ⟨o', k1, k2, k3, k4⟩ := ho s rfl _ h1
    cases o' with
    | box _ _ => exact k3.elim
    | obj _ _ _ => exact k3.elim
    | arr e2 T2 l2 => have k2 : lam' s = lam s := k2; exact ⟨⟨e2, T2, l2, k1⟩, by rw [k2]; exact h2⟩
  | aref s i p =>
    obtain ⟨e, T, l, g, n, c, T', off, h1, h2, h3, h4, h5⟩ := h
    obtain ⟨o', k1, k2, k3, k4⟩ := ho s rfl _ h1
    cases o' with
    | box _ _ => exact k3.elim
    | arr e2 T2 l2 =>
      obtain ⟨rfl, rfl⟩ := k3
      simp only [lenO] at k4
      have k2 : lam' s = lam s := k2
      exact ⟨e, T, l2, g, n, c, T', off, k1, by rw [k2]; exact h2, h3, by omega, h5⟩
    | obj _ _ _ => exact k3.elim
  | aview s i =>
    obtain ⟨e, T, l, A, c, h1, h2, h3, h4⟩ := h
    obtain ⟨o', k1, k2, k3, k4⟩ := ho s rfl _ h1
    cases o' with
    | box _ _ => exact k3.elim
    | arr e2 T2 l2 =>
      obtain ⟨rfl, rfl⟩ := k3
      simp only [lenO] at k4
      have k2 : lam' s = lam s := k2
      exact ⟨e, T, l2, A, c, k1, by rw [k2, ← k4]; exact h2, by omega, by rw [← k4]; exact h4⟩
    | obj _ _ _ => exact k3.elim
  | own s =>
    obtain ⟨k, T, x, vs, ad, h1, h2, h3, h4⟩ := h
    obtain ⟨o', k1, k2, k3, k4⟩ := ho s rfl _ h1
    cases o' with
    | box _ _ => exact k3.elim
    | arr _ _ _ => exact k3.elim
    | obj e2 T2 y2 =>
      obtain ⟨us, us', q1, q2, q3⟩ := k2
      rw [h2] at q1
      simp only [Value.tuple.injEq] at q1
      subst q1
      exact ⟨e2, T2, y2, us', ad, k1, q2, q3.trans h3, h4⟩
  | glob T l => obtain ⟨ad, cs, h1, h2, h3⟩ := h; exact ⟨ad, cs, h1, RdL_mono (fun _ _ => Rd_mono hC) h2, fun j u hj => hC _ _ (h3 j u hj)⟩
theorem RelE_ren {C C' : Cells} {objs ob : List (Nat × Obj)} {lam lamC : Nat → Value} {nt : Nat} {L : List Nat} (hC : ∀ a u, C a u → C' a u)
    (hL : ∀ k t, L[k]? = some t → oget (nt + k) ob = oget t objs ∧ lamC (nt + k) = lam t) {e : E0} {v : Value} (h : RelE C objs lam e v) : RelE C' ob lamC (ren nt L e) v := by
  unfold ren
  cases hs : slotOf e with
  | none => exact RelE_same hC (fun s h' => by rw [hs] at h'; cases h') h
  | some s =>
    dsimp only
    cases hi : idx s L with
    | none => trivial
    | some k =>
      dsimp only
      obtain ⟨h1, h2⟩ := hL k s (idx_get hi)
      cases e <;> simp [slotOf] at hs <;> subst hs
      · obtain ⟨T, x, g, T', off, k1, k2, k3⟩ := h; exact ⟨T, x, g, T', off, by rw [h1]; exact k1, by rw [h2]; exact k2, k3⟩
      · obtain ⟨⟨e, T, l, k1⟩, k2⟩ := h; exact ⟨⟨e, T, l, by rw [h1]; exact k1⟩, by rw [h2]; exact k2⟩
      · obtain ⟨e, T, l, g, n, c, T', off, k1, k2, k3⟩ := h; exact ⟨e, T, l, g, n, c, T', off, by rw [h1]; exact k1, by rw [h2]; exact k2, k3⟩
      · obtain ⟨e, T, l, A, c, k1, k2, k3⟩ := h; exact ⟨e, T, l, A, c, by rw [h1]; exact k1, by rw [h2]; exact k2, k3⟩
      · obtain ⟨k0, T, x, vs, ad, k1, k2, k3⟩ := h; exact ⟨k0, T, x, vs, ad, by rw [h1]; exact k1, by rw [h2]; exact k2, k3⟩
theorem sameK.symm {a b : Obj} (h : sameK a b) : sameK b a := by
  cases a <;> cases b <;> first | exact h.elim | exact Eq.symm h | exact ⟨h.1.symm, h.2.symm⟩
theorem idx_of : ∀ {L : List Nat} {k s : Nat}, nodupL L = true → L[k]? = some s → idx s L = some k
  | [], k, s, _, h => by simp at h
  | t :: L, 0, s, _, h => by simp at h; subst h; simp [idx]
  | t :: L, k + 1, s, hd, h => by
    simp only [nodupL, Bool.and_eq_true, Bool.not_eq_true'] at hd
    have h' : L[k]? = some s := by simpa using h
    have hne : Nat.beq t s = false := beq_no fun e => by subst e; exact has_no.1 hd.1 (List.mem_of_getElem? h')
    simp only [idx, hne, cond_false, idx_of hd.2 h', Option.map_some]
theorem outS_mem {nt : Nat} {S : Sig} {x : denS S} {k : Nat} {o : Obj} (hk : k < S.lent.length) (h : oget (nt + k) (outK nt S.lent x.2) = some o) : oget (nt + k) (outS nt S x) = some o := by
  obtain ⟨res, ks⟩ := S
  cases res with
  | vals R => exact h
  | row e T => simp only [outS, oget_cons]; rw [if_neg (by have : k < ks.length := hk; omega)]; exact h
  | rowv e T A => simp only [outS, oget_cons]; rw [if_neg (by have : k < ks.length := hk; omega)]; exact h
  | newobj _ _ => simp only [outS, oget_cons]; rw [if_neg (by have : k < ks.length := hk; omega)]; exact h

theorem opI1_sound {call : Call0} {F : Func} {f : FuncId} (hic : ∀ ents ob S (x : denS S), call.i f ents ob S = some x → ICallOk P F.ntmps f ents ob S x) {S : Sig} {L : List Nat} {ents : List Ent} {dst : Option Nat} {a : Act}
    (hR : Rel O B w0 st lam a.tmps w) {vals : Array Value} (hents : RelEsI (Cst (Full O st.objs lam) w) st.objs lam ents vals.toList) {K : St → Option α} {r : α} (h : opI1 call F f S L ents dst st K = some r)
    {next : Act → World → Prop} (hn : ∀ st' lam' a' w', K st' = some r → Rel O B w0 st' lam' a'.tmps w' → a'.defers = a.defers → next a' w') :
    Calls P f vals w fun e w' => ∃ v, e = .returned v ∧ next (a.put dst v) w' := by
  unfold opI1 at h
  split at h
  · contradiction
  rename_i ob hob
  obtain ⟨x, hx, hk⟩ := Option.bind_eq_some_iff.1 h
  clear h
  split at hk
  · contradiction
  rename_i st1 hgive
  unfold give at hgive
  replace hgive := bif_some hgive
  obtain ⟨hok, hst1⟩ := hgive
  simp only [Bool.and_eq_true] at hok
  obtain ⟨hok, hnd⟩ := hok
  simp only [Option.some.injEq] at hst1
  obtain ⟨hl1, hl2⟩ := lentO_get hob
  generalize hnt : F.ntmps = nt at *
  have halive : ∀ s, s ∈ L → ∃ o, oget s st.objs = some o := fun s hs => by
    obtain ⟨k, hk⟩ := List.getElem?_of_mem hs
    obtain ⟨o, h1, _⟩ := hl1 k s hk; exact ⟨o, h1⟩
  let lamC : Nat → Value := fun s => lam (L.getD (s - nt) 0)
  have hlamC : ∀ k t, L[k]? = some t → lamC (nt + k) = lam t := fun k t hk => by
    simp only [lamC]; rw [show nt + k - nt = k by omega, List.getD_eq_getElem?_getD, hk]; rfl
  let Oc : Nat → Prop := fun g => O g ∨ ∃ s o, oget s st.objs = some o ∧ s ∉ L ∧ owns (lam s) g
  have howned : ∀ g, Owned ob lamC g ↔ ∃ s o, s ∈ L ∧ oget s st.objs = some o ∧ owns (lam s) g := by
    intro g
    constructor
    · rintro ⟨s, o, h1, h2⟩
      obtain ⟨k, t, rfl, h3, h4⟩ := hl2 s o h1
      rw [hlamC k t h3] at h2
      exact ⟨t, o, List.mem_of_getElem? h3, h4, h2⟩
    · rintro ⟨s, o, h1, h2, h3⟩
      obtain ⟨k, hk⟩ := List.getElem?_of_mem h1
      obtain ⟨o', h4, h5⟩ := hl1 k s hk
      exact ⟨nt + k, o', h5, by rw [hlamC k s hk]; exact h3⟩
  have hfull : ∀ g, Full Oc ob lamC g ↔ Full O st.objs lam g := by
    intro g
    constructor
    · rintro ((h1 | ⟨s, o, h1, _, h3⟩) | h1)
      · exact .inl h1
      · exact .inr ⟨s, o, h1, h3⟩
      · obtain ⟨s, o, _, h2, h3⟩ := (howned g).1 h1; exact .inr ⟨s, o, h2, h3⟩
    · rintro (h1 | ⟨s, o, h1, h2⟩)
      · exact .inl (.inl h1)
      · by_cases hs : s ∈ L
        · exact .inr ((howned g).2 ⟨s, o, hs, h1, h2⟩)
        · exact .inl (.inr ⟨s, o, h1, hs, h2⟩)
  have hC0 : ∀ a u, Cst (Full O st.objs lam) w a u → Cst (Full Oc ob lamC) w a u := Cst_mono fun g hg => (hfull g).1 hg
  have hOc : ∀ g, Oc g → g < w.heap.size ∧ ¬ Owned ob lamC g := by
    rintro g hg
    refine ⟨hR.full_lt g ((hfull g).1 (.inl hg)), fun how => ?_⟩
    obtain ⟨s, o, h1, h2, h3⟩ := (howned g).1 how
    rcases hg with h4 | ⟨s', o', h4, h5, h6⟩
    · exact (hR.out g h4).1 (RelO_N (hR.objs s o h2) g h3).1
    · have := hR.apart s' s o' o g h4 h2 h6 h3
      subst this; exact h5 h1
  have hmem : MemOk Oc (LentN ob lamC w) w ob lamC := by
    refine ⟨fun s o hs => ?_, fun s s' o o' g h1 h2 h3 h4 => ?_⟩
    · obtain ⟨k, t, rfl, h3, h4⟩ := hl2 s o hs
      rw [hlamC k t h3]
      refine RelO_base (fun g hg _ => .inl ((howned g).2 ⟨t, o, List.mem_of_getElem? h3, h4, hg⟩)) (RelO_mono hC0 (hR.objs t o h4))
    · obtain ⟨k, t, rfl, h5, h6⟩ := hl2 s o h1
      obtain ⟨k', t', rfl, h7, h8⟩ := hl2 s' o' h2
      rw [hlamC k t h5] at h3
      rw [hlamC k' t' h7] at h4
      have := hR.apart t t' o o' g h6 h8 h3 h4
      subst this
      have hnd' : ∀ {L : List Nat} {k k' : Nat} {t : Nat}, nodupL L = true → L[k]? = some t → L[k']? = some t → k = k' := by
        intro L
        induction L with
        | nil => intro k k' t _ h; simp at h
        | cons a r ih =>
          intro k k' t hd h1 h2
          simp only [nodupL, Bool.and_eq_true, Bool.not_eq_true'] at hd
          cases k with
          | zero =>
            cases k' with
            | zero => rfl
            | succ k' =>
              simp at h1 h2; subst h1
              exact absurd (List.mem_of_getElem? h2) (has_no.1 hd.1)
          | succ k =>
            cases k' with
            | zero =>
              simp at h1 h2; subst h2
              exact absurd (List.mem_of_getElem? h1) (has_no.1 hd.1)
            | succ k' => exact congrArg (· + 1) (ih (k := k) (k' := k') (t := t) hd.2 (by simpa using h1) (by simpa using h2))
      rw [hnd' hnd h5 h7]
  have hargs : RelEsI (Cst (Full Oc ob lamC) w) ob lamC (ents.map (map1 (ren nt L))) vals.toList :=
    RelEsI_map _ (fun e v he => RelE_ren hC0 (fun k t hk => by
      obtain ⟨o, h1, h2⟩ := hl1 k t hk
      exact ⟨by rw [h1, h2], hlamC k t hk⟩) he) hents
  refine (hic _ _ S x hx Oc w vals lamC hOc hmem (hR.amb.mono hC0) hargs).mono fun e w' => ?_
  rintro ⟨v, lam', rfl, hb, hl', hm, hres⟩
  refine ⟨v, rfl, ?_⟩
  -- the slots behind the call
  have hlen : S.lent.length = L.length := okK_len hok
  let lamN : Nat → Value := fun s => match idx s L with
    | some k => lam' (nt + k)
    | none => lam s
  have hlamN : ∀ k s, L[k]? = some s → lamN s = lam' (nt + k) := fun k s hk => by
    simp only [lamN]; rw [idx_of hnd hk]
  have hlamO : ∀ s, s ∉ L → lamN s = lam s := fun s hs => by
    simp only [lamN]
    cases h : idx s L with
    | none => rfl
    | some k => exact absurd (List.mem_of_getElem? (idx_get h)) hs
  have hsv : ∀ s o, oget s (survK S.lent x.2 L) = some o → ∃ k, L[k]? = some s ∧ oget (nt + k) (outS nt S x) = some o ∧ lamN s = lam' (nt + k) ∧ k < S.lent.length := by
    intro s o hs
    obtain ⟨k, h1, h2, h3⟩ := surv_out nt hs
    exact ⟨k, h1, outS_mem h2 (h3 hnd), hlamN k s h1, h2⟩
  have hobjs1 : ∀ s o, oget s st1.objs = some o → (∃ k, L[k]? = some s ∧ oget (nt + k) (outS nt S x) = some o ∧ lamN s = lam' (nt + k) ∧ k < S.lent.length) ∨ (s ∉ L ∧ oget s st.objs = some o) := by
    intro s o hs
    rw [← hst1] at hs
    simp only [oget_append, oget_delL] at hs
    cases hv : oget s (survK S.lent x.2 L) with
    | some o' => rw [hv] at hs; simp at hs; subst hs; exact .inl (hsv s o' hv)
    | none =>
      rw [hv] at hs
      simp only [Option.none_or] at hs
      split at hs
      · contradiction
      · rename_i hne; exact .inr ⟨hne, hs⟩
  have hold1 : ∀ s o, oget s st1.objs = some o → ∃ o0, oget s st.objs = some o0 ∧ sameK o0 o := by
    intro s o hs
    rcases hobjs1 s o hs with ⟨k, h1, h2, h3, h4⟩ | ⟨h1, h2⟩
    · have hm : s ∈ L := List.mem_of_getElem? h1
      have hnd2 : s ∉ deadK S.lent L := by
        intro hdead
        have hs' := hs
        rw [← hst1] at hs'
        simp only [oget_append, oget_delL, hm, if_true, Option.or_none] at hs'
        have : ∀ {ks : List LentK} {x : denKs ks} {L : List Nat} {s : Nat} {o : Obj}, nodupL L = true → s ∈ deadK ks L → oget s (survK ks x L) = some o → False := by
          intro ks
          induction ks with
          | nil => intro x L s o _ h _; cases L <;> simp [deadK] at h
          | cons k ks ih =>
            intro x L s o hd h1 h2
            cases L with
            | nil => cases k <;> simp [deadK] at h1
            | cons t L =>
              simp only [nodupL, Bool.and_eq_true, Bool.not_eq_true'] at hd
              cases k with
              | dead =>
                simp only [deadK, List.mem_cons] at h1
                rcases h1 with h1 | h1
                · subst h1; exact has_no.1 hd.1 (surv_sub (show oget s (survK ks x.2 L) = some o from h2))
                · exact ih (x := x.2) hd.2 h1 h2
              | box T =>
                simp only [survK, oget_cons] at h2
                split at h2
                · rename_i e; subst e; exact has_no.1 hd.1 (deadK_sub (show s ∈ deadK ks L from h1))
                · exact ih (x := x.2) hd.2 h1 h2
              | arr e T =>
                simp only [survK, oget_cons] at h2
                split at h2
                · rename_i e; subst e; exact has_no.1 hd.1 (deadK_sub (show s ∈ deadK ks L from h1))
                · exact ih (x := x.2) hd.2 h1 h2
              | obj k0 T =>
                simp only [survK, oget_cons] at h2
                split at h2
                · rename_i e; subst e; exact has_no.1 hd.1 (deadK_sub (show s ∈ deadK ks L from h1))
                · exact ih (x := x.2) hd.2 h1 h2
        exact this hnd hdead hs'
      obtain ⟨o0, o', q1, q2, q3⟩ := surv_there x.2 hok hnd hm hnd2
      have hs' := hs
      rw [← hst1] at hs'
      simp only [oget_append, oget_delL, hm, if_true, Option.or_none] at hs'
      rw [q2] at hs'
      simp only [Option.some.injEq] at hs'
      subst hs'
      exact ⟨o0, q1, q3⟩
    · exact ⟨o, h2, sameK_refl o⟩
  have hN' : ∀ g, g < w.heap.size → LentN ob lamC w g → B.N g ∧ Full O st.objs lam g := by
    rintro g hg (h1 | h1)
    · obtain ⟨s, o, _, h3, h4⟩ := (howned g).1 h1
      exact ⟨(RelO_N (hR.objs s o h3) g h4).1, .inr ⟨s, o, h3, h4⟩⟩
    · omega
  have hNN : ∀ g, LentN ob lamC w g → B.N g := by
    rintro g (h1 | h1)
    · obtain ⟨s, o, _, h3, h4⟩ := (howned g).1 h1
      exact (RelO_N (hR.objs s o h3) g h4).1
    · exact hR.base g h1
  have hkeep : ∀ s o, s ∉ L → oget s st.objs = some o → ∀ g, owns (lam s) g → ¬ LentN ob lamC w g := by
    rintro s o hs ho g hg (h1 | h1)
    · obtain ⟨s', o', h2, h3, h4⟩ := (howned g).1 h1
      have := hR.apart s s' o o' g ho h3 hg h4
      subst this; exact hs h2
    · have := hR.full_lt g (.inr ⟨s, o, ho, hg⟩); omega
  have hsvN : ∀ k s o, L[k]? = some s → oget (nt + k) (outS nt S x) = some o → lamN s = lam' (nt + k) → ∀ g, owns (lamN s) g → LentN ob lamC w g := by
    intro k s o h1 h2 h3 g hg
    rw [h3] at hg
    exact (RelO_N (hm.obj _ _ h2) g hg).1
  have hown1 : ∀ g s o, oget s st1.objs = some o → owns (lamN s) g → Full Oc (outS nt S x) lam' g ∧ (g < w.heap.size → Full O st.objs lam g) := by
    intro g s o hs hg
    rcases hobjs1 s o hs with ⟨k, h1, h2, h3, h4⟩ | ⟨h1, h2⟩
    · exact ⟨.inr ⟨nt + k, o, h2, by rw [← h3]; exact hg⟩, fun hlt => (hN' g hlt (hsvN k s o h1 h2 h3 g hg)).2⟩
    · rw [hlamO s h1] at hg
      exact ⟨.inl (.inr ⟨s, o, h2, h1, hg⟩), fun _ => .inr ⟨s, o, h2, hg⟩⟩
  have hap1 : ∀ s s' o o' g, oget s st1.objs = some o → oget s' st1.objs = some o' → owns (lamN s) g → owns (lamN s') g → s = s' := by
    intro s s' o o' g h1 h2 h3 h4
    rcases hobjs1 s o h1 with ⟨k, p1, p2, p3, p4⟩ | ⟨p1, p2⟩ <;> rcases hobjs1 s' o' h2 with ⟨k', q1, q2, q3, q4⟩ | ⟨q1, q2⟩
    · have := hm.apart _ _ _ _ g p2 q2 (by rw [← p3]; exact h3) (by rw [← q3]; exact h4)
      obtain rfl : k = k' := by omega
      rw [p1] at q1
      exact Option.some.inj q1
    · exact absurd (hsvN k s o p1 p2 p3 g h3) (hkeep s' o' q1 q2 g (by rw [← hlamO s' q1]; exact h4))
    · exact absurd (hsvN k' s' o' q1 q2 q3 g h4) (hkeep s o p1 p2 g (by rw [← hlamO s p1]; exact h3))
    · exact hR.apart s s' o o' g p2 q2 (by rw [← hlamO s p1]; exact h3) (by rw [← hlamO s' q1]; exact h4)
  have hlk1 : ∀ s o, oget s st1.objs = some o → LamK o (lam s) (lamN s) := by
    intro s o hs
    obtain ⟨o0, r1, r2⟩ := hold1 s o hs
    rcases hobjs1 s o hs with ⟨k, p1, p2, p3, p4⟩ | ⟨p1, p2⟩
    · have := hl' (nt + k) o p2 (by omega) (by omega)
      rw [hlamC k s p1, ← p3] at this
      exact this
    · rw [hlamO s p1]; exact LamK_self (hR.objs s o p2)
  have henv1 : ∀ (C' : Cells) (objs' : List (Nat × Obj)) (lam1 : Nat → Value), (∀ a u, Cst (Full O st.objs lam) w a u → C' a u) → (∀ s, s ∉ deadK S.lent L → ∀ o, oget s st1.objs = some o → oget s objs' = some o ∧ lam1 s = lamN s) →
      ∀ t, RelEnt C' objs' lam1 (eget t st1.env) (a.tmps.getD t undef) := by
    intro C' objs' lam1 hC' ho' t
    rw [← hst1]
    simp only
    rw [eget_map _ (by simp [die1, slotOf])]
    refine RelEnt_map _ (fun e v he => ?_) (hR.env t)
    unfold die1
    cases hs : slotOf e with
    | none => exact RelE_same hC' (fun s h' => by rw [hs] at h'; cases h') he
    | some s =>
      dsimp only
      cases hd : has (deadK S.lent L) s with
      | true => trivial
      | false =>
        have hd' := has_no.1 hd
        simp only [cond_false]
        refine RelE_same hC' (fun s' h' o hso => ?_) he
        rw [hs] at h'; simp only [Option.some.injEq] at h'; subst h'
        by_cases hsL : s ∈ L
        · obtain ⟨o0, o', q1, q2, q3⟩ := surv_there x.2 hok hnd hsL hd'
          rw [hso] at q1
          simp only [Option.some.injEq] at q1; subst q1
          have h1 : oget s st1.objs = some o' := by rw [← hst1]; simp only [oget_append, q2, Option.some_or]
          obtain ⟨k1, k2⟩ := ho' s hd' o' h1
          have hK : LamK o (lam s) (lam1 s) := by rw [k2]; exact (hlk1 s o' h1).same q3.symm
          refine ⟨o', k1, hK, q3, ?_⟩
          obtain ⟨k, p1, p2, p3, p4⟩ := hsv s o' q2
          cases o with
          | box T y => cases o' <;> first | rfl | exact q3.elim
          | obj _ _ _ => cases o' <;> first | rfl | exact q3.elim
          | arr e1 T y =>
            cases o' with
            | box _ _ => exact q3.elim
            | obj _ _ _ => exact q3.elim
            | arr e2 T2 y2 =>
              obtain ⟨A, c, e3⟩ := RelO_len (hR.objs s _ hso)
              obtain ⟨A', c', e4⟩ := RelO_len (hm.obj _ _ p2)
              have hK' : lam1 s = lam s := hK
              rw [← p3, ← k2, hK', e3] at e4
              simp only [Value.slice.injEq] at e4
              exact e4.2.1
        · have h1 : oget s st1.objs = some o := by
            rw [← hst1]; simp only [oget_append, oget_delL, hsL, if_false]
            have : oget s (survK S.lent x.2 L) = none := by
              cases hq : oget s (survK S.lent x.2 L) with
              | none => rfl
              | some o' => exact absurd (surv_sub hq) hsL
            rw [this, hso]; rfl
          obtain ⟨k1, k2⟩ := ho' s hd' o h1
          exact ⟨o, k1, by rw [k2]; exact hlk1 s o h1, sameK_refl o, rfl⟩
  have hlen1 : st1.env.length = st.env.length := by rw [← hst1]; simp
  have hstay1 : st1.env.length ≤ B.nt ∧ ∀ s o, B.nt ≤ s → oget s st1.objs = some o → ∃ o0, oget s B.objs = some o0 ∧ LamK o (B.lam s) (lamN s) ∧ sameK o0 o := by
    refine ⟨by rw [hlen1]; exact hR.stay.1, fun s o h1 h2 => ?_⟩
    obtain ⟨o0, q1, q2⟩ := hold1 s o h2
    obtain ⟨o1, q3, q4, q5⟩ := hR.stay.2 s o0 h1 q1
    exact ⟨o1, q3, (q4.same q2).trans (hlk1 s o h2), q5.trans q2⟩
  have hnew : ∀ (d : Nat) (ob1 : Obj) (vg vv : Value) (e1 : Ent), d < st.env.length → oget (nt + S.lent.length) (outS nt S x) = some ob1 → lam' (nt + S.lent.length) = vg →
      ((∀ g, Full O ((d, ob1) :: (kill d st1).objs) (upd lamN d vg) g → Full Oc (outS nt S x) lam' g) → RelEnt (Cst (Full O ((d, ob1) :: (kill d st1).objs) (upd lamN d vg)) w') ((d, ob1) :: (kill d st1).objs) (upd lamN d vg) e1 vv) →
      Rel O B w0 { env := eset d e1 (kill d st1).env, objs := (d, ob1) :: (kill d st1).objs } (upd lamN d vg) (a.tmps.setIfInBounds d vv) w' := by
    intro d ob1 vg vv e1 hd hrow hvl he1
    have hrO := hm.obj _ _ hrow
    rw [hvl] at hrO
    have hget : ∀ s, oget s ((d, ob1) :: (kill d st1).objs) = if s = d then some ob1 else oget s st1.objs := fun s => by
      rw [oget_cons, kill_objs]; split <;> rfl
    have hFF : ∀ g, Full O ((d, ob1) :: (kill d st1).objs) (upd lamN d vg) g → Full Oc (outS nt S x) lam' g := by
      rintro g (h1 | ⟨s, o, h1, h2⟩)
      · exact .inl (.inl h1)
      · rw [hget] at h1
        by_cases hs : s = d
        · rw [upd, if_pos hs] at h2
          exact .inr ⟨_, _, hrow, by rw [hvl]; exact h2⟩
        · rw [if_neg hs] at h1
          rw [upd, if_neg hs] at h2
          exact (hown1 g s o h1 h2).1
    have hvN : ∀ g, owns vg g → LentN ob lamC w g := fun g hg => (RelO_N hrO g hg).1
    refine hR.after (st1 := { env := eset d e1 (kill d st1).env, objs := (d, ob1) :: (kill d st1).objs }) (lam1 := upd lamN d vg) (tm1 := a.tmps.setIfInBounds d vv) hb hN' (fun g hg hf => ?_) (fun hC s o hs => ?_) (fun s s' o o' g h1 h2 h3 h4 => ?_) (by simpa [length_eset, Ab.kill, hlen1] using hR.len) ⟨by simpa [length_eset, Ab.kill, hlen1] using hR.stay.1, fun s o h1 h2 => ?_⟩ (fun hC t => ?_)
    · rcases hf with h1 | ⟨s, o, h1, h2⟩
      · exact .inl h1
      · rw [hget] at h1
        by_cases hs : s = d
        · rw [upd, if_pos hs] at h2
          exact (hN' g hg (hvN g h2)).2
        · rw [if_neg hs] at h1
          rw [upd, if_neg hs] at h2
          exact (hown1 g s o h1 h2).2 hg
    · simp only [hget] at hs
      by_cases hsd : s = d
      · rw [if_pos hsd] at hs
        simp only [Option.some.injEq] at hs
        subst hs
        rw [upd, if_pos hsd]
        exact .inr (RelO_base (fun g _ hg => hNN g hg) (RelO_mono (Cst_mono hFF) hrO))
      · rw [if_neg hsd] at hs
        rw [upd, if_neg hsd]
        rcases hobjs1 s o hs with ⟨k, h1, h2, h3, h4⟩ | ⟨h1, h2⟩
        · right
          have := hm.obj _ _ h2
          rw [← h3] at this
          exact RelO_base (fun g _ hg => hNN g hg) (RelO_mono (Cst_mono hFF) this)
        · exact .inl ⟨h2, hlamO s h1, hkeep s o h1 h2⟩
    · simp only [hget] at h1 h2
      have cross : ∀ s o, oget s st1.objs = some o → owns (lamN s) g → owns vg g → False := by
        intro s o hs hg hv
        rcases hobjs1 s o hs with ⟨k, p1, p2, p3, p4⟩ | ⟨p1, p2⟩
        · have := hm.apart _ _ _ _ g p2 hrow (by rw [← p3]; exact hg) (by rw [hvl]; exact hv)
          omega
        · exact hkeep s o p1 p2 g (by rw [← hlamO s p1]; exact hg) (hvN g hv)
      by_cases hs : s = d <;> by_cases hs' : s' = d
      · rw [hs, hs']
      · rw [if_neg hs'] at h2
        rw [upd, if_pos hs] at h3
        rw [upd, if_neg hs'] at h4
        exact (cross s' o' h2 h4 h3).elim
      · rw [if_neg hs] at h1
        rw [upd, if_neg hs] at h3
        rw [upd, if_pos hs'] at h4
        exact (cross s o h1 h3 h4).elim
      · rw [if_neg hs] at h1; rw [if_neg hs'] at h2
        rw [upd, if_neg hs] at h3; rw [upd, if_neg hs'] at h4
        exact hap1 s s' o o' g h1 h2 h3 h4
    · have hsd : s ≠ d := by have := hR.stay.1; omega
      simp only [hget, if_neg hsd] at h2
      rw [upd, if_neg hsd]
      exact hstay1.2 s o h1 h2
    · simp only [eget_set]
      split
      · rename_i hh
        obtain ⟨rfl, hdl⟩ := hh
        have : t < a.tmps.size := Nat.lt_of_lt_of_le hd hR.len
        simp [this]; exact he1 hFF
      · rename_i hh
        by_cases ht : t = d
        · subst ht
          exact absurd ⟨rfl, by simpa [Ab.kill, hlen1] using hd⟩ hh
        · have hke : RelEnt (Cst (Full O ((d, ob1) :: (kill d st1).objs) (upd lamN d vg)) w') ((d, ob1) :: (kill d st1).objs) (upd lamN d vg) (eget t (kill d st1).env) (a.tmps.getD t undef) := by
            have h0 := henv1 (Cst (Full O ((d, ob1) :: (kill d st1).objs) (upd lamN d vg)) w') st1.objs lamN hC (fun s _ o ho => ⟨ho, rfl⟩) t
            simp only [Ab.kill]
            rw [eget_map _ (by simp [onSlot, slotOf])]
            refine RelEnt_map _ (fun e' v' he => ?_) h0
            cases hs : onSlot d e' with
            | true => trivial
            | false => exact RelE_lam (fun _ _ h => h) (fun s' h' => by
                have hne := onSlot_false hs s' h'
                have h3 := hget s'
                rw [if_neg hne] at h3
                exact ⟨h3, by rw [upd, if_neg hne]⟩) he
          simpa [Array.getElem?_setIfInBounds_ne (Ne.symm ht)] using hke
  obtain ⟨res, ks⟩ := S
  cases res with
  | vals R =>
    dsimp only at hk
    have hFF : ∀ g, Full O st1.objs lamN g → Full Oc (outS nt ⟨.vals R, ks⟩ x) lam' g := by
      rintro g (h1 | ⟨s, o, h1, h2⟩)
      · exact .inl (.inl h1)
      · exact (hown1 g s o h1 h2).1
    have hR1 : Rel O B w0 st1 lamN a.tmps w' := by
      refine hR.after hb hN' (fun g hg hf => ?_) (fun hC s o hs => ?_) hap1 (by rw [hlen1]; exact hR.len) hstay1 (fun hC => henv1 _ _ _ hC fun s _ o ho => ⟨ho, rfl⟩)
      · rcases hf with h1 | ⟨s, o, h1, h2⟩
        · exact .inl h1
        · exact (hown1 g s o h1 h2).2 hg
      · rcases hobjs1 s o hs with ⟨k, h1, h2, h3, h4⟩ | ⟨h1, h2⟩
        · right
          have := hm.obj _ _ h2
          rw [← h3] at this
          exact RelO_base (fun g _ hg => hNN g hg) (RelO_mono (Cst_mono hFF) this)
        · exact .inl ⟨h2, hlamO s h1, hkeep s o h1 h2⟩
    have hv : RelEnt (Cst (Full O st1.objs lamN) w') st1.objs lamN (resE R x.1) v := resE_mono (Cst_mono hFF) hres
    refine hn _ lamN _ w' hk ?_ (by cases dst <;> rfl)
    cases dst with
    | none => exact hR1
    | some d => exact hR1.put d hv
  | row e T =>
    cases dst with
    | none => dsimp only at hk; contradiction
    | some d =>
      dsimp only at hk
      replace hk := bif_some hk
      obtain ⟨hd, hk⟩ := hk
      have hd : d < st.env.length := by simpa [Nat.blt_eq] using hd
      exact hn _ (upd lamN d v) (a.put (some d) v) w' hk (hnew d (.arr e T x.1) v v (.s (.arr d)) hd (by simp [outS, oget_cons]) hres fun _ => arr_ent) rfl
  | rowv e T A =>
    cases dst with
    | none => dsimp only at hk; contradiction
    | some d =>
      dsimp only at hk
      replace hk := bif_some hk
      obtain ⟨hd, hk⟩ := hk
      have hd : d < st.env.length := by simpa [Nat.blt_eq] using hd
      obtain ⟨vr, u, rfl, hvl, hu⟩ := hres
      exact hn _ (upd lamN d vr) (a.put (some d) (.tuple #[vr, u])) w' hk (hnew d (.arr e T x.1.1) vr (.tuple #[vr, u]) (.tup [.arr d, .val A x.1.2]) hd (by simp [outS, oget_cons]) hvl fun hFF =>
        ⟨_, rfl, vr, [u], rfl, arr_ent (C' := Cst (Full O ((d, Obj.arr e T x.1.1) :: (kill d st1).objs) (upd lamN d vr)) w') (v := vr), u, [], rfl, RelV_mono (Cst_mono hFF) hu, rfl⟩) rfl
  | newobj k T =>
    cases dst with
    | none => dsimp only at hk; contradiction
    | some d =>
      dsimp only at hk
      replace hk := bif_some hk
      obtain ⟨hd, hk⟩ := hk
      have hd : d < st.env.length := by simpa [Nat.blt_eq] using hd
      obtain ⟨vs, ad, hvl, hhd, rfl⟩ := hres
      exact hn _ (upd lamN d (.tuple vs)) (a.put (some d) (.pointer (some ad))) w' hk (hnew d (.obj k T x.1) (.tuple vs) (.pointer (some ad)) (.s (.own d)) hd (by simp [outS, oget_cons]) hvl fun _ =>
        ⟨k, T, x.1, vs, ad, by rw [oget_cons, if_pos rfl], by rw [upd, if_pos rfl], hhd, rfl⟩) rfl
end
end Go.Proofs.YtlcphnmkkilefaaDoor.Ab
