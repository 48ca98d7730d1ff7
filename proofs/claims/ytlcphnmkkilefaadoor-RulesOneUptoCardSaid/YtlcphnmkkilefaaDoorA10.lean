/- The abstract interpreter, part 10: code and calls: what the interpreter says of a call is what the model's machine does. -/
import Derived.Test.YtlcphnmkkilefaaDoorAX
set_option linter.unusedVariables false
set_option linter.unusedSimpArgs false
namespace Go.Proofs.YtlcphnmkkilefaaDoor.Ab
open Go Go.RowKit

section
variable {P : Program} {cfg : Cfg} {O : Nat → Prop} {B : Base} {w0 w w' : World} {st st1 : St} {lam : Nat → Value} {tm : Array Value} {C : Cells} {α : Type}

def exOf : Ex → Exit
  | .normal => .normal
  | .exit id => .exit id
  | .ret => .ret

theorem least {p : Nat → Prop} : ∀ m, p m → ∃ k, p k ∧ ∀ j, p j → k ≤ j := by
  intro m
  induction m using Nat.strongRecOn with
  | _ m ih =>
    intro hm
    by_cases h : ∃ j, j < m ∧ p j
    · obtain ⟨j, h1, h2⟩ := h; exact ih j h1 h2
    · exact ⟨m, hm, fun j hj => Nat.le_of_not_lt fun hlt => h ⟨j, hlt, hj⟩⟩
open Classical in
/-- A loop of at most so many rounds. -/
theorem wp_loop_n {c : Code} {Q : Exit → Act → World → Prop} (I : Nat → Act → World → Prop) {m : Nat} {a : Act} {w : World} (h0 : I m a w) (hz : ∀ a w, ¬ I 0 a w)
    (round : ∀ m a w, I (m + 1) a w → c.wp P (Exit.then (fun a' w' => I m a' w') Q) a w) : (Code.loop c).wp P Q a w := by
  refine wp_loop (fun a w => ∃ m, I m a w) (fun a w => if h : ∃ m, I m a w then Classical.choose (least (p := fun m => I m a w) _ (Classical.choose_spec h)) else 0) ⟨m, h0⟩ ?_
  intro a w hI
  rw [dif_pos hI]
  have hs := Classical.choose_spec (least (p := fun m => I m a w) _ (Classical.choose_spec hI))
  generalize Classical.choose (least (p := fun m => I m a w) _ (Classical.choose_spec hI)) = k at *
  cases k with
  | zero => exact absurd hs.1 (hz a w)
  | succ k =>
    refine wp_mono (round k a w hs.1) fun e a' w' hq => ?_
    cases e with
    | normal =>
      have hq' : I k a' w' := hq
      refine ⟨⟨k, hq'⟩, ?_⟩
      have hex : ∃ m, I m a' w' := ⟨k, hq'⟩
      rw [dif_pos hex]
      have := (Classical.choose_spec (least (p := fun m => I m a' w') _ (Classical.choose_spec hex))).2 k hq'
      omega
    | exit id => exact hq
    | goto l => exact hq
    | ret => exact hq
    | panic ch => exact hq
    | outgrown => exact hq

theorem exec_sound {call : Call0} (hc : CallsOk P cfg call) {n : Nat} {fid : FuncId} {r : α} : ∀ (c : Code) (K : Ex → St → Option α) (st : St) (lam : Nat → Value) (a : Act) (w : World) (Q : Exit → Act → World → Prop),
    exec cfg call n fid c K st = some r → Rel O B w0 st lam a.tmps w → a.defers = [] →
    (∀ e st' lam' a' w', K e st' = some r → Rel O B w0 st' lam' a'.tmps w' → a'.defers = [] → Q (exOf e) a' w') → c.wp P Q a w
  | .skip, K, st, lam, a, w, Q, h, hR, hd, hQ => wp_skip (hQ .normal st lam a w h hR hd)
  | .label l, K, st, lam, a, w, Q, h, hR, hd, hQ => wp_label (hQ .normal st lam a w h hR hd)
  | .exit id, K, st, lam, a, w, Q, h, hR, hd, hQ => wp_exit (hQ (.exit id) st lam a w h hR hd)
  | .ret, K, st, lam, a, w, Q, h, hR, hd, hQ => wp_ret (hQ .ret st lam a w h hR hd)
  | .region id ops draw, K, st, lam, a, w, Q, h, hR, hd, hQ => by
    simp only [exec] at h
    cases draw with
    | true =>
      simp only [cond_true] at h
      split at h
      · replace h := bif_some h
        exact execOpsD_sound hc h.1 (fun st' lam' a' w' hk hR' hd' => hQ .normal st' lam' a' w' hk hR' hd') h.2 hR hd
      · replace h := bif_some h
        exact execOpsX_sound hc h.1 (fun st' lam' a' w' hk hR' hd' => hQ .normal st' lam' a' w' hk hR' hd') h.2 (hR.prekillX _) hd
    | false =>
      simp only [cond_false] at h
      refine wp_region ?_
      rw [List.range_eq_range', ← Array.length_toList]
      exact execOps_sound hc (fun st' lam' a' w' hk hR' hd' => hQ .normal st' lam' a' w' hk hR' hd') ops.toList 0 rfl _ lam a w h (hR.prekill _) hd
  | .seq x y, K, st, lam, a, w, Q, h, hR, hd, hQ => by
    simp only [exec] at h
    refine wp_seq (exec_sound hc x _ st lam a w _ h hR hd fun e st' lam' a' w' hk hR' hd' => ?_)
    cases e with
    | normal => exact exec_sound hc y K st' lam' a' w' Q hk hR' hd' hQ
    | exit id => exact hQ (.exit id) st' lam' a' w' hk hR' hd'
    | ret => exact hQ .ret st' lam' a' w' hk hR' hd'
  | .cond c x y, K, st, lam, a, w, Q, h, hR, hd, hQ => by
    simp only [exec] at h
    split at h
    · rename_i b hb
      have hv := RelV_bool (asT_rel hb (ent_rel hR c))
      cases b with
      | true => exact wp_cond_true hv (exec_sound hc x K st lam a w Q h hR hd hQ)
      | false => exact wp_cond_false hv (exec_sound hc y K st lam a w Q h hR hd hQ)
    · contradiction
  | .block id c, K, st, lam, a, w, Q, h, hR, hd, hQ => by
    simp only [exec] at h
    refine wp_block (exec_sound hc c _ st lam a w _ h hR hd fun e st' lam' a' w' hk hR' hd' => ?_)
    cases e with
    | normal => exact hQ .normal st' lam' a' w' hk hR' hd'
    | exit i =>
      simp only [kBlock] at hk
      simp only [exOf, Exit.inBlock]
      cases hi : Nat.beq i id with
      | true =>
        rw [hi] at hk
        rw [if_pos (Nat.eq_of_beq_eq_true hi)]
        exact hQ .normal st' lam' a' w' hk hR' hd'
      | false =>
        rw [hi] at hk
        rw [if_neg (by rintro rfl; simp at hi)]
        exact hQ (.exit i) st' lam' a' w' hk hR' hd'
    | ret => exact hQ .ret st' lam' a' w' hk hR' hd'
  | .loop c, K, st, lam, a, w, Q, h, hR, hd, hQ => by
    simp only [exec] at h
    refine wp_loop_n (fun m a w => ∃ st lam, loopN (fun rec => exec cfg call n fid c (kLoop rec (lk2 fid (first c) cfg.keep) K)) m st = some r ∧ Rel O B w0 st lam a.tmps w ∧ a.defers = []) ⟨_, lam, h, hR.fgt _, hd⟩ ?_ ?_
    · rintro a w ⟨st, lam, h1, _⟩
      simp [loopN] at h1
    · rintro m a w ⟨st1, lam1, h1, h2, h3⟩
      simp only [loopN] at h1
      refine exec_sound hc c _ st1 lam1 a w _ h1 h2 h3 fun e st' lam' a' w' hk hR' hd' => ?_
      cases e with
      | normal => exact ⟨_, lam', hk, hR'.fgt _, hd'⟩
      | exit id => exact hQ (.exit id) st' lam' a' w' hk hR' hd'
      | ret => exact hQ .ret st' lam' a' w' hk hR' hd'
  | .scope c, K, st, lam, a, w, Q, h, hR, hd, hQ => by
    simp only [exec] at h
    refine wp_scope_straight (exec_sound hc c K st lam a w _ h hR hd fun e st' lam' a' w' hk hR' hd' => ?_)
    cases e with
    | normal => exact hQ .normal st' lam' a' w' hk hR' hd'
    | exit id => exact hQ (.exit id) st' lam' a' w' hk hR' hd'
    | ret => exact hQ .ret st' lam' a' w' hk hR' hd'
  | .goto l, K, st, lam, a, w, Q, h, hR, hd, hQ => by simp [exec] at h
  | .refuse why, K, st, lam, a, w, Q, h, hR, hd, hQ => by simp [exec] at h
  | .rangeFunc f ps as b, K, st, lam, a, w, Q, h, hR, hd, hQ => by simp [exec] at h

/-- One result as the model reads it. -/
def readR (tm : Array Value) (rv : ResultVar) : Sem Value := match rv with
  | .tmp t => pure (tm.getD t undef)
  | .cell a t => do loadVar t (← asAddr (tm.getD a undef))
theorem resVal_run (hok : CfgOk P cfg) {tm : Array Value} (hR : Rel O B w0 st lam tm w) {T : Ty} {x : den T} {rv : ResultVar} (h : resVal cfg T st rv = some x) :
    ∃ v, (readR tm rv).run P w = .ok v w ∧ RelV (Cst (Full O st.objs lam) w) T x v := by
  cases rv with
  | tmp t => exact ⟨_, rfl, asT_rel h (hR.env t)⟩
  | cell c t =>
    unfold resVal at h
    dsimp only at h
    split at h
    · rename_i T1 s hT hent
      split at h
      · rename_i T0 y ho
        replace h := bif_some h
        obtain ⟨hb, h⟩ := h
        obtain rfl := of_decide_eq_true hb
        obtain ⟨rfl, rfl⟩ := castT_some h
        have he := hR.env c
        rw [hent] at he
        obtain ⟨ad, h1, h2⟩ := ref_spot hR he ho rfl
        obtain ⟨v, h3, h4⟩ := run_loadAt (P := P) (hok.ty _ _ hT) h2
        refine ⟨v, ?_, h4⟩
        simp only [Instr.loadAt, Instr.sureAddr, Sem.run_bind, Sem.run_pure, Result.andThen_ok] at h3
        simp only [readR, h1, asAddr, Sem.run_bind, Sem.run_pure, Result.andThen_ok, h3]
      · contradiction
    · contradiction
theorem results_run (F : Func) (tm : Array Value) : (results F tm).run P w = ((F.results.toList.mapM (readR tm)).run P w).andThen fun vs w => .ok (if h : vs.length = 1 then vs[0] else .tuple vs.toArray) w := by
  have h0 : results F tm = (do let vs ← F.results.mapM (readR tm); pure (if h : vs.size = 1 then vs[0] else .tuple vs)) := rfl
  rw [h0, Sem.run_bind, Array.mapM_eq_mapM_toList, Sem.run_map]
  cases (F.results.toList.mapM (readR tm)).run P w with
  | ok vs w1 => simp [Result.andThen]
  | halt x w1 => rfl

theorem noSlot (hR : Rel O B w0 st lam tm w) {T : Ty} {x : den T} {v : Value} (h : RelV (Cst (Full O st.objs lam) w) T x v) : RelV (Cst O w) T x v :=
  RelV_mono (Cst_mono fun g hg => .inl hg) h

theorem retV_run (hok : CfgOk P cfg) (hR : Rel O B w0 st lam tm w) {F : Func} {R : RTy} {x : denR R} (h : retV cfg R F.results.toList st = some x) :
    ∃ v, (results F tm).run P w = .ok v w ∧ RelEnt (Cst (Full O st.objs lam) w) [] (fun _ => undef) (resE R x) v := by
  rw [results_run]
  generalize F.results.toList = rs at *
  cases R with
  | none =>
    cases rs with
    | nil => exact ⟨_, rfl, rfl⟩
    | cons a r => simp [retV] at h
  | one T =>
    match rs, h with
    | [a], h =>
      obtain ⟨v, h1, h2⟩ := resVal_run hok hR (x := x) h
      refine ⟨v, ?_, h2⟩
      simp [h1]
    | [], h => simp [retV] at h
    | _ :: _ :: _, h => simp [retV] at h
  | two A B' =>
    match rs, h with
    | [a, b], h =>
      simp only [retV] at h
      split at h
      · rename_i x1 y1 hx hy
        simp only [Option.some.injEq] at h
        subst h
        obtain ⟨v, h1, h2⟩ := resVal_run hok hR hx
        obtain ⟨u, h3, h4⟩ := resVal_run hok hR hy
        refine ⟨.tuple #[v, u], ?_, #[v, u], rfl, v, [u], rfl, h2, u, [], rfl, h4, rfl⟩
        simp [h1, h3]
      · contradiction
    | [], h => simp [retV] at h
    | [_], h => simp [retV] at h
    | _ :: _ :: _ :: _, h => simp [retV] at h
  | three A B' D =>
    match rs, h with
    | [a, b, c], h =>
      simp only [retV] at h
      split at h
      · rename_i x1 y1 z1 hx hy hz
        simp only [Option.some.injEq] at h
        subst h
        obtain ⟨v, h1, h2⟩ := resVal_run hok hR hx
        obtain ⟨u, h3, h4⟩ := resVal_run hok hR hy
        obtain ⟨t, h5, h6⟩ := resVal_run hok hR hz
        refine ⟨.tuple #[v, u, t], ?_, #[v, u, t], rfl, v, [u, t], rfl, h2, u, [t], rfl, h4, t, [], rfl, h6, rfl⟩
        simp [h1, h3, h5]
      · contradiction
    | [], h => simp [retV] at h
    | [_], h => simp [retV] at h
    | [_, _], h => simp [retV] at h
    | _ :: _ :: _ :: _ :: _, h => simp [retV] at h

theorem RelEs_len {C : Cells} : ∀ {es : List Ent} {vs : List Value}, RelEs C es vs → es.length = vs.length
  | [], _, h => by simp only [RelEs] at h; subst h; rfl
  | _ :: _, _, ⟨v, r, h1, _, h3⟩ => by subst h1; simp [RelEs_len h3]
theorem RelEs_get {C : Cells} : ∀ {es : List Ent} {vs : List Value} (t : Nat), RelEs C es vs → t < es.length → ∀ more, RelEnt C [] (fun _ => undef) (eget t (es ++ more)) (vs.getD t undef)
  | [], _, t, _, ht, _ => by simp at ht
  | e :: es, _, 0, ⟨v, r, h1, h2, _⟩, _, more => by subst h1; simpa [eget] using h2
  | e :: es, _, t + 1, ⟨v, r, h1, _, h3⟩, ht, more => by subst h1; simpa [eget] using RelEs_get t h3 (by simpa using ht) more
theorem eget_app (t : Nat) : ∀ (l : List Ent) (m : List Ent), l.length ≤ t → eget t (l ++ m) = eget (t - l.length) m := by
  intro l
  induction l generalizing t with
  | nil => intro m _; simp
  | cons e r ih =>
    intro m h
    cases t with
    | zero => simp at h
    | succ t => simp only [List.cons_append, eget, List.length_cons]; rw [ih t m (by simpa using h)]; congr 1; omega
theorem eget_undefs : ∀ (n t : Nat), eget t (undefs n) = skipE ∨ eget t (undefs n) = U := by
  intro n
  induction n with
  | zero => intro t; right; simp [undefs, eget]
  | succ n ih => intro t; cases t with
    | zero => left; simp [undefs, eget]
    | succ t => simp only [undefs, eget]; exact ih t
theorem length_undefs (n : Nat) : (undefs n).length = n := by
  induction n with
  | zero => rfl
  | succ n ih => simp [undefs, ih]

/-- The start of a call. -/
def base0 (w : World) (n : Nat) : Base := ⟨fun g => w.heap.size ≤ g, n, [], fun _ => undef⟩
theorem tmps_low {cargs : Array Value} {n t : Nat} (h : t < cargs.size) : (cargs ++ Array.replicate (n - cargs.size) undef).getD t undef = cargs.toList.getD t undef := by
  simp [Array.getElem?_append_left h, List.getD_eq_getElem?_getD]
theorem tmps_high {cargs : Array Value} {n t : Nat} (h : cargs.size ≤ t) : (cargs ++ Array.replicate (n - cargs.size) undef).getD t undef = undef := by
  simp only [Array.getD_eq_getD_getElem?]
  rw [Array.getElem?_append_right h]
  rw [Array.getElem?_replicate]
  split <;> rfl
theorem Rel.start {F : Func} {args : List Ent} {cargs : Array Value} (hO : ∀ g, O g → g < w.heap.size) (hA : AmbOk (Cst O w)) (h : RelEs (Cst O w) args cargs.toList) :
    Rel O (base0 w (st0 F args).env.length) w (st0 F args) (fun _ => undef) (cargs ++ Array.replicate (F.ntmps - cargs.size) undef) w := by
  have hl := RelEs_len h
  have hC : ∀ a u, Cst O w a u → Cst (Full O [] fun _ => undef) w a u := Cst_mono (by rintro g (h1 | ⟨s, o, h1, _⟩); exact h1; simp [oget] at h1)
  refine ⟨fun t => ?_, ?_, fun s o hs => by simp [st0, oget] at hs, fun s s' o o' g h1 => by simp [st0, oget] at h1, BelN.refl _ _, fun g hg => hg, fun g hg => ⟨by have := hO g hg; simp only [base0]; omega, hO g hg⟩, hA.mono hC, Nat.le_refl _, fun s o _ ho => by simp [st0, oget] at ho⟩
  · simp only [st0]
    rcases Nat.lt_or_ge t args.length with h1 | h1
    · have h2 := RelEs_get t h h1 (undefs (F.ntmps - args.length))
      rw [tmps_low (by rw [← Array.length_toList, ← hl]; exact h1)]
      exact RelEnt_id (fun e v he => RelE_weak hC (fun _ _ => rfl) he) h2
    · rw [eget_app t _ _ h1, tmps_high (by rw [← Array.length_toList, ← hl]; exact h1)]
      rcases eget_undefs (F.ntmps - args.length) (t - args.length) with h5 | h5 <;> rw [h5]
      · rfl
      · trivial
  · simp only [st0, List.length_append, length_undefs, Array.size_append, Array.size_replicate]
    rw [← Array.length_toList, ← hl]; omega
theorem RelEsI_len {C : Cells} {objs : List (Nat × Obj)} {lam : Nat → Value} : ∀ {es : List Ent} {vs : List Value}, RelEsI C objs lam es vs → es.length = vs.length
  | [], _, h => by simp only [RelEsI] at h; subst h; rfl
  | _ :: _, _, ⟨v, r, h1, _, h3⟩ => by subst h1; simp [RelEsI_len h3]
theorem RelEsI_get {C : Cells} {objs : List (Nat × Obj)} {lam : Nat → Value} : ∀ {es : List Ent} {vs : List Value} (t : Nat), RelEsI C objs lam es vs → t < es.length → ∀ more, RelEnt C objs lam (eget t (es ++ more)) (vs.getD t undef)
  | [], _, t, _, ht, _ => by simp at ht
  | e :: es, _, 0, ⟨v, r, h1, h2, _⟩, _, more => by subst h1; simpa [eget] using h2
  | e :: es, _, t + 1, ⟨v, r, h1, _, h3⟩, ht, more => by subst h1; simpa [eget] using RelEsI_get t h3 (by simpa using ht) more
theorem Rel.startI {F : Func} {args : List Ent} {objs : List (Nat × Obj)} {cargs : Array Value} (hn : args.length ≤ F.ntmps) (hO : ∀ g, O g → g < w.heap.size ∧ ¬ Owned objs lam g) (hm : MemOk O (LentN objs lam w) w objs lam) (hA : AmbOk (Cst (Full O objs lam) w))
    (h : RelEsI (Cst (Full O objs lam) w) objs lam args cargs.toList) :
    Rel O ⟨LentN objs lam w, F.ntmps, objs, lam⟩ w (stI F args objs) lam (cargs ++ Array.replicate (F.ntmps - cargs.size) undef) w := by
  have hl := RelEsI_len h
  have hlen : (stI F args objs).env.length = F.ntmps := by simp only [stI, List.length_append, length_undefs]; omega
  refine ⟨fun t => ?_, ?_, fun s o hs => RelO_base (fun g _ hg => hg) (hm.obj s o hs), hm.apart, BelN.refl _ _, fun g hg => .inr hg, fun g hg => ⟨?_, (hO g hg).1⟩, hA, by rw [hlen]; exact Nat.le_refl _, fun s o _ ho => ⟨o, ho, LamK_self (hm.obj s o ho), sameK_refl o⟩⟩
  · simp only [stI]
    rcases Nat.lt_or_ge t args.length with h1 | h1
    · have h2 := RelEsI_get t h h1 (undefs (F.ntmps - args.length))
      rw [tmps_low (by rw [← Array.length_toList, ← hl]; exact h1)]
      exact h2
    · rw [eget_app t _ _ h1, tmps_high (by rw [← Array.length_toList, ← hl]; exact h1)]
      rcases eget_undefs (F.ntmps - args.length) (t - args.length) with h5 | h5 <;> rw [h5]
      · rfl
      · trivial
  · rw [hlen, Array.size_append, Array.size_replicate]; omega
  · rintro (h1 | h1)
    · exact (hO g hg).2 h1
    · have := (hO g hg).1; omega

theorem lents_out {objs : List (Nat × Obj)} : ∀ {ks : List LentK} {n : Nat} {y : denKs ks}, lents n objs ks = some y → ∀ s o, oget s (outK n ks y) = some o → oget s objs = some o ∧ n ≤ s ∧ s < n + ks.length
  | [], n, y, _, s, o, h => by simp [outK, oget] at h
  | .dead :: ks, n, y, hl, s, o, h => by
    simp only [lents, Option.map_eq_some_iff] at hl
    obtain ⟨r, h1, rfl⟩ := hl
    obtain ⟨k1, k2, k3⟩ := lents_out h1 s o h
    exact ⟨k1, by omega, by simp; omega⟩
  | .box T :: ks, n, y, hl, s, o, h => by
    simp only [lents] at hl
    split at hl
    · rename_i T' x hx
      split at hl
      · rename_i y1 r h1 h2
        simp only [Option.some.injEq] at hl
        subst hl
        obtain ⟨rfl, rfl⟩ := castT_some h1
        simp only [outK, oget_cons] at h
        split at h
        · rename_i e; subst e; simp only [Option.some.injEq] at h; subst h; exact ⟨hx, Nat.le_refl _, by simp⟩
        · obtain ⟨k1, k2, k3⟩ := lents_out h2 s o h
          exact ⟨k1, by omega, by simp; omega⟩
      · contradiction
    · contradiction
  | .arr e T :: ks, n, y, hl, s, o, h => by
    simp only [lents] at hl
    split at hl
    · rename_i e' T' x hx
      split at hl
      · rename_i y1 r h1 h2
        replace hl := bif_some hl
        obtain ⟨he, hl⟩ := hl
        obtain rfl := Nat.eq_of_beq_eq_true he
        simp only [Option.some.injEq] at hl
        subst hl
        obtain ⟨hT, h1'⟩ := castT_some h1
        simp only [Ty.slice.injEq] at hT
        subst hT
        have h1'' : x = y1 := by simpa using h1'.symm
        subst h1''
        simp only [outK, oget_cons] at h
        split at h
        · rename_i e; subst e; simp only [Option.some.injEq] at h; subst h; exact ⟨hx, Nat.le_refl _, by simp⟩
        · obtain ⟨k1, k2, k3⟩ := lents_out h2 s o h
          exact ⟨k1, by omega, by simp; omega⟩
      · contradiction
    · contradiction
  | .obj k T :: ks, n, y, hl, s, o, h => by
    simp only [lents] at hl
    split at hl
    · rename_i k' T' x hx
      split at hl
      · rename_i y1 r h1 h2
        replace hl := bif_some hl
        obtain ⟨he, hl⟩ := hl
        obtain rfl := Nat.eq_of_beq_eq_true he
        simp only [Option.some.injEq] at hl
        subst hl
        obtain ⟨rfl, rfl⟩ := castT_some h1
        simp only [outK, oget_cons] at h
        split at h
        · rename_i e; subst e; simp only [Option.some.injEq] at h; subst h; exact ⟨hx, Nat.le_refl _, by simp⟩
        · obtain ⟨k1, k2, k3⟩ := lents_out h2 s o h
          exact ⟨k1, by omega, by simp; omega⟩
      · contradiction
    · contradiction

/-- The end of a call by reference. -/
theorem LamK_stay {objs0 : List (Nat × Obj)} {v v' : Value} {o : Obj} {s : Nat} (h : ∃ o0, oget s objs0 = some o0 ∧ LamK o v v' ∧ sameK o0 o) : LamK o v v' := by
  obtain ⟨_, _, h, _⟩ := h; exact h
theorem retS_ok (hok : CfgOk P cfg) {F : Func} {S : Sig} {x : denS S} {objs0 : List (Nat × Obj)} {lam0 : Nat → Value} {N : Nat → Prop} (hR : Rel O ⟨N, F.ntmps, objs0, lam0⟩ w0 st lam tm w) (h : retS cfg F S st = some x) :
    ∃ v lam', (results F tm).run P w = .ok v w ∧ (∀ s o, oget s (outS F.ntmps S x) = some o → F.ntmps ≤ s → s < F.ntmps + S.lent.length → LamK o (lam0 s) (lam' s)) ∧
      MemOk O N w (outS F.ntmps S x) lam' ∧ ResOk (Cst (Full O (outS F.ntmps S x) lam') w) (outS F.ntmps S x) lam' F.ntmps S x v := by
  obtain ⟨res, ks⟩ := S
  cases res with
  | vals R =>
    simp only [retS] at h
    have hR1 := hR.pubRes F.results.toList
    generalize pubRes F.results.toList st = st1 at h hR1
    split at h
    · rename_i x1 y1 hx hy
      simp only [Option.some.injEq] at h
      subst h
      obtain ⟨v, h1, h2⟩ := retV_run hok hR1 hx
      let lam' : Nat → Value := lam
      have hout := lents_out hy
      have hlam : ∀ s o, oget s (outK F.ntmps ks y1) = some o → lam' s = lam s := by
        intro s o hs; rfl
      have hF : ∀ g, Full O (outK F.ntmps ks y1) lam' g → Full O st1.objs lam g := by
        rintro g (q | ⟨s, o, q1, q2⟩)
        · exact .inl q
        · exact .inr ⟨s, o, (hout s o q1).1, by rw [← hlam s o q1]; exact q2⟩
      refine ⟨v, lam', h1, fun s o hs k1 k2 => LamK_stay (hR1.stay.2 s o k1 (hout s o hs).1), ⟨fun s o hs => ?_, fun s s' o o' g q1 q2 q3 q4 => ?_⟩, resE_mono (Cst_mono hF) h2⟩
      · rw [hlam s o hs]
        exact RelO_base (fun g _ hg => hg) (RelO_mono (Cst_mono hF) (hR1.objs s o (hout s o hs).1))
      · rw [hlam s o q1] at q3
        rw [hlam s' o' q2] at q4
        exact hR1.apart s s' o o' g (hout s o q1).1 (hout s' o' q2).1 q3 q4
    · contradiction
  | row e T =>
    simp only [retS] at h
    split at h
    · rename_i t hres
      split at h
      · rename_i s0 hent
        split at h
        · rename_i e' T' l ho
          split at h
          · rename_i x1 y1 hx hy
            replace h := bif_some h
            obtain ⟨he, h⟩ := h
            obtain rfl := Nat.eq_of_beq_eq_true he
            simp only [Option.some.injEq] at h
            subst h
            obtain ⟨hT, hx'⟩ := castT_some hx
            simp only [Ty.slice.injEq] at hT
            subst hT
            have hx'' : l = x1 := by simpa using hx'.symm
            subst hx''
            have hentv := hR.env t
            rw [hent] at hentv
            obtain ⟨_, hv⟩ := hentv
            let lam' : Nat → Value := fun s => if s = F.ntmps + ks.length then lam s0 else lam s
            have hout0 := lents_out hy
            have hout : ∀ s o, oget s (outK F.ntmps ks y1) = some o → oget s st.objs = some o ∧ s ≠ s0 ∧ F.ntmps ≤ s ∧ s < F.ntmps + ks.length := by
              intro s o hs
              obtain ⟨k1, k2, k3⟩ := hout0 s o hs
              rw [oget_del] at k1
              split at k1
              · contradiction
              · rename_i hne; exact ⟨k1, hne, k2, k3⟩
            have hlam : ∀ s o, oget s (outK F.ntmps ks y1) = some o → lam' s = lam s := by
              intro s o hs
              obtain ⟨k1, k0, k2, k3⟩ := hout s o hs
              simp only [lam']; rw [if_neg (by omega)]
            have hl0 : lam' (F.ntmps + ks.length) = lam s0 := by simp [lam']
            have hcases : ∀ s o, oget s (outS F.ntmps ⟨.row e T', ks⟩ (l, y1)) = some o → ∃ s1, oget s1 st.objs = some o ∧ lam' s = lam s1 ∧ ((s = F.ntmps + ks.length ∧ s1 = s0) ∨ (s ≠ F.ntmps + ks.length ∧ s1 = s ∧ s1 ≠ s0)) := by
              intro s o hs
              simp only [outS, oget_cons] at hs
              split at hs
              · rename_i e; subst e; simp only [Option.some.injEq] at hs; subst hs; exact ⟨s0, ho, hl0, .inl ⟨rfl, rfl⟩⟩
              · rename_i hne
                exact ⟨s, (hout s o hs).1, hlam s o hs, .inr ⟨hne, rfl, (hout s o hs).2.1⟩⟩
            have hF : ∀ g, Full O (outS F.ntmps ⟨.row e T', ks⟩ (l, y1)) lam' g → Full O st.objs lam g := by
              rintro g (q | ⟨s, o, q1, q2⟩)
              · exact .inl q
              · obtain ⟨s1, p1, p2, _⟩ := hcases s o q1
                exact .inr ⟨s1, o, p1, by rw [← p2]; exact q2⟩
            refine ⟨lam s0, lam', ?_, fun s o hs k1 k2 => ?_, ⟨fun s o hs => ?_, fun s s' o o' g q1 q2 q3 q4 => ?_⟩, hl0⟩
            · rw [results_run, hres]
              simp [readR, hv]
            · have k2' : s < F.ntmps + ks.length := k2
              obtain ⟨s1, p1, p2, p3⟩ := hcases s o hs
              rcases p3 with ⟨r1, _⟩ | ⟨r1, r2, r3⟩
              · omega
              · rw [p2, r2]
                rw [r2] at p1
                exact LamK_stay (hR.stay.2 s o k1 p1)
            · obtain ⟨s1, p1, p2, _⟩ := hcases s o hs
              rw [p2]
              exact RelO_base (fun g _ hg => hg) (RelO_mono (Cst_mono hF) (hR.objs s1 o p1))
            · obtain ⟨s1, p1, p2, p3⟩ := hcases s o q1
              obtain ⟨s2, p4, p5, p6⟩ := hcases s' o' q2
              rw [p2] at q3
              rw [p5] at q4
              have := hR.apart s1 s2 o o' g p1 p4 q3 q4
              rcases p3 with ⟨r1, r2⟩ | ⟨r1, r2, r3⟩ <;> rcases p6 with ⟨r4, r5⟩ | ⟨r4, r5, r6⟩
              · rw [r1, r4]
              · exact absurd (this ▸ r2) r6
              · exact absurd (this ▸ r5) (fun h => r3 (by rw [this]; exact r5))
              · rw [← r2, ← r5, this]
          · contradiction
        · contradiction
      · contradiction
    · contradiction

  | rowv e T A =>
    simp only [retS] at h
    split at h
    · rename_i t rv hres
      split at h
      · rename_i s0 hent
        split at h
        · rename_i e' T' l ho
          split at h
          · rename_i x1 y1 z1 hx hy hz
            replace h := bif_some h
            obtain ⟨he, h⟩ := h
            obtain rfl := Nat.eq_of_beq_eq_true he
            simp only [Option.some.injEq] at h
            subst h
            obtain ⟨hT, hx'⟩ := castT_some hx
            simp only [Ty.slice.injEq] at hT
            subst hT
            have hx'' : l = x1 := by simpa using hx'.symm
            subst hx''
            have hentv := hR.env t
            rw [hent] at hentv
            obtain ⟨_, hv⟩ := hentv
            let lam' : Nat → Value := fun s => if s = F.ntmps + ks.length then lam s0 else lam s
            have hout0 := lents_out hy
            have hout : ∀ s o, oget s (outK F.ntmps ks y1) = some o → oget s st.objs = some o ∧ s ≠ s0 ∧ F.ntmps ≤ s ∧ s < F.ntmps + ks.length := by
              intro s o hs
              obtain ⟨k1, k2, k3⟩ := hout0 s o hs
              rw [oget_del] at k1
              split at k1
              · contradiction
              · rename_i hne; exact ⟨k1, hne, k2, k3⟩
            have hlam : ∀ s o, oget s (outK F.ntmps ks y1) = some o → lam' s = lam s := by
              intro s o hs
              obtain ⟨k1, k0, k2, k3⟩ := hout s o hs
              simp only [lam']; rw [if_neg (by omega)]
            have hl0 : lam' (F.ntmps + ks.length) = lam s0 := by simp [lam']
            have hcases : ∀ s o, oget s (outS F.ntmps ⟨.rowv e T' A, ks⟩ ((l, z1), y1)) = some o → ∃ s1, oget s1 st.objs = some o ∧ lam' s = lam s1 ∧ ((s = F.ntmps + ks.length ∧ s1 = s0) ∨ (s ≠ F.ntmps + ks.length ∧ s1 = s ∧ s1 ≠ s0)) := by
              intro s o hs
              simp only [outS, oget_cons] at hs
              split at hs
              · rename_i e; subst e; simp only [Option.some.injEq] at hs; subst hs; exact ⟨s0, ho, hl0, .inl ⟨rfl, rfl⟩⟩
              · rename_i hne
                exact ⟨s, (hout s o hs).1, hlam s o hs, .inr ⟨hne, rfl, (hout s o hs).2.1⟩⟩
            have hF : ∀ g, Full O (outS F.ntmps ⟨.rowv e T' A, ks⟩ ((l, z1), y1)) lam' g → Full O st.objs lam g := by
              rintro g (q | ⟨s, o, q1, q2⟩)
              · exact .inl q
              · obtain ⟨s1, p1, p2, _⟩ := hcases s o q1
                exact .inr ⟨s1, o, p1, by rw [← p2]; exact q2⟩
            obtain ⟨u, hu1, hu2⟩ := resVal_run hok hR hz
            refine ⟨.tuple #[lam s0, u], lam', ?_, fun s o hs k1 k2 => ?_, ⟨fun s o hs => ?_, fun s s' o o' g q1 q2 q3 q4 => ?_⟩, ⟨_, u, rfl, hl0, RelV_mono (Cst_mono hF) hu2⟩⟩
            · rw [results_run, hres]
              simp [readR, hv] at hu1 ⊢
              simp [hu1]
            · have k2' : s < F.ntmps + ks.length := k2
              obtain ⟨s1, p1, p2, p3⟩ := hcases s o hs
              rcases p3 with ⟨r1, _⟩ | ⟨r1, r2, r3⟩
              · omega
              · rw [p2, r2]
                rw [r2] at p1
                exact LamK_stay (hR.stay.2 s o k1 p1)
            · obtain ⟨s1, p1, p2, _⟩ := hcases s o hs
              rw [p2]
              exact RelO_base (fun g _ hg => hg) (RelO_mono (Cst_mono hF) (hR.objs s1 o p1))
            · obtain ⟨s1, p1, p2, p3⟩ := hcases s o q1
              obtain ⟨s2, p4, p5, p6⟩ := hcases s' o' q2
              rw [p2] at q3
              rw [p5] at q4
              have := hR.apart s1 s2 o o' g p1 p4 q3 q4
              rcases p3 with ⟨r1, r2⟩ | ⟨r1, r2, r3⟩ <;> rcases p6 with ⟨r4, r5⟩ | ⟨r4, r5, r6⟩
              · rw [r1, r4]
              · exact absurd (this ▸ r2) r6
              · exact absurd (this ▸ r5) (fun h => r3 (by rw [this]; exact r5))
              · rw [← r2, ← r5, this]
          · contradiction
        · contradiction
      · contradiction
    · contradiction
  | newobj k T => simp [retS] at h

/-- What the interpreter says of calls holds of the machine's calls. -/
theorem acalls_sound (hok : CfgOk P cfg) (hbody : ∀ f F, lk f cfg.fns = some F → ∃ b, F.body = some b) {intr : Intr} {intrI : IntrI}
    (hintr : ∀ f g n args R x, lk f intr = some g → g n args R = some x → CallOk P f args R x)
    (hintrI : ∀ f g F n args ob S x, lk f intrI = some g → lk f cfg.fns = some F → g n args ob S = some x → ICallOk P F.ntmps f args ob S x) : ∀ (n : Nat), CallsOk P cfg (acalls cfg intr intrI n)
  | 0 => ⟨hok, fun f F ents ob S x _ h => by simp [acalls] at h, fun f args R x h => by simp [acalls] at h, hbody⟩
  | n + 1 => by
    have hc := acalls_sound hok hbody hintr hintrI n
    refine ⟨hok, fun f F args ob S x hF h => ?_, fun f args R x h => ?_, hbody⟩
    · simp only [acalls] at h
      split at h
      · rename_i g hg; exact hintrI f g F n args ob S x hg hF h
      · rw [hF] at h
        dsimp only at h
        split at h
        · rename_i b hb
          replace h := bif_some h
          obtain ⟨hn, h⟩ := h
          have hn := Nat.le_of_ble_eq_true hn
          intro O w cargs lam hO hm hA hargs
          refine calls_of_wp (hok.fns _ _ hF).1 hb ?_
          refine exec_sound hc b _ _ lam _ w _ h (Rel.startI hn hO hm hA hargs) rfl fun e st' lam' a' w' hk hR' hd' => ?_
          have fin : retS cfg F S st' = some x → a'.defers = [] ∧ ∃ v, (results F a'.tmps).run P w' = .ok v w' ∧ ∃ v' lam'', Ending.returned v = .returned v' ∧ BelN (LentN ob lam w) w w' ∧ (∀ s o, oget s (outS F.ntmps S x) = some o → F.ntmps ≤ s → s < F.ntmps + S.lent.length → LamK o (lam s) (lam'' s)) ∧
              MemOk O (LentN ob lam w) w' (outS F.ntmps S x) lam'' ∧ ResOk (Cst (Full O (outS F.ntmps S x) lam'') w') (outS F.ntmps S x) lam'' F.ntmps S x v' := by
            intro hk
            obtain ⟨v, lam'', h1, h2, h3, h4⟩ := retS_ok hok hR' hk
            exact ⟨hd', v, h1, v, lam'', rfl, hR'.below, h2, h3, h4⟩
          cases e with
          | normal => exact fin hk
          | exit id => simp [kretS] at hk
          | ret => exact fin hk
        · contradiction
    · simp only [acalls] at h
      split at h
      · rename_i g hg; exact hintr f g n args R x hg h
      · split at h
        · rename_i F hF
          split at h
          · rename_i b hb
            intro O w cargs hO hA hargs
            refine calls_of_wp (hok.fns _ _ hF).1 hb ?_
            refine exec_sound hc b _ _ (fun _ => undef) _ w _ h (Rel.start hO hA hargs) rfl fun e st' lam' a' w' hk hR' hd' => ?_
            have fin : retV cfg R F.results.toList (pubRes F.results.toList st') = some x → a'.defers = [] ∧ ∃ v, (results F a'.tmps).run P w' = .ok v w' ∧ ∃ v', Ending.returned v = .returned v' ∧ RelEnt (Cst O w') [] (fun _ => undef) (resE R x) v' ∧ Below w.heap.size w w' := by
              intro hk
              obtain ⟨v, h1, h2⟩ := retV_run hok (hR'.pubRes _) hk
              exact ⟨hd', v, h1, v, rfl, resE_mono (Cst_mono fun g hg => .inl hg) h2, BelN.toBelow hR'.below⟩
            cases e with
            | normal => exact fin hk
            | exit id => simp [kret] at hk
            | ret => exact fin hk
          · contradiction
        · contradiction
abbrev acall (cfg : Cfg) (intr : Intr) (intrI : IntrI) (n : Nat) (f : FuncId) (args : List Ent) (R : RTy) : Option (denR R) := (acalls cfg intr intrI n).p f args R
end
end Go.Proofs.YtlcphnmkkilefaaDoor.Ab
