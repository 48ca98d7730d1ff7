/- The abstract interpreter, part 8: assignments, operations of all kinds, regions in the text's order. -/
import Derived.Test.YtlcphnmkkilefaaDoorAI
set_option linter.unusedVariables false
set_option linter.unusedSimpArgs false
namespace Go.Proofs.YtlcphnmkkilefaaDoor.Ab
open Go Go.RowKit

section
variable {P : Program} {cfg : Cfg} {O : Nat → Prop} {B : Base} {w0 w w' : World} {st st1 : St} {lam : Nat → Value} {tm : Array Value} {C : Cells} {α : Type}

theorem Rel.rename (h : Rel O B w0 st lam tm w) {s d : Nat} (hne : s ≠ d) {ob : Obj} (ho : oget s st.objs = some ob) (harr : ∃ e T l, ob = .arr e T l) (hdn : d < B.nt) :
    Rel O B w0 { env := eset d (.s (.arr d)) ((Ab.kill d st).env.map (map1 (ren1 s d))), objs := (d, ob) :: odel s (Ab.kill d st).objs } (upd lam d (lam s)) (tm.setIfInBounds d (lam s)) w := by
  have hget : ∀ k, oget k ((d, ob) :: odel s (Ab.kill d st).objs) = if k = d then some ob else if k = s then none else oget k st.objs := by
    intro k
    rw [oget_cons, oget_del, kill_objs]
    by_cases h1 : k = d <;> by_cases h2 : k = s <;> simp [h1, h2]
  have hF : ∀ g, Full O ((d, ob) :: odel s (Ab.kill d st).objs) (upd lam d (lam s)) g → Full O st.objs lam g := by
    rintro g (h1 | ⟨k, o, h1, h2⟩)
    · exact .inl h1
    · rw [hget] at h1
      by_cases hk : k = d
      · rw [upd, if_pos hk] at h2; exact .inr ⟨s, ob, ho, h2⟩
      · rw [if_neg hk] at h1
        rw [upd, if_neg hk] at h2
        split at h1
        · contradiction
        · exact .inr ⟨k, o, h1, h2⟩
  have hC := Cst_mono (w := w) hF
  refine ⟨fun t => ?_, by simpa [length_eset, Ab.kill] using h.len, fun k o hk => ?_, fun k k' o o' g h1 h2 h3 h4 => ?_, h.below, h.base, h.out, h.amb.mono hC, by simpa [length_eset, Ab.kill] using h.stay.1, fun k o hk1 hk2 => ?_⟩
  rotate_left 3
  · simp only [hget] at hk2
    have hkd : k ≠ d := by omega
    rw [if_neg hkd] at hk2
    split at hk2
    · contradiction
    · rw [upd, if_neg hkd]; exact h.stay.2 k o hk1 hk2
  · simp only [eget_set]
    split
    · rename_i hh
      obtain ⟨rfl, hd⟩ := hh
      have : t < tm.size := by
        have h1 : ((Ab.kill t st).env.map (map1 (ren1 s t))).length = st.env.length := by simp [Ab.kill]
        exact Nat.lt_of_lt_of_le (by omega) h.len
      simp [this]
      obtain ⟨e, T, l, rfl⟩ := harr
      exact arr_ent
    · rename_i hh
      by_cases ht : t = d
      · subst ht
        have : ((Ab.kill t st).env.map (map1 (ren1 s t))).length ≤ t := by
          rcases Nat.lt_or_ge t ((Ab.kill t st).env.map (map1 (ren1 s t))).length with h1 | h1
          · exact absurd ⟨rfl, h1⟩ hh
          · exact h1
        rw [eget_ge t _ this]; trivial
      · rw [eget_map _ (by simp [ren1, onSlot, slotOf])]
        have h0 := kill_rel h d t
        have : RelEnt (Cst (Full O ((d, ob) :: odel s (Ab.kill d st).objs) (upd lam d (lam s))) w) ((d, ob) :: odel s (Ab.kill d st).objs) (upd lam d (lam s)) (map1 (ren1 s d) (eget t (Ab.kill d st).env)) (tm.getD t undef) := by
          refine RelEnt_map _ (fun e v he => ?_) h0
          unfold ren1
          cases hos : onSlot s e with
          | false =>
            refine RelE_lam hC (fun k hk => ?_) he
            obtain ⟨o, hko⟩ := slot_some he hk
            have hkd : k ≠ d := fun e' => by rw [e', kill_objs, if_pos rfl] at hko; cases hko
            have hks : k ≠ s := onSlot_false hos k hk
            exact ⟨by rw [hget, if_neg hkd, if_neg hks, kill_objs, if_neg hkd], by rw [upd, if_neg hkd]⟩
          | true =>
            have hsd : oget s (Ab.kill d st).objs = some ob := by rw [kill_objs, if_neg hne]; exact ho
            cases e with
            | ref k p =>
              have : k = s := by simpa [onSlot, slotOf] using hos
              subst this
              obtain ⟨T, x, g, T', off, h1, h2, h3⟩ := he
              exact ⟨T, x, g, T', off, by rw [hget, if_pos rfl, ← hsd]; exact h1, by rw [upd, if_pos rfl]; exact h2, h3⟩
            | arr k =>
              have : k = s := by simpa [onSlot, slotOf] using hos
              subst this
              obtain ⟨⟨e, T, l, h1⟩, h2⟩ := he
              exact ⟨⟨e, T, l, by rw [hget, if_pos rfl, ← hsd]; exact h1⟩, by rw [upd, if_pos rfl]; exact h2⟩
            | aref k i p =>
              have : k = s := by simpa [onSlot, slotOf] using hos
              subst this
              obtain ⟨e, T, l, g, n, c, T', off, h1, h2, h3⟩ := he
              exact ⟨e, T, l, g, n, c, T', off, by rw [hget, if_pos rfl, ← hsd]; exact h1, by rw [upd, if_pos rfl]; exact h2, h3⟩
            | aview k i =>
              have : k = s := by simpa [onSlot, slotOf] using hos
              subst this
              obtain ⟨e, T, l, A, c, h1, h2, h3⟩ := he
              exact ⟨e, T, l, A, c, by rw [hget, if_pos rfl, ← hsd]; exact h1, by rw [upd, if_pos rfl]; exact h2, h3⟩
            | own k =>
              have : k = s := by simpa [onSlot, slotOf] using hos
              subst this
              obtain ⟨k0, T, x, vs, ad, h1, h2, h3⟩ := he
              exact ⟨k0, T, x, vs, ad, by rw [hget, if_pos rfl, ← hsd]; exact h1, by rw [upd, if_pos rfl]; exact h2, h3⟩
            | glob _ _ => simp [onSlot, slotOf] at hos
            | undef => simp [onSlot, slotOf] at hos
            | val _ _ => simp [onSlot, slotOf] at hos
            | eptr _ _ => simp [onSlot, slotOf] at hos
            | cst _ => simp [onSlot, slotOf] at hos
        simpa [Array.getElem?_setIfInBounds_ne (Ne.symm ht)] using this
  · simp only [hget] at hk
    by_cases hkd : k = d
    · rw [if_pos hkd] at hk
      simp only [Option.some.injEq] at hk
      subst hk
      rw [upd, if_pos hkd]
      exact RelO_mono hC (h.objs s _ ho)
    · rw [if_neg hkd] at hk
      split at hk
      · contradiction
      · rw [upd, if_neg hkd]
        exact RelO_mono hC (h.objs k o hk)
  · simp only [hget] at h1 h2
    by_cases hk : k = d <;> by_cases hk' : k' = d
    · rw [hk, hk']
    · rw [if_neg hk'] at h2
      split at h2
      · contradiction
      · rename_i hks
        rw [upd, if_pos hk] at h3
        rw [upd, if_neg hk'] at h4
        exact absurd (h.apart s k' _ _ g ho h2 h3 h4).symm hks
    · rw [if_neg hk] at h1
      split at h1
      · contradiction
      · rename_i hks
        rw [upd, if_neg hk] at h3
        rw [upd, if_pos hk'] at h4
        exact absurd (h.apart k s _ _ g h1 ho h3 h4) hks
    · rw [if_neg hk] at h1; rw [if_neg hk'] at h2
      rw [upd, if_neg hk] at h3; rw [upd, if_neg hk'] at h4
      split at h1
      · contradiction
      · split at h2
        · contradiction
        · exact h.apart k k' _ _ g h1 h2 h3 h4

theorem opA_sound (hc : CfgOk P cfg) {o : Oper} {a : Act} (hR : Rel O B w0 st lam a.tmps w) {K : St → Option α} {r : α} (h : opA cfg o st K = some r) {next : Act → World → Prop} {Q : Exit → Act → World → Prop}
    (hn : ∀ st' lam' a' w', K st' = some r → Rel O B w0 st' lam' a'.tmps w' → a'.defers = a.defers → next a' w') : o.wp P a w next Q := by
  unfold opA at h
  split at h
  · rename_i x d hop hdst
    have hrun : (execOp a.eval o).run P w = .ok (.value (a.eval x)) w := by simp [execOp, hop]
    split at h
    · split at h
      · rename_i T e hT he
        dsimp only at h
        replace h := bif_some h
        obtain ⟨hdn, h⟩ := h
        have hdn : d < st.env.length := by simpa [Nat.blt_eq] using hdn
        refine upon_of_run hrun ?_
        rw [hdst]
        refine hn _ (upd lam d (.slice none 0 0)) (a.put (some d) _) w h ?_ rfl
        refine hR.new (st1 := kill d st) (row := none) (vn := .slice none 0 0) (kill_rel hR d) (by simp [Ab.kill]) (fun s' o' ho' => ?_) (by rw [kill_objs, if_pos rfl]) (Nat.lt_of_lt_of_le hdn hR.stay.1) ⟨rfl, rfl, rfl, Nat.le_refl _, fun _ _ _ => rfl⟩ (fun g hg => by cases hg) (fun g hg => by simp [owns] at hg)
          (fun C' hC => ⟨[], ⟨World.ownsRow_nil w 0 e T.size, fun g hg => by simp [owns] at hg⟩, rfl⟩) (fun _ => arr_ent)
        rw [kill_objs] at ho'
        split at ho'
        · contradiction
        · exact ho'
      · contradiction
    · have hx := entT_rel (cfg := cfg) hR o.type x
      split at h
      · rename_i s hent
        rw [hent] at hx
        obtain ⟨⟨e1, T1, l1, ho1⟩, hv⟩ := hx
        cases hsd : Nat.beq s d with
        | true =>
          rw [hsd] at h
          have : s = d := Nat.eq_of_beq_eq_true hsd
          subst this
          refine upon_of_run hrun ?_
          rw [hdst]
          exact hn _ lam (a.put (some s) _) w h (hR.put s ⟨⟨e1, T1, l1, ho1⟩, hv⟩) rfl
        | false =>
          rw [hsd] at h
          have hne : s ≠ d := by rintro rfl; simp at hsd
          simp only [cond_false] at h
          split at h
          · rename_i ob ho
            replace h := bif_some h
            obtain ⟨hdn, h⟩ := h
            have hdn : d < st.env.length := by simpa [Nat.blt_eq] using hdn
            refine upon_of_run hrun ?_
            rw [hdst, hv]
            exact hn _ (upd lam d (lam s)) (a.put (some d) _) w h (hR.rename hne ho (by rw [ho] at ho1; simp only [Option.some.injEq] at ho1; exact ⟨e1, T1, l1, ho1⟩) (Nat.lt_of_lt_of_le hdn hR.stay.1)) rfl
          · contradiction
      · refine upon_of_run hrun ?_
        rw [hdst]
        exact hn _ lam (a.put (some d) _) w h (hR.put d hx) rfl
  · contradiction

/-- What is known of the calls that the interpreter makes. -/
structure CallsOk (P : Program) (cfg : Cfg) (call : Call0) : Prop where
  ok : CfgOk P cfg
  icall : ∀ f F ents ob S (x : denS S), lk f cfg.fns = some F → call.i f ents ob S = some x → ICallOk P F.ntmps f ents ob S x
  call : ∀ f args R x, call.p f args R = some x → CallOk P f args R x
  body : ∀ f F, lk f cfg.fns = some F → ∃ b, F.body = some b

theorem yield_wp {o : Oper} {a : Act} (hR : Rel O B w0 st lam a.tmps w) {K : St → Option α} {r : α} {next : Act → World → Prop} {Q : Exit → Act → World → Prop} (hy : Yield P O st lam w (fun e => K (st.put o.dst e)) r (execOp a.eval o))
    (hn : ∀ st' lam' a' w', K st' = some r → Rel O B w0 st' lam' a'.tmps w' → a'.defers = a.defers → next a' w') : o.wp P a w next Q := by
  have putOk : ∀ (w1 : World) (e : Ent) (v : Value), Rel O B w0 st lam a.tmps w1 → RelEnt (Cst (Full O st.objs lam) w1) st.objs lam e v → Rel O B w0 (st.put o.dst e) lam (a.put o.dst v).tmps w1 := by
    intro w1 e v h1 h2
    cases hd : o.dst with
    | none => exact h1
    | some d => exact h1.put d h2
  rcases hy with ⟨e, v, w', hk, hrun, hv, hb⟩ | ⟨f, cargs, hrun, hcall⟩
  · exact upon_of_run hrun (hn _ lam _ w' hk (putOk w' e v (hR.world hb) hv) (by cases o.dst <;> rfl))
  · unfold Oper.wp
    rw [hrun]
    refine Calls.mono hcall ?_
    rintro en w' ⟨e, v, rfl, hk, hv, hb⟩
    exact hn _ lam _ w' hk (putOk w' e v (hR.world hb) hv) (by cases o.dst <;> rfl)
theorem entA_rel {a : Act} (hR : Rel O B w0 st lam a.tmps w) : ∀ (xs : List Operand) (ts : List TypeId), RelEsI (Cst (Full O st.objs lam) w) st.objs lam (entA cfg st ts xs) (xs.map a.eval)
  | [], _ => rfl
  | x :: r, ts => ⟨_, _, rfl, entT_rel hR _ x, entA_rel hR r _⟩
theorem RelEsI_append {C : Cells} {objs : List (Nat × Obj)} {lam : Nat → Value} : ∀ {es es' : List Ent} {vs vs' : List Value}, RelEsI C objs lam es vs → RelEsI C objs lam es' vs' → RelEsI C objs lam (es ++ es') (vs ++ vs')
  | [], _, _, _, h, h' => by simp only [RelEsI] at h; subst h; exact h'
  | e :: es, _, _, _, ⟨v, r, h1, h2, h3⟩, h' => ⟨v, r ++ _, by rw [h1]; rfl, h2, RelEsI_append h3 h'⟩
theorem RelEsI_caps {C : Cells} {objs : List (Nat × Obj)} {lam : Nat → Value} : ∀ {es : List E0} {vs}, RelL C objs lam es vs → RelEsI C objs lam (es.map .s) vs
  | [], _, h => h
  | e :: es, _, ⟨v, r, h1, h2, h3⟩ => ⟨v, r, h1, h2, RelEsI_caps h3⟩
theorem opI_sound {call : Call0} (hc : CallsOk P cfg call) {o : Oper} {a : Act} (hR : Rel O B w0 st lam a.tmps w) {K : St → Option α} {r : α} (h : opI cfg call o st K = some r) {next : Act → World → Prop} {Q : Exit → Act → World → Prop}
    (hn : ∀ st' lam' a' w', K st' = some r → Rel O B w0 st' lam' a'.tmps w' → a'.defers = a.defers → next a' w') : o.wp P a w next Q := by
  unfold opI at h
  split at h
  · rename_i g args argTypes hop
    split at h
    · rename_i f cs hent
      split at h
      · rename_i F hF
        dsimp only at h
        have hR1 : Rel O B w0 (lendSt cfg f F args.toList cs st) lam a.tmps w := by
          unfold lendSt; split
          · exact hR
          · split
            · exact hR.pubFns _
            · exact hR.pubList _
        generalize lendSt cfg f F args.toList cs st = st1 at h hR1
        split at h
        · rename_i f1 cs1 hent1
          split at h
          · rename_i S hS
            replace h := bif_some h
            obtain ⟨hf1, h⟩ := h
            obtain rfl := Nat.eq_of_beq_eq_true hf1
            have hg := ent_rel hR1 g
            rw [hent1] at hg
            obtain ⟨vs, hgv, hcs⟩ := hg
            obtain ⟨hfn, hname⟩ := hc.ok.fns _ _ hF
            obtain ⟨b, hb⟩ := hc.body _ _ hF
            have hents : RelEsI (Cst (Full O st1.objs lam) w) st1.objs lam (entA cfg st1 F.params.toList args.toList ++ cs1.map .s) (args.map a.eval ++ vs).toList := by
              rw [Array.toList_append, Array.toList_map]
              exact RelEsI_append (entA_rel hR1 _ _) (RelEsI_caps hcs)
            have hcall := opI1_sound (fun ents ob S x hx => hc.icall _ F ents ob S x hF hx) hR1 hents h hn
            have hrun : (execOp a.eval o).run P w = .ok (.enter f1 (args.map a.eval ++ vs)) w := by
              simp only [execOp, hop, resolve, hgv, Deferred.ofValue, Sem.run_bind, Sem.run_pure, Result.andThen_ok, invoke]
              rw [Array.empty_append, run_callFunc hfn hname hb]
            unfold Oper.wp
            rw [hrun]
            refine Calls.mono hcall ?_
            rintro en w' ⟨v, rfl, hnx⟩
            exact hnx
          · contradiction
        · contradiction
      · contradiction
    · contradiction
  · contradiction
theorem opC_sound {call : Call0} (hc : CallsOk P cfg call) {o : Oper} {a : Act} (hR : Rel O B w0 st lam a.tmps w) {K : St → Option α} {r : α} (h : opC cfg call o st K = some r) {next : Act → World → Prop} {Q : Exit → Act → World → Prop}
    (hn : ∀ st' lam' a' w', K st' = some r → Rel O B w0 st' lam' a'.tmps w' → a'.defers = a.defers → next a' w') : o.wp P a w next Q := by
  unfold opC at h
  cases hA : isA o.op with
  | true => rw [hA] at h; exact opA_sound hc.ok hR h hn
  | false =>
    rw [hA] at h
    cases hI : isI cfg o st with
    | true => rw [hI] at h; exact opI_sound hc hR h hn
    | false =>
      rw [hI] at h
      cases hE : isE o.op || isT o st with
      | true => rw [hE] at h; exact opE_sound hc.ok (hR.pubFor cfg o) h hn
      | false =>
        rw [hE] at h
        exact yield_wp (hR.pubFor cfg o) (opP_sound hc.ok hc.call hc.body (hR.pubFor cfg o) h) hn

theorem eset_self (g : Nat) : ∀ l : List Ent, eset g (eget g l) l = l := by
  intro l
  induction l generalizing g with
  | nil => simp [eset]
  | cons e r ih => cases g with
    | zero => simp [eset, eget]
    | succ g => simp only [eset, eget, ih]
/-- Whether an operation's guard lets it run. -/
def gd (ops : Array Oper) (o : Oper) (st : St) : Option Bool := match o.guard with
  | none => some true
  | some (j, want) => match (ops[j]?).bind (·.dst) with
    | none => some false
    | some g => match eget g st.env with
      | .s (.val .bool b) => some (b == want)
      | .s (.cst (.tuple _)) => some false
      | _ => none
theorem guardC_gd {ops : Array Oper} {o : Oper} {yes no : St → Option α} {r : α} (h : guardC ops o st yes no = some r) : (gd ops o st = some true ∧ yes st = some r) ∨ (gd ops o st = some false ∧ no st = some r) := by
  unfold guardC at h
  unfold gd
  cases hg : o.guard with
  | none => rw [hg] at h; exact .inl ⟨rfl, h⟩
  | some q =>
    obtain ⟨j, want⟩ := q
    rw [hg] at h
    dsimp only at h ⊢
    cases hd : (ops[j]?).bind (·.dst) with
    | none => rw [hd] at h; exact .inr ⟨rfl, h⟩
    | some g =>
      rw [hd] at h
      dsimp only at h ⊢
      split at h
      · rename_i b hb
        have hs : ∀ b', b = b' → st.set g (.s (.val .bool b')) = st := by
          intro b' e; subst e
          unfold St.set; rw [← hb, eset_self]
        rw [hb]
        cases b with
        | true =>
          rw [hs true rfl] at h
          cases want with
          | true => exact .inl ⟨rfl, h⟩
          | false => exact .inr ⟨rfl, h⟩
        | false =>
          rw [hs false rfl] at h
          cases want with
          | true => exact .inr ⟨rfl, h⟩
          | false => exact .inl ⟨rfl, h⟩
      · rename_i vs hb
        rw [hb]
        exact .inr ⟨rfl, h⟩
      · contradiction
theorem gd_wanted {ops : Array Oper} {o : Oper} {a : Act} {b : Bool} (hR : Rel O B w0 st lam a.tmps w) (h : gd ops o st = some b) : Region.wanted o (yielded ops a.tmps) = b := by
  unfold gd at h
  unfold Region.wanted
  cases hg : o.guard with
  | none => rw [hg] at h; simpa using h
  | some q =>
    obtain ⟨j, want⟩ := q
    rw [hg] at h
    dsimp only at h ⊢
    unfold yielded
    cases hd : (ops[j]?).bind (·.dst) with
    | none => rw [hd] at h; simp at h; subst h; simp
    | some g =>
      rw [hd] at h
      dsimp only at h
      simp only [Option.bind_some]
      have he := hR.env g
      split at h
      · rename_i b' hb
        rw [hb] at he
        have hv := RelV_bool (C := Cst (Full O st.objs lam) w) he
        simp only [Option.some.injEq] at h
        have h2 : a.tmps[g]? = some (.bool b') := by
          rcases Nat.lt_or_ge g a.tmps.size with h3 | h3
          · simp [h3] at hv ⊢; exact hv
          · simp [Array.getElem?_eq_none h3, undef] at hv
        rw [h2]
        simp [h]
      · rename_i vs hb
        rw [hb] at he
        have hv : a.tmps.getD g undef = .tuple vs := he
        simp only [Option.some.injEq] at h
        subst h
        rcases Nat.lt_or_ge g a.tmps.size with h3 | h3
        · have h2 : a.tmps[g]? = some (.tuple vs) := by simp [h3] at hv ⊢; exact hv
          rw [h2]; simp
        · rw [Array.getElem?_eq_none h3]; simp
      · contradiction

theorem execOps_sound {call : Call0} (hc : CallsOk P cfg call) {ops : Array Oper} {K : St → Option α} {r : α} {Q : Exit → Act → World → Prop}
    (hQ : ∀ st' lam' a' w', K st' = some r → Rel O B w0 st' lam' a'.tmps w' → a'.defers = [] → Q .normal a' w') :
    ∀ (l : List Oper) (i : Nat), ops.toList.drop i = l → ∀ (st : St) (lam : Nat → Value) (a : Act) (w : World), execOps cfg call ops K l st = some r → Rel O B w0 st lam a.tmps w → a.defers = [] → wpOps P ops Q (List.range' i l.length) a w
  | [], i, _, st, lam, a, w, h, hR, hdf => hQ st lam a w h hR hdf
  | o :: rest, i, hl, st, lam, a, w, h, hR, hdf => by
    have hi : ops[i]? = some o := by
      have : (ops.toList.drop i)[0]? = some o := by rw [hl]; rfl
      simpa using this
    have hl' : ops.toList.drop (i + 1) = rest := by rw [← List.drop_drop, hl]; rfl
    simp only [List.length_cons, List.range'_succ, wpOps, hi]
    simp only [execOps] at h
    rcases guardC_gd h with ⟨hg, h⟩ | ⟨hg, h⟩
    · rw [gd_wanted hR hg]
      simp only [if_true]
      left
      exact opC_sound hc hR h fun st' lam' a' w' hk hR' hdf' => execOps_sound hc hQ rest (i + 1) hl' st' lam' a' w' hk hR' (hdf'.trans hdf)
    · rw [gd_wanted hR hg]
      simp only [Bool.false_eq_true, if_false]
      refine execOps_sound hc hQ rest (i + 1) hl' _ lam _ w h ?_ (by cases o.dst <;> exact hdf)
      cases hd : o.dst with
      | none => exact hR
      | some d => exact hR.put d rfl
end
end Go.Proofs.YtlcphnmkkilefaaDoor.Ab
