/- slices.Clone: what the interpreter is told of it is so. -/
import Derived.Test.YtlcphnmkkilefaaDoorA12
import Derived.Test.YtlcphnmkkilefaaDoorAJ
import Derived.Laws.Cover3
set_option linter.unusedVariables false
set_option linter.unusedSimpArgs false
namespace Go.Proofs.YtlcphnmkkilefaaDoor.Ab
open Go Go.RowKit
def callNone : Call0 := ⟨fun _ _ _ => none, fun _ _ _ _ => none⟩
theorem callNone_ok {P : Program} {cfg : Cfg} (hok : CfgOk P cfg ∧ ∀ f F, lk f cfg.fns = some F → ∃ b, F.body = some b) : CallsOk P cfg callNone :=
  ⟨hok.1, fun _ _ _ _ _ _ _ h => by simp [callNone] at h, fun _ _ _ _ h => by simp [callNone] at h, hok.2⟩
theorem run_eq_nil {P : Program} {w : World} {t e : TypeId} (hu : P.underlying t = some (.slice e)) (A : Option Addr) (n c : Nat) (x : Operand) :
    (do eqGuard .eql t x (.const (.slice none 0 0)) (.slice A n c) (.slice none 0 0); binOp .eql t (.slice A n c) (.slice none 0 0)).run P w = .ok (.bool A.isNone) w := by
  have h1 := run_equal_slice_nil (P := P) w t e A n c hu
  have hg : (eqGuard .eql t x (.const (.slice none 0 0)) (.slice A n c) (.slice none 0 0)).run P w = .ok () w := by
    simp [eqGuard]
  rw [Sem.run_bind, hg, Result.andThen_ok]
  simp [binOp, h1]
def regId : Code → Nat
  | .region id _ _ => id
  | _ => 0
def regOp (c : Code) (i : Nat) : Oper := match c with
  | .region _ ops _ => ops.getD i default
  | _ => default
def runTo (cfg : Cfg) (f : FuncId) (c : Code) (st : St) : St := (exec cfg callNone 0 f c (fun _ st => some st) st).getD ⟨[], []⟩
def kRetOnly (cfg : Cfg) (F : Func) (S : Sig) : Ex → St → Option (denS S)
  | .ret, st => kretS cfg F S .ret st
  | _, _ => none
theorem clone_ok {P : Program} {cfg : Cfg} (hok : CfgOk P cfg ∧ ∀ f F, lk f cfg.fns = some F → ∃ b, F.body = some b) {f : FuncId} {F : Func} {e t : TypeId} {T : Ty} {by0 : Nat} (hF : lk f cfg.fns = some F) (hT : lk t cfg.ty = some (.slice T))
    {id1 : Nat} {o1 o2 : Oper} {r0 c2 c3 : Code} (hB : F.body = some (.seq r0 (.seq (.seq (.region id1 #[o1, o2] false) (.cond (.tmp 4) c2 .skip)) c3)))
    (ho1 : o1.op = .move (.tmp 0) ∧ o1.dst = some 3 ∧ o1.guard = none) (ho2 : o2.op = .binOp .eql t (.tmp 3) (.const (.slice none 0 0)) t ∧ o2.dst = some 4 ∧ o2.guard = none) (hn : 5 ≤ F.ntmps)
    (S0 : den (.slice T) → St) (h0 : ∀ (l : den (.slice T)) (K : Ex → St → Option (Ex × St)), exec cfg callNone 0 f r0 K (stI F [.s (.val (.slice T) l)] []) = K .normal (S0 l))
    (hS0 : ∀ l, eget 0 (S0 l).env = .s (.val (.slice T) l)) (hSl : ∀ l, 5 ≤ (S0 l).env.length)
    (h2 : ∀ l, exec cfg callNone 0 f c2 (kRetOnly cfg F ⟨.row e T, []⟩) (((S0 l).set 3 (.s (.val (.slice T) l))).set 4 U) = some ([], ()))
    (h3 : ∀ l : den (.slice T), exec cfg callNone 0 f c3 (kretS cfg F ⟨.row e T, []⟩) (((S0 l).set 3 (.s (.val (.slice T) l))).set 4 U) = bif decide ((0 + List.length l) * by0 ≤ 140737488355328) then some (l, ()) else none) :
    ∀ n args ob S (x : denS S), gClone e T by0 n args ob S = some x → ICallOk P F.ntmps f args ob S x := by
  intro n args ob S x h
  unfold gClone at h
  split at h
  · rename_i e' T' T1 l
    split at h
    · rename_i l' hl'
      replace h := bif_some h
      obtain ⟨hb, h⟩ := h
      simp only [Bool.and_eq_true, decide_eq_true_eq] at hb
      obtain ⟨⟨he, rfl⟩, hbound⟩ := hb
      obtain rfl := Nat.eq_of_beq_eq_true he
      obtain ⟨rfl, hl2⟩ := castT_some hl'
      have hl2 : l = l' := by simpa using hl2.symm
      subst hl2
      simp only [Option.some.injEq] at h
      subst h
      intro O w cargs lam hO hm hA hargs
      have hc := callNone_ok hok
      refine calls_of_wp (hok.1.fns _ _ hF).1 hB ?_
      have fin : ∀ (st' : St) (lam' : Nat → Value) (a' : Act) (w' : World), retS cfg F ⟨.row e' T', []⟩ st' = some (l, ()) → Rel O ⟨LentN [] lam w, F.ntmps, [], lam⟩ w st' lam' a'.tmps w' → a'.defers = [] →
          a'.defers = [] ∧ ∃ v, (results F a'.tmps).run P w' = .ok v w' ∧ ∃ v' lam'', Ending.returned v = .returned v' ∧ BelN (LentN [] lam w) w w' ∧ (∀ s o, oget s (outS F.ntmps ⟨.row e' T', []⟩ (l, ())) = some o → F.ntmps ≤ s → s < F.ntmps + (⟨.row e' T', []⟩ : Sig).lent.length → LamK o (lam s) (lam'' s)) ∧
            MemOk O (LentN [] lam w) w' (outS F.ntmps ⟨.row e' T', []⟩ (l, ())) lam'' ∧ ResOk (Cst (Full O (outS F.ntmps ⟨.row e' T', []⟩ (l, ())) lam'') w') (outS F.ntmps ⟨.row e' T', []⟩ (l, ())) lam'' F.ntmps ⟨.row e' T', []⟩ (l, ()) v' := by
        intro st' lam' a' w' hk hR' hd'
        obtain ⟨v, lam'', h1, h2, h3, h4⟩ := retS_ok hok.1 hR' hk
        exact ⟨hd', v, h1, v, lam'', rfl, hR'.below, h2, h3, h4⟩
      refine wp_seq (exec_sound hc r0 (fun e st => some (e, st)) _ lam _ w _ (h0 l _) (Rel.startI (by simp; omega) hO hm hA hargs) rfl fun ex st' lam' a' w' hk hR' hd' => ?_)
      simp only [Option.some.injEq, Prod.mk.injEq] at hk
      obtain ⟨rfl, rfl⟩ := hk
      -- the nil test
      have hv0 := hR'.env 0
      rw [hS0] at hv0
      obtain ⟨A, m, c, xs, e1, e2, ⟨e3, e4⟩, e5, e6⟩ := RelV_slice hv0
      have e1' : a'.tmps.getD 0 undef = .slice A m c := by simpa using e1
      have hsz : 5 ≤ a'.tmps.size := Nat.le_trans (hSl l) hR'.len
      obtain ⟨u, hu, hTu⟩ := (hok.1.ty _ _ hT).slice
      refine wp_seq (wp_seq (wp_region ?_))
      have hw : ∀ (o : Oper) (y : Nat → Option Bool), o.guard = none → Region.wanted o y = true := by intro o y hg; simp [Region.wanted, hg]
      have hrng : List.range (#[o1, o2] : Array Oper).size = [0, 1] := rfl
      rw [hrng]
      simp only [wpOps, List.getElem?_toArray, List.getElem?_cons_zero, List.getElem?_cons_succ]
      rw [hw o1 _ ho1.2.2]
      simp only [if_true]
      left
      refine upon_of_run (v := .slice A m c) (w' := w') (by simp [execOp, ho1.1, Act.eval]; simpa using e1') ?_
      rw [hw o2 _ ho2.2.2]
      simp only [if_true]
      left
      have hev3 : (a'.put o1.dst (.slice A m c)).eval (.tmp 3) = .slice A m c := by
        rw [ho1.2.1]; simp [Act.put, Act.eval, show 3 < a'.tmps.size by omega]
      refine upon_of_run (v := .bool A.isNone) (w' := w') ?_ ?_
      · have hev3' : (a'.put o1.dst (.slice A m c)).tmps.getD 3 undef = .slice A m c := hev3
        simp only [execOp, ho2.1, Act.eval]
        rw [hev3', Sem.run_bind, run_eq_nil hu]
        rfl
      have hR1 : Rel O ⟨LentN [] lam w, F.ntmps, [], lam⟩ w (((S0 l).set 3 (.s (.val (.slice T') l))).set 4 U) lam' ((a'.tmps.setIfInBounds 3 (.slice A m c)).setIfInBounds 4 (.bool A.isNone)) w' := by
        refine Rel.put (Rel.put hR' 3 ?_) 4 trivial
        rw [e1'] at hv0; exact hv0
      have hact : ((a'.put o1.dst (.slice A m c)).put o2.dst (.bool A.isNone)) = { a' with tmps := (a'.tmps.setIfInBounds 3 (.slice A m c)).setIfInBounds 4 (.bool A.isNone) } := by rw [ho1.2.1, ho2.2.1]; rfl
      rw [hact]
      have hev4 : ({ a' with tmps := (a'.tmps.setIfInBounds 3 (.slice A m c)).setIfInBounds 4 (.bool A.isNone) } : Act).eval (.tmp 4) = .bool A.isNone := by
        simp [Act.eval, show 4 < a'.tmps.size by omega]
      show (Code.cond (.tmp 4) c2 .skip).wp P _ _ _
      cases A with
      | none =>
        have hl0 : l = [] := by
          have := e4 rfl
          exact List.eq_nil_of_length_eq_zero (by omega)
        refine wp_cond_true hev4 (exec_sound hc c2 _ _ lam' _ w' _ (h2 l) hR1 hd' fun ex st2 lam2 a2 w2 hk hR2 hd2 => ?_)
        cases ex with
        | normal => simp [kRetOnly] at hk
        | exit id => simp [kRetOnly] at hk
        | ret =>
          simp only [kRetOnly, kretS] at hk
          subst hl0
          exact fin st2 lam2 a2 w2 hk hR2 hd2
      | some ad =>
        refine wp_cond_false hev4 (wp_skip ?_)
        have h3' := h3 l
        rw [decide_eq_true hbound, cond_true] at h3'
        refine exec_sound hc c3 _ _ lam' _ w' _ h3' hR1 hd' fun ex st2 lam2 a2 w2 hk hR2 hd2 => ?_
        cases ex with
        | normal => exact fin st2 lam2 a2 w2 hk hR2 hd2
        | exit id => simp [kretS] at hk
        | ret => exact fin st2 lam2 a2 w2 hk hR2 hd2
    · contradiction
  · contradiction
end Go.Proofs.YtlcphnmkkilefaaDoor.Ab
