/- Code. -/
import Derived.Test.YtfpghnldcbhniaaGreatEvW4
namespace Go.Proofs.YtfpghnldcbhniaaGreat
set_option linter.unusedVariables false
set_option linter.unusedSimpArgs false
open Go.RowKit Go.Maps
namespace Ev

section
variable {P : Program} {B : Nat} {W : World} {ι : Pos → Option Nat} {h h' : H} {w w' : World} {fr fr' : Fr} {a : Act} {r : AV} {nt N : Nat} {o : Oper} {c : Cx} {kk : K}
variable {inf : TypeId → Option TypeInfo} {und : TypeId → Option TypeDesc} {kf : TypeId → AV → Bool} {ext : FuncId → Option (List Opd → XOp)}

theorem code_ok (E : Env P inf und kf) (X : ExtOk P ext) (KO : KOK P kk) (hmix : P.follows .mixedOrders = true) (hn : nt ≤ 1000000) : ∀ (code : Code) {ι : Pos → Option Nat} {h : H} {w : World} {fr : Fr} {a : Act} {Qx : Exit → Act → World → Prop},
    FR nt (cx ι h w) fr a → Rel P B W ι h w → Post P B W nt ι h w Qx (bc (cCode inf und kf ext N nt code) kk fr h) → code.wp P Qx a w
  | .skip, ι, h, w, fr, a, Qx, hf, rel, K => wp_skip (K ι a w hf rel (Ext.refl _ _ _))
  | .label l, ι, h, w, fr, a, Qx, hf, rel, K => wp_label (K ι a w hf rel (Ext.refl _ _ _))
  | .exit id, ι, h, w, fr, a, Qx, hf, rel, K => wp_exit (K ι a w hf rel (Ext.refl _ _ _))
  | .ret, ι, h, w, fr, a, Qx, hf, rel, K => wp_ret (K ι a w hf rel (Ext.refl _ _ _))
  | .region id ops draw, ι, h, w, fr, a, Qx, hf, rel, K => by
    cases draw with
    | true => exact drawn_ok E X KO hmix hn hf rel K
    | false =>
      have K : Post P B W nt ι h w Qx (qR (dOps (cOpers inf und kf ext nt ops ops.toList) kk fr h) fun fr h => .n fr h) := K
      cases e : dOps (cOpers inf und kf ext nt ops ops.toList) kk fr h with
      | no => rw [e] at K; exact K.elim
      | ok fr' h' =>
        rw [e] at K
        exact wp_region_list (ops_ok E X KO hn ops.toList e hf rel K)
  | .seq x y, ι, h, w, fr, a, Qx, hf, rel, K => by
    refine wp_seq (code_ok E X KO hmix hn x hf rel ?_)
    have K : Post P B W nt ι h w Qx (rr (bc (cCode inf und kf ext N nt x) kk fr h) (fun fr h => bc (cCode inf und kf ext N nt y) kk fr h) fun id fr h => .x id fr h) := K
    cases e : bc (cCode inf und kf ext N nt x) kk fr h with
    | no => rw [e] at K; exact K.elim
    | x id fr' h' => rw [e] at K; exact K
    | r fr' h' => rw [e] at K; exact K
    | n fr' h' =>
      rw [e] at K
      intro ι1 a1 w1 f1 r1 x1
      exact code_ok E X KO hmix hn y f1 r1 (Post.step rel x1 K)
  | .cond x t e, ι, h, w, fr, a, Qx, hf, rel, K => by
    simp only [cCode] at K
    cases hx : cX (below nt) x with
    | none => simp only [hx] at K; exact K.elim
    | some x' =>
      simp only [hx] at K
      have K : Post P B W nt ι h w Qx ((x' fr).bool? R.no fun b => bi b (bc (cCode inf und kf ext N nt t) kk fr h) (bc (cCode inf und kf ext N nt e) kk fr h)) := K
      have hv := cX_ok hf.fo hx
      by_cases hb : ∃ b, x' fr = .bool b
      · obtain ⟨b, hb⟩ := hb
        rw [hb] at K hv
        cases b with
        | true => exact wp_cond_true hv.bool_inv (code_ok E X KO hmix hn t hf rel K)
        | false => exact wp_cond_false hv.bool_inv (code_ok E X KO hmix hn e hf rel K)
      · exfalso
        generalize x' fr = z at K hb
        cases z <;> first | exact K | exact hb ⟨_, rfl⟩
  | .block id c, ι, h, w, fr, a, Qx, hf, rel, K => by
    refine wp_block (code_ok E X KO hmix hn c hf rel ?_)
    have K : Post P B W nt ι h w Qx (rr (bc (cCode inf und kf ext N nt c) kk fr h) (fun fr h => .n fr h) fun j fr h => bi (Nat.beq j id) (.n fr h) (.x j fr h)) := K
    cases e : bc (cCode inf und kf ext N nt c) kk fr h with
    | no => rw [e] at K; exact K.elim
    | n fr' h' => rw [e] at K; exact K
    | r fr' h' => rw [e] at K; exact K
    | x j fr' h' =>
      rw [e] at K
      have K : Post P B W nt ι h w Qx (bi (Nat.beq j id) (.n fr' h') (.x j fr' h')) := K
      by_cases hj : j = id
      · subst hj
        rw [show Nat.beq j j = true by simp] at K
        intro ι1 a1 w1 f1 r1 x1
        show if j = j then Qx .normal a1 w1 else Qx (.exit j) a1 w1
        rw [if_pos rfl]
        exact K ι1 a1 w1 f1 r1 x1
      · have : Nat.beq j id = false := by rw [Bool.eq_false_iff]; exact fun h => hj (Nat.eq_of_beq_eq_true h)
        rw [this] at K
        intro ι1 a1 w1 f1 r1 x1
        show if j = id then Qx .normal a1 w1 else Qx (.exit j) a1 w1
        rw [if_neg hj]
        exact K ι1 a1 w1 f1 r1 x1
  | .scope c, ι, h, w, fr, a, Qx, hf, rel, K => by
    refine wp_scope_straight (code_ok E X KO hmix hn c hf rel ?_)
    have K : Post P B W nt ι h w Qx (bc (cCode inf und kf ext N nt c) kk fr h) := K
    cases e : bc (cCode inf und kf ext N nt c) kk fr h with
    | no => rw [e] at K; exact K.elim
    | n fr' h' => rw [e] at K; exact K
    | r fr' h' => rw [e] at K; exact K
    | x j fr' h' => rw [e] at K; exact K
  | .loop c, ι, h, w, fr, a, Qx, hf, rel, K => by
    refine wp_loop_rounds N ?_
    have gen : ∀ (n : Nat) {ι : Pos → Option Nat} {h : H} {w : World} {fr : Fr} {a : Act}, FR nt (cx ι h w) fr a → Rel P B W ι h w →
        Post P B W nt ι h w Qx (Nat.rec (motive := fun _ => Fr → H → R) (fun _ _ => .no) (fun _ ih fr h => rr (bc (cCode inf und kf ext N nt c) kk fr h) ih fun id fr h => .x id fr h) n fr h) → Code.rounds P c Qx n a w := by
      intro n
      induction n with
      | zero => intro ι h w fr a hf rel K; exact K.elim
      | succ n ih =>
        intro ι h w fr a hf rel K
        rw [rounds_succ]
        refine code_ok E X KO hmix hn c hf rel ?_
        have K : Post P B W nt ι h w Qx (rr (bc (cCode inf und kf ext N nt c) kk fr h) (Nat.rec (motive := fun _ => Fr → H → R) (fun _ _ => .no) (fun _ ih fr h => rr (bc (cCode inf und kf ext N nt c) kk fr h) ih fun id fr h => .x id fr h) n) fun id fr h => .x id fr h) := K
        cases e : bc (cCode inf und kf ext N nt c) kk fr h with
        | no => rw [e] at K; exact K.elim
        | x id fr' h' => rw [e] at K; exact K
        | r fr' h' => rw [e] at K; exact K
        | n fr' h' =>
          rw [e] at K
          intro ι1 a1 w1 f1 r1 x1
          exact ih f1 r1 (Post.step rel x1 K)
    exact gen N hf rel K
  | .rangeFunc .., _, _, _, _, _, _, _, _, K => K.elim
  | .goto _, _, _, _, _, _, _, _, _, K => K.elim
end
end Ev
end Go.Proofs.YtfpghnldcbhniaaGreat
