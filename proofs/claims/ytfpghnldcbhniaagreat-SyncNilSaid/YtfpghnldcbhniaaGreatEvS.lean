/- Plain regions, code. -/
import Derived.Test.YtfpghnldcbhniaaGreatEvR
namespace Go.Proofs.YtfpghnldcbhniaaGreat
set_option linter.unusedVariables false
set_option linter.unusedSimpArgs false
open Go.RowKit Go.Maps
namespace Ev

section
variable {P : Program} {B : Nat} {W : World} {ι : Pos → Option Nat} {h h' : H} {w w' : World} {fr fr' : Fr} {a : Act} {r : AV} {nt N : Nat} {o : Oper} {c : Cx} {kk : K}
variable {inf : TypeId → Option TypeInfo} {und : TypeId → Option TypeDesc} {kf : TypeId → AV → Bool} {ext : FuncId → Option (List Opd → XOp)}

theorem After.step {ι' : Pos → Option Nat} {h1 : H} {w1 : World} {M : Act → World → Prop} (rel : Rel P B W ι h w) (x : Ext ι h w ι' h1 w1) (K : After P B W nt ι h w fr' h' M) : After P B W nt ι' h1 w1 fr' h' M :=
  fun ι2 a2 w2 f2 r2 x2 => K ι2 a2 w2 f2 r2 (Ext.trans rel x x2)
theorem FR.nil (hf : FR nt c fr a) (hn : nt ≤ 1000000) {d : Option Pos} {dst : Option Tmp} (hd : DstOk nt dst d) : FR nt c (setD fr d .undef) (a.put dst undef) := hf.put hn hd .undef

/-- An operation that may be left out. -/
theorem yielded_at {ops : Array Oper} {j : Nat} {g : Oper} {p : Tmp} (hj : ops[j]? = some g) (hp : g.dst = some p) (a : Act) : yielded ops a.tmps j = (match a.tmps.getD p undef with | .bool b => some b | _ => none) := by
  unfold yielded
  rw [hj]
  simp only [Option.bind_some, hp]
  rw [Array.getD_eq_getD_getElem?]
  cases a.tmps[p]? with
  | none => rfl
  | some v => cases v <;> rfl
/-- Whether an operation is wanted, told of the reckoned frame. -/
theorem wanted_ok {okT : Nat → Bool} {ops : Array Oper} {j : Nat} {b : Bool} {g : Oper} {p : Tmp} (hg : o.guard = some (j, b)) (hj : ops[j]? = some g) (hp : g.dst = some p) (ho : okT p = true) (hf : FO okT c fr a) :
    (∃ t, Fr.get fr (slot p) = .bool t ∧ Region.wanted o (yielded ops a.tmps) = bi b t (bi t false true)) ∨ ((∀ t, Fr.get fr (slot p) ≠ .bool t) ∧ Region.wanted o (yielded ops a.tmps) = false) := by
  have hv := hf.val p ho
  have hy := yielded_at hj hp a
  by_cases hbool : ∃ t, Fr.get fr (slot p) = .bool t
  · obtain ⟨t, ht⟩ := hbool
    rw [ht] at hv
    rw [hv.bool_inv] at hy
    refine .inl ⟨t, ht, ?_⟩
    unfold Region.wanted
    rw [hg]
    simp only
    rw [hy]
    cases t <;> cases b <;> rfl
  · refine .inr ⟨fun t ht => hbool ⟨t, ht⟩, ?_⟩
    unfold Region.wanted
    rw [hg]
    simp only
    rw [hy]
    have : ∀ t, a.tmps.getD p undef ≠ .bool t := fun t ht => by
      rw [ht] at hv
      generalize Fr.get fr (slot p) = z at hv hbool
      cases hv with
      | bool b => exact hbool ⟨t, rfl⟩
      | any j v hq hb => exact hb t rfl
    split
    · rename_i t ht; exact absurd ht (this t)
    · rfl
theorem guard_core {okT : Nat → Bool} {ops : Array Oper} {d : Option Pos} (E : Env P inf und kf) (X : ExtOk P ext) (KO : KOK P kk) {q : DOp} (hc : cGuardD inf und kf ext okT d ops o = .mk q) (e : q kk fr h = .ok fr' h') (hf : FO okT (cx ι h w) fr a) (rel : Rel P B W ι h w) :
    ∃ r, fr' = setD fr d r ∧ ∀ (M : Act → World → Prop) (Qx : Exit → Act → World → Prop), NextOk P B W ι h w r h' o.dst a M → if Region.wanted o (yielded ops a.tmps) then o.wp P a w M Qx ∨ (o.asks P a w ∧ LetsOut Qx) else M (a.put o.dst undef) w := by
  unfold cGuardD at hc
  cases hg : o.guard with
  | none =>
    rw [hg] at hc
    have hw : Region.wanted o (yielded ops a.tmps) = true := by unfold Region.wanted; rw [hg]
    obtain ⟨r, h1, h2⟩ := oper_core E X KO hc e hf rel
    refine ⟨r, h1, fun M Qx K => ?_⟩
    rw [if_pos hw]
    exact .inl (h2 M Qx K)
  | some jb =>
    obtain ⟨j, b⟩ := jb
    rw [hg] at hc
    simp only at hc
    cases hj : ops[j]? with
    | none => rw [hj] at hc; cases hc
    | some g =>
      rw [hj] at hc
      simp only at hc
      split at hc
      case h_2 => cases hc
      rename_i p q' hp hq
      cases hb : okT p with
      | false => rw [hb] at hc; cases hc
      | true =>
        rw [hb] at hc
        cases hc
        have e : (Fr.get fr (slot p)).bool? (Q.ok (setD fr d .undef) h) (fun c => bi (bi b c (bi c false true)) (q' kk fr h) (.ok (setD fr d .undef) h)) = .ok fr' h' := e
        have hskip : Q.ok (setD fr d .undef) h = .ok fr' h' → Region.wanted o (yielded ops a.tmps) = false → ∃ r, fr' = setD fr d r ∧ ∀ (M : Act → World → Prop) (Qx : Exit → Act → World → Prop), NextOk P B W ι h w r h' o.dst a M → if Region.wanted o (yielded ops a.tmps) then o.wp P a w M Qx ∨ (o.asks P a w ∧ LetsOut Qx) else M (a.put o.dst undef) w := fun e hw => by
          cases e
          refine ⟨.undef, rfl, fun M Qx K => ?_⟩
          rw [if_neg (by rw [hw]; simp)]
          exact K ι _ w rel (Ext.refl _ _ _) .undef
        rcases wanted_ok hg hj hp hb hf with ⟨t, ht, hw⟩ | ⟨hnb, hw⟩
        · rw [ht] at e
          have e : bi (bi b t (bi t false true)) (q' kk fr h) (.ok (setD fr d .undef) h) = .ok fr' h' := e
          cases htb : bi b t (bi t false true) with
          | true =>
            rw [htb] at hw e
            obtain ⟨r, h1, h2⟩ := oper_core E X KO hq e hf rel
            refine ⟨r, h1, fun M Qx K => ?_⟩
            rw [if_pos hw]
            exact .inl (h2 M Qx K)
          | false =>
            rw [htb] at hw e
            exact hskip e hw
        · refine hskip ?_ hw
          rw [← e]
          generalize Fr.get fr (slot p) = z at hnb
          cases z <;> first | rfl | exact absurd rfl (hnb _)
theorem guard_ok {ops : Array Oper} (E : Env P inf und kf) (X : ExtOk P ext) (KO : KOK P kk) (hn : nt ≤ 1000000) {q : DOp} (hc : cGuard inf und kf ext nt ops o = .mk q) (e : q kk fr h = .ok fr' h') (hf : FR nt (cx ι h w) fr a) (rel : Rel P B W ι h w)
    {M : Act → World → Prop} {Qx : Exit → Act → World → Prop} (K : After P B W nt ι h w fr' h' M) : if Region.wanted o (yielded ops a.tmps) then o.wp P a w M Qx ∨ (o.asks P a w ∧ LetsOut Qx) else M (a.put o.dst undef) w := by
  unfold cGuard at hc
  cases hd : dstP nt o with
  | none => rw [hd] at hc; cases hc
  | some d =>
    rw [hd] at hc
    obtain ⟨r, h1, h2⟩ := guard_core E X KO hc e hf.fo rel
    exact h2 M Qx fun ι' u w' r1 x1 hv => K ι' _ w' (by rw [h1]; exact (hf.mono (x1.le rel)).put hn (dst_ok hd) hv) r1 x1
theorem ops_ok {ops : Array Oper} (E : Env P inf und kf) (X : ExtOk P ext) (KO : KOK P kk) (hn : nt ≤ 1000000) {Qx : Exit → Act → World → Prop} : ∀ (l : List Oper) {ι : Pos → Option Nat} {h : H} {w : World} {fr : Fr} {a : Act},
    dOps (cOpers inf und kf ext nt ops l) kk fr h = .ok fr' h' → FR nt (cx ι h w) fr a → Rel P B W ι h w → After P B W nt ι h w fr' h' (fun a w => Qx .normal a w) → wpList P ops Qx l a w
  | [], ι, h, w, fr, a, e, hf, rel, K => by
    cases e
    exact K ι a w hf rel (Ext.refl _ _ _)
  | o :: l, ι, h, w, fr, a, e, hf, rel, K => by
    have e : Bo.rec (motive := fun _ => Q) .no (fun q => qr (q kk fr h) (dOps (cOpers inf und kf ext nt ops l) kk)) (cGuard inf und kf ext nt ops o) = .ok fr' h' := e
    cases hc : cGuard inf und kf ext nt ops o with
    | bad => rw [hc] at e; cases e
    | mk q =>
      rw [hc] at e
      obtain ⟨fr1, h1, e1, e2⟩ := qrQ (show qr (q kk fr h) _ = _ from e)
      exact guard_ok E X KO hn hc e1 hf rel (M := wpList P ops Qx l) fun ι1 a1 w1 f1 r1 x1 => ops_ok E X KO hn l e2 f1 r1 (K.step rel x1)

/-- Behind a piece of code. -/
def Post (P : Program) (B : Nat) (W : World) (nt : Nat) (ι : Pos → Option Nat) (h : H) (w : World) (Qx : Exit → Act → World → Prop) : R → Prop
  | .no => False
  | .n fr' h' => After P B W nt ι h w fr' h' (fun a w => Qx .normal a w)
  | .x id fr' h' => After P B W nt ι h w fr' h' (fun a w => Qx (.exit id) a w)
  | .r fr' h' => After P B W nt ι h w fr' h' (fun a w => Qx .ret a w)
theorem Post.step {ι' : Pos → Option Nat} {h1 : H} {w1 : World} {Qx : Exit → Act → World → Prop} {res : R} (rel : Rel P B W ι h w) (x : Ext ι h w ι' h1 w1) (K : Post P B W nt ι h w Qx res) : Post P B W nt ι' h1 w1 Qx res := by
  cases res with
  | no => exact K
  | n fr' h' => exact After.step rel x K
  | x id fr' h' => exact After.step rel x K
  | r fr' h' => exact After.step rel x K

end
end Ev
end Go.Proofs.YtfpghnldcbhniaaGreat
