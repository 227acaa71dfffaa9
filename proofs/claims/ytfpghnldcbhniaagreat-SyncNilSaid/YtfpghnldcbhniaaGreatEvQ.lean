/- What was made ready is what the model does: all operations. -/
import Derived.Test.YtfpghnldcbhniaaGreatEvP
import Derived.Laws.Sem
namespace Go.Proofs.YtfpghnldcbhniaaGreat
set_option linter.unusedVariables false
set_option linter.unusedSimpArgs false
open Go.RowKit Go.Maps
namespace Ev

section
variable {P : Program} {B : Nat} {W : World} {ι : Pos → Option Nat} {h h' : H} {w w' : World} {fr : Fr} {a : Act} {c : Cx} {r : AV} {okT : Nat → Bool} {o : Oper} {k : Nat} {f : XOp} {q : Sem Next}
variable {inf : TypeId → Option TypeInfo} {und : TypeId → Option TypeDesc} {kf : TypeId → AV → Bool} {ext : FuncId → Option (List Opd → XOp)}

theorem Env.noIface (E : Env P inf und kf) {t : TypeId} {d : TypeDesc} (hu : und t = some d) (hn : ∀ ms, d ≠ .interface ms) : ∀ w, ∃ d, (underlying t).run P w = .ok d w ∧ ∀ ms, d ≠ .interface ms :=
  fun w => ⟨d, run_underlying (E.und t d hu) w, hn⟩
theorem arr_map {α β : Type} (f : α → β) (x : Array α) : x.map f = (x.toList.map f).toArray := by rw [← Array.toList_map, Array.toArray_toList]
theorem bif_bx {b : Bool} {x : Bx} (e : (bif b then x else .bad) = .op k f) : b = true ∧ x = .op k f := by
  cases b
  · cases e
  · exact ⟨rfl, e⟩
theorem mapM_sizes (E : Env P inf und kf) (w : World) : ∀ (fs : List Field), (fs.all fun f => (sizeT inf f.type).isSome) = true → ∃ ps : List (Nat × Nat),
    (List.mapM (m := Sem) (fun f : Field => do pure (f.offset, ← sizeOf f.type)) fs).run P w = .ok ps w ∧ ∀ (i : Nat) (p : Nat × Nat), (fs[i]?).bind (fun f => (sizeT inf f.type).map fun n => (f.offset, n)) = some p → ps[i]? = some p
  | [], _ => ⟨[], by simp, fun i p hp => by simp at hp⟩
  | f :: fs, hall => by
    rw [List.all_cons, Bool.and_eq_true] at hall
    obtain ⟨ps, h1, h2⟩ := mapM_sizes E w fs hall.2
    obtain ⟨n, hn⟩ := Option.isSome_iff_exists.1 hall.1
    obtain ⟨_, _, _, _, hs⟩ := E.size hn
    refine ⟨(f.offset, n) :: ps, ?_, fun i p hp => ?_⟩
    · simp only [List.mapM_cons, Sem.run_bind, hs, Result.andThen_ok, Sem.run_pure, h1]
    · cases i with
      | zero =>
        simp only [List.getElem?_cons_zero, Option.bind_some, hn, Option.map_some, Option.some.injEq] at hp
        simp [hp]
      | succ i => exact h2 i p (by simpa using hp)
theorem PL.placed {c : Cx} {place : Nat → Option (Nat × Nat)} {ps : List (Nat × Nat × Opd)} {qs : List (Nat × Value)} (hp : PL c fr place ps qs) : ∀ q ∈ qs, (place q.1).isSome = true := by
  induction hp with
  | nil => intro q hq; cases hq
  | cons h1 _ _ ih =>
    intro q hq
    rcases List.mem_cons.1 hq with rfl | hq
    · rw [h1]; rfl
    · exact ih q hq

theorem call_func {ρ : Operand → Value} {g : FuncId} {dst : Option Tmp} {args : Array Operand} {ats : Array TypeId} {type : TypeId} {pos : String} {after : Array Edge} {guard : Option (Nat × Bool)} (hρ : ρ (.func g) = .func (.func g) #[] #[] := by rfl) :
    execOp ρ ⟨dst, .call ⟨.value (.func g), args, ats⟩, type, pos, after, guard⟩ = callFunc g (args.map ρ) := by
  show (do let d ← Deferred.ofValue (ρ (.func g)) (args.map ρ); invoke d.target d.args) = _
  rw [hρ]
  show callFunc g (#[] ++ args.map ρ ++ #[]) = _
  simp
theorem cOp_ok (E : Env P inf und kf) (X : ExtOk P ext) (hc : cOp inf und kf ext okT o.op = .op k f) (hf : FO okT c fr a) (rel : (k = 1 ∨ k = 3) → c = cx ι h w ∧ Rel P B W ι h w) (e : f fr h = .ok r h') :
    OpOk P B W ι w k c h h' r (execOp a.eval o) := by
  have hmv : ∀ {x : Operand}, c1 okT 0 xMv x = .op k f → execOp a.eval o = pure (.value (a.eval x)) → OpOk P B W ι w k c h h' r (execOp a.eval o) := fun {x} hc hq => by
    obtain ⟨x', h1, rfl, rfl⟩ := c1_ok hc
    obtain ⟨e2, e3⟩ := okE e
    subst e2
    exact ⟨e3.symm, _, cX_ok hf h1, fun w => by rw [hq]; rfl⟩
  have hmupd : ∀ {t : TypeId} {m x v : Operand}, (match und t with
      | some (.map kt _) => c3 okT 3 (xMupd kt (kf kt)) m x v
      | _ => .bad) = Bx.op k f → execOp a.eval o = (do Instr.mapUpdate t (a.eval m) (a.eval x) (a.eval v); pure .skip) → OpOk P B W ι w k c h h' r (execOp a.eval o) := fun {t m x v} hc hq => by
    split at hc
    · rename_i kt q1 hu
      obtain ⟨m', x', v', h1, h2, h3, rfl, rfl⟩ := c3_ok hc
      obtain ⟨rfl, rl⟩ := rel (by simp)
      exact res3u (e_mupd (zx := m') E.key rl (E.und _ _ hu) (cX_ok hf h1) (cX_ok hf h2) (cX_ok hf h3) e) hq
    · cases hc
  obtain ⟨dst, op, type, pos, after, guard⟩ := o
  simp only at hc
  cases op
  case move x => exact hmv hc rfl
  case assign x => exact hmv hc rfl
  case pick x y z =>
    obtain ⟨x', y', z', h1, h2, h3, rfl, rfl⟩ := c3_ok (show c3 okT 0 xPick x y z = _ from hc)
    obtain ⟨g1, b, g2, g3⟩ := s_pick (cX_ok hf h1) (cX_ok hf h2) (cX_ok hf h3) e
    refine ⟨g1, _, g3, fun w => ?_⟩
    simp [execOp, g2, asBool]
  case alloc t =>
    simp only [cOp] at hc
    cases hz : zeroOf inf t with
    | none => simp only [hz] at hc; cases hc
    | some z =>
      simp only [hz] at hc
      obtain ⟨cs, hc, hcs⟩ := cells_bx hc
      cases hc
      obtain ⟨o, h1, h2⟩ := m_zero (c := c) (old := .tuple #[]) (E.zeroC hz hcs) e
      exact ⟨o, h1, mk_v h2 rfl⟩
  case box t x =>
    obtain ⟨x', h1, rfl, rfl⟩ := c1_ok (show c1 okT 2 (xBox t) x = _ from hc)
    obtain ⟨o, h2, h3⟩ := m_box (P := P) (cX_ok hf h1) e
    exact ⟨o, h2, mk_v h3 rfl⟩
  case build t ps =>
    simp only [cOp] at hc
    have hmap : (ps.map fun (x : Nat × Operand) => (x.1, a.eval x.2)) = ((ps.toList.map fun p => (p.1, a.eval p.2)).toArray) := arr_map _ _
    cases hz : zeroOf inf t with
    | none => simp only [hz] at hc; cases hc
    | some z =>
      cases hu : und t with
      | none => simp only [hz, hu] at hc; cases hc
      | some d =>
        simp only [hz, hu] at hc
        cases d <;> simp only [reduceCtorEq] at hc
        case struct fs =>
          cases hfs : fieldsAt inf okT fs ps.toList with
          | none => simp only [hfs] at hc; cases hc
          | some l =>
            simp only [hfs] at hc
            obtain ⟨hall, hc⟩ := bif_bx hc
            obtain ⟨cs, hc, hcs⟩ := cells_bx hc
            cases hc
            have hpl := fieldsAt_ok hf hfs
            refine res0 (s_build (E.zeroC hz hcs) hpl (fun w z cells => build_struct (place := placeF inf fs) (E.und _ _ hu) (fun w => ?_) (PL.placed hpl) w z cells) e) (by simp only [execOp]; rw [hmap])
            obtain ⟨l, g1, g2⟩ := mapM_sizes E w fs.toList hall
            refine ⟨l.toArray, ?_, fun i p hp => ?_⟩
            · rw [Array.mapM_eq_mapM_toList]
              simp only [map_eq_pure_bind, Sem.run_bind]
              rw [g1]
              rfl
            · simpa using g2 i p (by simpa [placeF] using hp)
        case array n q1 =>
          cases hs : sizeT inf q1 with
          | none => simp only [hs] at hc; cases hc
          | some sz =>
            simp only [hs] at hc
            cases hfs : elemsAt okT sz ps.toList with
            | none => simp only [hfs] at hc; cases hc
            | some l =>
              simp only [hfs] at hc
              obtain ⟨cs, hc, hcs⟩ := cells_bx hc
              cases hc
              obtain ⟨_, _, _, _, hsz⟩ := E.size hs
              exact res0 (s_build (E.zeroC hz hcs) (elemsAt_ok hf hfs) (fun w z cells => build_array (E.und _ _ hu) hsz rfl w z cells) e) (by simp only [execOp]; rw [hmap])
  case buildSlice t n ps =>
    simp only [cOp] at hc
    have hmap : (ps.map fun (x : Nat × Operand) => (x.1, a.eval x.2)) = ((ps.toList.map fun p => (p.1, a.eval p.2)).toArray) := arr_map _ _
    split at hc
    · rename_i q1 hu
      split at hc
      · rename_i sz z hs hz
        split at hc
        · rename_i l hl
          obtain ⟨cs, hc, hcs⟩ := cells_bx hc
          obtain ⟨h24, hc⟩ := bif_bx hc
          cases hc
          rw [Bool.and_eq_true] at h24
          obtain ⟨_, _, _, _, hsz⟩ := E.size hs
          have hlen : cs.length = sz + 1 := by rw [← llen_eq]; exact Nat.eq_of_beq_eq_true h24.2
          obtain ⟨o, h1, h2⟩ := m_buildS (E.und _ _ hu) hsz (by omega) (E.zeroC hz hcs) hlen (Nat.le_of_ble_eq_true h24.1) (elemsAt_ok hf hl) e
          exact ⟨o, h1, mk_v h2 (by simp only [execOp]; rw [hmap])⟩
        · cases hc
      · cases hc
    · cases hc
  case load t x =>
    simp only [cOp] at hc
    cases hw : wideT inf und t with
    | none => simp only [hw] at hc; cases hc
    | some m =>
      simp only [hw] at hc
      rcases E.wide hw with ⟨rfl, g1⟩ | ⟨n, d, rfl, g1, g2, g3, g4, g5⟩
      · obtain ⟨x', h1, rfl, rfl⟩ := c1_ok hc
        obtain ⟨rfl, rl⟩ := rel (by simp)
        exact res1 (r_ld rl g1 (cX_ok hf h1) e) rfl
      · obtain ⟨x', h1, rfl, rfl⟩ := c1_ok hc
        obtain ⟨rfl, rl⟩ := rel (by simp)
        exact res1 (r_ldn rl g3 g4 g5 (cX_ok hf h1) e) rfl
  case store t x y =>
    simp only [cOp] at hc
    cases hs : sizeT inf t with
    | none => simp only [hs] at hc; cases hc
    | some n =>
      simp only [hs] at hc
      obtain ⟨x', y', h1, h2, rfl, rfl⟩ := c2_ok hc
      obtain ⟨_, _, _, _, g⟩ := E.size hs
      obtain ⟨rfl, rl⟩ := rel (by simp)
      exact res3u (e_st rl g (cX_ok hf h1) (cX_ok hf h2) e) rfl
  case nilCheck x =>
    obtain ⟨x', h1, rfl, rfl⟩ := c1_ok (show c1 okT 0 xNil x = _ from hc)
    obtain ⟨g1, g2, p, g3⟩ := s_nil (cX_ok hf h1) e
    exact ⟨g1, _, g2, fun w => by simp only [execOp, g3]; rfl⟩
  case binOp op t x y u => exact o_binop E hc hf rel e rfl
  case unOp op t x =>
    cases op
    case not =>
      obtain ⟨x', h1, rfl, rfl⟩ := c1_ok (show c1 okT 0 xNot x = _ from hc)
      exact res0 (s_not (cX_ok hf h1) e) rfl
    case neg =>
      obtain ⟨x', h1, rfl, rfl⟩ := c1_ok (show c1 okT 0 xNeg x = _ from hc)
      exact res0 (s_neg (cX_ok hf h1) e) rfl
    case xor =>
      obtain ⟨x', h1, rfl, rfl⟩ := c1_ok (show c1 okT 0 xCompl x = _ from hc)
      exact res0 (s_compl (cX_ok hf h1) e) rfl
    case plus => cases hc
  case convert s d x => exact o_conv E hc hf rel e rfl
  case makeInterface t x =>
    simp only [cOp] at hc
    cases hu : und t with
    | none => simp only [hu] at hc; cases hc
    | some d =>
      simp only [hu] at hc
      split at hc
      · cases hc
      · rename_i d' hn heq
        cases heq
        obtain ⟨x', h1, rfl, rfl⟩ := c1_ok hc
        exact res0 (s_mki (E.noIface hu (fun ms h => hn ms (by rw [h]))) (cX_ok hf h1) e) rfl
      · cases hc
  case makeFunc fn first caps =>
    simp only [cOp] at hc
    split at hc
    · rename_i g
      split at hc
      · rename_i l1 l2 h1 h2
        cases hc
        obtain ⟨g1, g2⟩ := s_clos (cXs_ok hf h1) (cXs_ok hf h2) e
        refine ⟨g1, _, g2, fun w => ?_⟩
        simp only [execOp, Instr.makeFunc, Sem.run_bind, Sem.run_pure, Result.andThen_ok]
        rw [arr_map, arr_map]
      · cases hc
    · cases hc
  case makeMap t z =>
    simp only [cOp] at hc
    split at hc
    · rename_i kt q1 hu
      cases hc
      obtain ⟨o, h1, h2⟩ := m_mkmap (P := P) (c := c) (t := t) e
      exact ⟨o, h1, mk_v h2 rfl⟩
    · cases hc
  case makeSlice t x y =>
    simp only [cOp] at hc
    split at hc
    · rename_i q1 hu
      split at hc
      · rename_i sz by_ z hs hb hz
        obtain ⟨cs, hc, hcs⟩ := cells_bx hc
        obtain ⟨hl, hc⟩ := bif_bx hc
        obtain ⟨x', y', h1, h2, rfl, rfl⟩ := c2_ok hc
        obtain ⟨i, g0, g1, g2, hsz⟩ := E.size hs
        have hby : i.bytes = by_ := by unfold bytesT at hb; rw [g0] at hb; exact Option.some.inj hb
        have hlen : cs.length = sz + 1 := by rw [← llen_eq]; exact Nat.eq_of_beq_eq_true hl
        have g2' : sz + 1 = i.size := g2.symm
        rw [g2', ← hby] at e
        obtain ⟨o, h3, h4⟩ := m_mksl (E.und _ _ hu) g1 (by omega) (E.zeroC hz hcs) (by omega) (cX_ok hf h1) (cX_ok hf h2) e
        exact ⟨o, h3, mk_v h4 rfl⟩
      · cases hc
    · cases hc
  case slice t x lo hi mx =>
    simp only [cOp] at hc
    split at hc
    case h_2 => cases hc
    rename_i x' lo' hi' mx' h1 h2 h3 h4
    cases hu : und t with
    | none => simp only [hu] at hc; cases hc
    | some d =>
      simp only [hu] at hc
      have hP := E.und _ _ hu
      have harr : ∀ {n q1 : Nat} {sz : Nat}, True → True := fun _ => trivial
      cases d <;> simp only [reduceCtorEq] at hc
      case string =>
        split at hc
        · cases hc
          cases mx with
          | none => exact res0 (s_slstr hP (cO_ok hf h2) (cO_ok hf h3) (cX_ok hf h1) e) rfl
          | some m =>
            unfold cO at h4
            cases hm : cX okT m with
            | none => simp only [hm] at h4; cases h4
            | some m' => simp only [hm] at h4; cases h4
        · cases hc
      case slice q1 =>
        cases hs : sizeT inf q1 with
        | none => simp only [hs] at hc; cases hc
        | some sz =>
          simp only [hs] at hc
          cases hc
          obtain ⟨_, _, _, _, hsz⟩ := E.size hs
          exact res0 (s_slc hP hsz (cO_ok hf h2) (cO_ok hf h3) (cO_ok hf h4) (cX_ok hf h1) e) rfl
      case array n q1 =>
        cases hs : sizeT inf q1 with
        | none => simp only [hs] at hc; cases hc
        | some sz =>
          simp only [hs] at hc
          cases hc
          obtain ⟨_, _, _, _, hsz⟩ := E.size hs
          obtain ⟨rfl, rl⟩ := rel (by simp)
          obtain ⟨g1, u, g2, g3⟩ := s_slarr rl rfl hP hsz (cO_ok hf h2) (cO_ok hf h3) (cO_ok hf h4) (cX_ok hf h1) e
          exact res1 ⟨g1, u, g2, g3 w⟩ rfl
  case fieldAddr t x i =>
    simp only [cOp] at hc
    split at hc
    · rename_i fs hu
      split at hc
      · rename_i fd hi
        split at hc
        · rename_i n hs
          obtain ⟨x', h1, rfl, rfl⟩ := c1_ok hc
          obtain ⟨i', _, g1, g2, _⟩ := E.size hs
          exact res0 (s_faddr (E.und _ _ hu) hi (by rw [g1]; exact congrArg some g2) (by omega) rfl (cX_ok hf h1) e) rfl
        · cases hc
      · cases hc
    · cases hc
  case field t x i =>
    simp only [cOp] at hc
    split at hc
    · rename_i fs hu
      split at hc
      · rename_i fd hi
        split at hc
        · rename_i n hs
          obtain ⟨x', h1, rfl, rfl⟩ := c1_ok hc
          exact res0 (s_fld (E.und _ _ hu) hi (E.wideW hs) rfl (cX_ok hf h1) e) rfl
        · cases hc
      · cases hc
    · cases hc
  case indexAddr t x i =>
    simp only [cOp] at hc
    split at hc
    · rename_i n q1 hu
      split at hc
      · rename_i sz hs
        obtain ⟨x', y', h1, h2, rfl, rfl⟩ := c2_ok hc
        obtain ⟨_, _, _, _, hsz⟩ := E.size hs
        exact res0 (s_iaddrA (E.und _ _ hu) hsz (cX_ok hf h1) (cX_ok hf h2) e) rfl
      · cases hc
    · rename_i q1 hu
      split at hc
      · rename_i sz hs
        obtain ⟨x', y', h1, h2, rfl, rfl⟩ := c2_ok hc
        obtain ⟨_, _, _, _, hsz⟩ := E.size hs
        exact res0 (s_iaddr (E.und _ _ hu) hsz (cX_ok hf h1) (cX_ok hf h2) e) rfl
      · cases hc
    · cases hc
  case index t x i =>
    simp only [cOp] at hc
    split at hc
    · rename_i n q1 hu
      split at hc
      · rename_i sz m hs hw
        obtain ⟨x', y', h1, h2, rfl, rfl⟩ := c2_ok hc
        obtain ⟨_, _, _, _, hsz⟩ := E.size hs
        exact res0 (s_idxA (E.und _ _ hu) hsz (E.wideW hw) (cX_ok hf h1) (cX_ok hf h2) e) rfl
      · cases hc
    · rename_i hu
      obtain ⟨x', y', h1, h2, rfl, rfl⟩ := c2_ok hc
      exact res0 (s_idxS (E.und _ _ hu) (cX_ok hf h1) (cX_ok hf h2) e) rfl
    · cases hc
  case lookup t x y ok =>
    simp only [cOp] at hc
    split at hc
    · rename_i kt q1 hu
      split at hc
      · rename_i z hz
        obtain ⟨x', y', h1, h2, rfl, rfl⟩ := c2_ok hc
        obtain ⟨rfl, rl⟩ := rel (by simp)
        exact res1 (r_look E.key rl (E.und _ _ hu) (E.zeroV hz) (cX_ok hf h1) (cX_ok hf h2) e) rfl
      · cases hc
    · cases hc
  case mapUpdate t m x v => exact hmupd hc rfl
  case insert t m x v => exact hmupd hc rfl
  case range t x =>
    simp only [cOp] at hc
    split at hc
    · rename_i kt q1 hu
      obtain ⟨x', h1, rfl, rfl⟩ := c1_ok hc
      obtain ⟨rfl, rl⟩ := rel (by simp)
      exact res3 (e_rng rl (E.und _ _ hu) (cX_ok hf h1) e) rfl
    · cases hc
  case next x s =>
    cases s
    · obtain ⟨x', h1, rfl, rfl⟩ := c1_ok (show c1 okT 3 xNxt x = _ from hc)
      obtain ⟨rfl, rl⟩ := rel (by simp)
      exact res3 (e_nxt (ty := type) rl (cX_ok hf h1) e) rfl
    · cases hc
  case entry x =>
    obtain ⟨x', h1, rfl, rfl⟩ := c1_ok (show c1 okT 1 xEntry x = _ from hc)
    obtain ⟨rfl, rl⟩ := rel (by simp)
    exact res1 (r_entry rl (cX_ok hf h1) e) rfl
  case typeAssert x s t ok =>
    cases ok
    · simp only [cOp] at hc
      cases hu : und t with
      | none => simp only [hu] at hc; cases hc
      | some d =>
        simp only [hu] at hc
        split at hc
        · cases hc
        · rename_i d' hn heq
          cases heq
          obtain ⟨x', h1, rfl, rfl⟩ := c1_ok hc
          exact res0 (s_tas (E.noIface hu (fun ms h => hn ms (by rw [h]))) (cX_ok hf h1) e) rfl
        · cases hc
    · cases hc
  case sliceToArrayPointer t x =>
    simp only [cOp] at hc
    split at hc
    · rename_i n q1 hu
      obtain ⟨x', h1, rfl, rfl⟩ := c1_ok hc
      exact res0 (s_s2a (E.und _ _ hu) (cX_ok hf h1) e) rfl
    · cases hc
  case extract x i =>
    obtain ⟨x', h1, rfl, rfl⟩ := c1_ok (show c1 okT 0 (fun a => xExt a i) x = _ from hc)
    exact res0 (s_ext (cX_ok hf h1) e) rfl
  case call cl =>
    obtain ⟨callee, args, ats⟩ := cl
    cases callee with
    | builtin b =>
      have := o_builtin (ts := ats) (ty := type) (cs := args.map fun | .const _ => true | _ => false) E (show cBuiltin inf und kf okT b ats args.toList = _ from hc) hf rel e
      have hq : execOp a.eval ⟨dst, .call ⟨.builtin b, args, ats⟩, type, pos, after, guard⟩ = builtin b ats type (args.map fun | .const _ => true | _ => false) (args.toList.map a.eval).toArray := by
        show builtin b ats type _ (args.map a.eval) = _
        rw [arr_map a.eval args]
        rfl
      rw [hq]
      exact this
    | value x =>
      cases x with
      | func g =>
        simp only [cOp] at hc
        cases hl : cXs okT args.toList with
        | none => simp only [hl] at hc; cases hc
        | some l =>
          simp only [hl] at hc
          cases hg : ext g with
          | none => simp only [hg] at hc; cases hc
          | some z =>
            simp only [hg] at hc
            cases hc
            obtain ⟨g1, u, g2, g3⟩ := X g z hg c l _ fr h h' r (cXs_ok hf hl) e
            refine ⟨g1, u, g2, fun w => ?_⟩
            rw [call_func]
            rw [arr_map a.eval args]
            exact g3 w
      | tmp t => simp only [cOp] at hc; split at hc <;> cases hc
      | const v => simp only [cOp] at hc; split at hc <;> cases hc
      | global g => simp only [cOp] at hc; split at hc <;> cases hc
    | invoke r n => cases hc
  all_goals cases hc
end
end Ev
end Go.Proofs.YtfpghnldcbhniaaGreat
