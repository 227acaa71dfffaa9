/- Status in the run: with any number of peers. Status in the run: what is proved of it. Status in the run: any number of peers, in any order. -/
import Derived.Test.YtbkeeghkpkfeiaaGreatDoorNsR
import Derived.Test.YtbkeeghkpkfeiaaGreatDoorNsI
import Derived.Test.YtbkeeghkpkfeiaaGreatDoorStC
namespace Go.Proofs.YtbkeeghkpkfeiaaGreatDoor
set_option linter.unusedVariables false
set_option linter.unusedSimpArgs false
open Go.RowKit Go.Maps
namespace Ev
theorem obj_kill {h : H} {b p : Pos} {o : AObj} (e : (h.kill b).obj p = some o) : p ≠ b ∧ h.obj p = some o := by
  by_cases hp : b = p
  · subst hp
    have := T.get_set_same b (none : Option AObj) h.t
    rw [show (h.kill b).obj b = none from this] at e
    cases e
  · exact ⟨fun h => hp h.symm, by rw [← show (h.kill b).obj p = h.obj p from T.get_set_ne b none h.t p hp]; exact e⟩
noncomputable def cellsO {β : Type} (h : H) (b : Pos) (d : β) (f : List AV → β) : β := ob (h.obj b) d fun o => o.cells? d fun cs _ _ => f cs
/-- Whether a peer is shaken. -/
noncomputable def entFl {β : Type} (h : H) (bs : Pos) (v : AV) (d : β) (f : Bool → β) : β :=
  v.ptr? d fun l o => bi (Nat.beq o 0) (bi (l.beq bs) d (cellsO h l d fun cs => ob (lget cs 0) d fun q => q.ptr? d fun p o' => bi (Nat.beq o' 0) (bi (p.beq bs) d (cellsO h p d fun ps =>
    ob (lget ps 246) d fun x => ob (lget ps 247) d fun y => x.bool? d fun x => y.bool? d fun y => f (and' x y))) d)) d
noncomputable def cntE (h : H) (bs : Pos) (es : List (AV × AV × Nat)) : Option Nat :=
  List.rec (motive := fun _ => Option Nat) (some 0) (fun e _ ih => ob ih none fun n => entFl h bs e.2.1 none fun b => bi b (some (Nat.succ n)) (some n)) es
noncomputable def iterAt (h : H) (b : Pos) (f : Option Pos → Nat → List Nat → Nat → E) : E := ob (h.obj b) .no fun it => it.iter? .no f
noncomputable def stEnd (fr1 : Fr) (h1 : H) : E :=
  (Fr.get fr1 (slot 5)).ptr? .no fun bs o5 => (Fr.get fr1 (slot 81)).ptr? .no fun bi' o81 => (Fr.get fr1 (slot 2)).ptr? .no fun b2 o2 =>
    bi (and' (Nat.beq o5 0) (and' (Nat.beq o81 0) (Nat.beq o2 0))) (bi (b2.beq bs) .no
      (cellsAt h1 bs .no fun cs t fz => cellsAt h1 b2 .no fun cs2 t2 fz2 => iterAt h1 bi' fun m since seen last => ob m .no fun m => mapAt h1 m .no fun kt es ck =>
        bi (and' (Nat.beq (llen cs) 74) (and' (Nat.beq (llen cs2) 74) (and' (Nat.beq fz 0) (and' (Nat.beq fz2 0) (and' (Nat.beq since ck) (and' (Nat.beq last ck) (and' (Nat.beq seen.length 0) (and' (bornOk ck es 0) (Nat.ble ck 900000)))))))))
          (ob (lget cs 67) .no fun z => bi (sameAV z (.int .i64 0)) (ob (cntE h1 bs es) .no fun n => ob (lput [.int .i64 (.ofNat n)] 67 cs) .no fun cs' => .ok (.agg cs') (((h1.kill bs).kill bi').kill b2)) .no) .no)) .no
noncomputable def stP (kk : K) : List AV → H → E := fun xs h =>
  bi (Nat.ble (llen xs) 96) (R.rec (motive := fun _ => E) .no (fun fr1 h1 => stEnd fr1 h1) (fun _ _ _ => .no) (fun _ _ => .no) (bc (cCode inf und keyOk ext 100000 96 (preC 10 stCode)) kk (argsIn xs 0 .e) h)) .no

section
variable {P : Program} {B : Nat} {W : World} {ι : Pos → Option Nat} {h h' : H} {w w' : World} {r : AV}
theorem cellsO_some {β : Type} {b : Pos} {d y : β} {f : List AV → β} (hd : y ≠ d) (e : cellsO h b d f = y) : ∃ cs t fz, h.obj b = some (.cells cs t fz) ∧ f cs = y := by
  obtain ⟨o, ho, e⟩ := ob_some hd (show ob (h.obj b) d _ = y from e)
  cases o with
  | cells cs t fz => exact ⟨cs, t, fz, ho, e⟩
  | map => exact absurd e.symm hd
  | iter => exact absurd e.symm hd
theorem ptr_some {β : Type} {v : AV} {d y : β} {f : Pos → Nat → β} (hd : y ≠ d) (e : v.ptr? d f = y) : ∃ b o, v = .ptr b o ∧ f b o = y := by
  cases v <;> first | exact absurd (show d = y from e).symm hd | exact ⟨_, _, rfl, e⟩
theorem bool_some {β : Type} {v : AV} {d y : β} {f : Bool → β} (hd : y ≠ d) (e : v.bool? d f = y) : ∃ b, v = .bool b ∧ f b = y := by
  cases v <;> first | exact absurd (show d = y from e).symm hd | exact ⟨_, rfl, e⟩
theorem bi_else {β : Type} {b : Bool} {x d y : β} (hd : y ≠ d) (e : bi b d x = y) : b = false ∧ x = y := by
  cases b with
  | true => exact absurd (show d = y from e).symm hd
  | false => exact ⟨rfl, e⟩
theorem entFl_some {β : Type} {bs : Pos} {v : AV} {d y : β} {f : Bool → β} (hd : y ≠ d) (e : entFl h bs v d f = y) :
    ∃ l p cs t fz ps t' fz' x z, v = .ptr l 0 ∧ l ≠ bs ∧ h.obj l = some (.cells cs t fz) ∧ cs[0]? = some (.ptr p 0) ∧ p ≠ bs ∧ h.obj p = some (.cells ps t' fz') ∧ ps[246]? = some (.bool x) ∧ ps[247]? = some (.bool z) ∧ f (and' x z) = y := by
  obtain ⟨l, o, rfl, e⟩ := ptr_some hd e
  obtain ⟨ho, e⟩ := bi_some hd e
  have ho := Nat.eq_of_beq_eq_true ho
  subst ho
  obtain ⟨hl, e⟩ := bi_else hd e
  obtain ⟨cs, t, fz, h1, e⟩ := cellsO_some hd e
  obtain ⟨q, h2, e⟩ := ob_some hd e
  obtain ⟨p, o', rfl, e⟩ := ptr_some hd e
  obtain ⟨ho, e⟩ := bi_some hd e
  have ho := Nat.eq_of_beq_eq_true ho
  subst ho
  obtain ⟨hp, e⟩ := bi_else hd e
  obtain ⟨ps, t', fz', h3, e⟩ := cellsO_some hd e
  obtain ⟨x, h4, e⟩ := ob_some hd e
  obtain ⟨z, h5, e⟩ := ob_some hd e
  obtain ⟨bx, hx, e⟩ := bool_some hd e
  obtain ⟨bz, hz, e⟩ := bool_some hd e
  subst hx hz
  rw [lget_eq] at h2 h4 h5
  exact ⟨l, p, cs, t, fz, ps, t', fz', bx, bz, rfl, fun hh => (by rw [(Pos.beq_eq _ _).2 hh] at hl; cases hl), h1, h2, fun hh => (by rw [(Pos.beq_eq _ _).2 hh] at hp; cases hp), h3, h4, h5, e⟩
theorem cell_at (rel : Rel P B W ι h w) {b : Pos} {cs : List AV} {t : TypeId} {fz q i : Nat} {a : AV} (hb : h.obj b = some (.cells cs t fz)) (hq : ι b = some q) (hi : cs[i]? = some a) : ∃ v, w.cell? ⟨q, i, none⟩ = some v ∧ V (cx ι h w) a v := by
  obtain ⟨c', lo, hi', k1, k2, k3, k4, k5⟩ := block_cells rel hb hq
  obtain ⟨u, hu, hv⟩ := k3.get i hi
  have hlt : i < cs.length := (List.getElem?_eq_some_iff.1 hi).1
  rw [List.getElem?_take_of_lt hlt] at hu
  exact ⟨u, by simp only [World.cell?, k1]; simpa using hu, hv⟩
/-- Whether the peer of an entry is shaken, as the world has it. -/
def flW (w : World) (e : MapEntry) : Bool :=
  match e.val with
  | .pointer (some a) =>
    match w.cell? ⟨a.block, 0, none⟩ with
    | some (.pointer (some q)) =>
      match w.cell? ⟨q.block, 246, none⟩, w.cell? ⟨q.block, 247, none⟩ with
      | some (.bool v), some (.bool k) => v && k
      | _, _ => false
    | _ => false
  | _ => false
theorem and'_and (x z : Bool) : and' x z = (x && z) := by cases x <;> cases z <;> rfl
theorem ents_ok (rel : Rel P B W ι h w) {bs : Pos} {xs xi : Nat} {cs0 : List AV} {t0 : TypeId} {fz0 : Nat} (hbs : h.obj bs = some (.cells cs0 t0 fz0)) (hxs : ι bs = some xs) {m' : Option Nat} {since last : Nat} {seen : Array Nat} (hxi : w.heap[xi]? = some (.mapIter m' since seen last)) {kt : TypeId} :
    ∀ {es : List (AV × AV × Nat)} {fs : List MapEntry} {n : Nat}, cntE h bs es = some n → ML P kt (cx ι h w) es fs → (∀ e ∈ fs, Ent w xi xs (flW w) e) ∧ (fs.filter (flW w)).length = n
  | [], fs, n, e, hm => by
    cases hm
    cases e
    exact ⟨fun e h => (by cases h), rfl⟩
  | (k, v, b) :: es, fs, n, e, hm => by
    cases hm with
    | cons h1 h2 h3 h4 h5 h6 h7 =>
      rename_i e0 fs
      obtain ⟨n0, e1, e2⟩ := ob_some (by simp) (show ob (cntE h bs es) none (fun n => entFl h bs v none fun b => bi b (some (Nat.succ n)) (some n)) = some n from e)
      obtain ⟨i1, i2⟩ := ents_ok rel hbs hxs hxi e1 h7
      obtain ⟨l, p, cs, t, fz, ps, t', fz', x, z, rfl, g1, g2, g3, g4, g5, g6, g7, g8⟩ := entFl_some (by simp) e2
      obtain ⟨ql, o1, j1, j2, j3⟩ := h4.ptr_inv
      obtain ⟨hql, rfl⟩ := j3 ⟨_, g2⟩
      obtain ⟨u1, c1, c2⟩ := cell_at rel g2 hql g3
      obtain ⟨qp, o2, rfl, j5, j6⟩ := c2.ptr_inv
      obtain ⟨hqp, rfl⟩ := j6 ⟨_, g5⟩
      obtain ⟨u2, c3, c4⟩ := cell_at rel g5 hqp g6
      obtain ⟨u3, c5, c6⟩ := cell_at rel g5 hqp g7
      have c4 := c4.bool_inv
      have c6 := c6.bool_inv
      subst c4 c6
      have hfl : flW w e0 = (x && z) := by
        unfold flW
        rw [j1]
        simp only [c1, c3, c5]
      have ne_it : ∀ {b : Pos} {q : Nat} {cs : List AV} {t : TypeId} {fz : Nat}, h.obj b = some (.cells cs t fz) → ι b = some q → q ≠ xi := fun hb hq hh => by
        obtain ⟨c', lo, hi', k1, _⟩ := block_cells rel hb hq
        rw [hh, hxi] at k1
        cases k1
      have ne_s : ∀ {b : Pos} {q : Nat} {cs : List AV} {t : TypeId} {fz : Nat}, b ≠ bs → h.obj b = some (.cells cs t fz) → ι b = some q → q ≠ xs := fun hb h1 hq hh => hb (rel.inj _ _ _ _ xs h1 hbs (hh ▸ hq) hxs)
      refine ⟨fun e he => ?_, ?_⟩
      · rcases List.mem_cons.1 he with rfl | he
        · exact ⟨ql, qp, x, z, j1, c1, c3, c5, hfl, ne_it g2 hql, ne_s g1 g2 hql, ne_it g5 hqp, ne_s g4 g5 hqp⟩
        · exact i1 e he
      · rw [and'_and] at g8
        rw [List.filter_cons, hfl]
        cases hxz : (x && z) with
        | true =>
          rw [hxz] at g8
          have g8 : some (Nat.succ n0) = some n := g8
          cases g8
          rw [if_pos rfl, List.length_cons, i2]
        | false =>
          rw [hxz] at g8
          have g8 : some n0 = some n := g8
          cases g8
          rw [if_neg (by simp), i2]
end
end Ev
end Go.Proofs.YtbkeeghkpkfeiaaGreatDoor
namespace Go.Proofs.YtbkeeghkpkfeiaaGreatDoor
set_option linter.unusedVariables false
set_option linter.unusedSimpArgs false
open Go.RowKit Go.Maps
namespace Ev
section
variable {P : Program} {B : Nat} {W : World} {ι : Pos → Option Nat} {h h' : H} {w w' : World} {r : AV} {kk : K}
theorem iter_at {p : Pos} {f : Option Pos → Nat → List Nat → Nat → E} (e : iterAt h p f = .ok r h') : ∃ m s n l, h.obj p = some (.iter m s n l) ∧ f m s n l = .ok r h' := it_at e
theorem st_body : Tryz.f15.body = some stCode := by kernel_rfl
theorem st_ntmps : Tryz.f15.ntmps = 96 := by kernel_rfl
theorem st_shape : shpC 10 stCode = true := by kernel_rfl
theorem st_results : Tryz.f15.results = #[.cell 2 60] := by kernel_rfl
theorem st_result {x2 : Nat} {vs : List Value} {tmps : Array Value} {W3 : World} (h2 : tmps.getD 2 undef = .pointer (some ⟨x2, 0, none⟩)) (hl : vs.length = 74) (hr : W3.rangeAt x2 0 vs) :
    (results Tryz.f15 tmps).run Tryz.prog W3 = .ok (.agg vs.toArray) W3 := by
  obtain ⟨d, hu, hrow⟩ := und_st
  have hld : (Instr.loadAt 60 (.pointer (some ⟨x2, 0, none⟩))).run Tryz.prog W3 = .ok (.agg vs.toArray) W3 := run_loadAt_mid W3 x2 0 _ _ d hr hu hrow (by rw [hl]; exact info_st)
  have h3 : (resSem tmps (.cell 2 60)).run Tryz.prog W3 = .ok (.agg vs.toArray) W3 := by
    show (do loadVar _ (← asAddr (tmps.getD 2 undef)) : Sem Value).run Tryz.prog W3 = _
    rw [h2]
    exact load_var hld
  show (do let vs ← Tryz.f15.results.mapM (resSem tmps); pure (if h : vs.size = 1 then vs[0] else .tuple vs) : Sem Value).run Tryz.prog W3 = _
  rw [st_results, Array.mapM_eq_mapM_toList]
  simp only [map_eq_pure_bind, Sem.run_bind, List.mapM_cons, List.mapM_nil, h3, Result.andThen_ok, Sem.run_pure]
  rfl
theorem stEnd_ok {fr1 : Fr} {h1 : H} (e : stEnd fr1 h1 = .ok r h') : ∃ bs b2 bi m cs t cs2 t2 kt es ck n cs', Fr.get fr1 (slot 5) = .ptr bs 0 ∧ Fr.get fr1 (slot 81) = .ptr bi 0 ∧ Fr.get fr1 (slot 2) = .ptr b2 0 ∧ b2 ≠ bs ∧
    h1.obj bs = some (.cells cs t 0) ∧ h1.obj b2 = some (.cells cs2 t2 0) ∧ h1.obj bi = some (.iter (some m) ck [] ck) ∧ h1.obj m = some (.map kt es ck) ∧ cs.length = 74 ∧ cs2.length = 74 ∧ bornOk ck es 0 = true ∧ ck ≤ 900000 ∧
    cs[67]? = some (.int .i64 0) ∧ cntE h1 bs es = some n ∧ lput [.int .i64 (.ofNat n)] 67 cs = some cs' ∧ r = .agg cs' ∧ h' = ((h1.kill bs).kill bi).kill b2 := by
  obtain ⟨bs, o5, e5, q0⟩ := ptr_ok (show (Fr.get fr1 (slot 5)).ptr? E.no _ = _ from e)
  obtain ⟨bi', o81, e81, q1⟩ := ptr_ok q0
  obtain ⟨b2, o2, e2, q2⟩ := ptr_ok q1
  obtain ⟨g0, q3⟩ := biE q2
  obtain ⟨g5, g0⟩ := and'_eq g0
  obtain ⟨g81, g2⟩ := and'_eq g0
  have g5 := Nat.eq_of_beq_eq_true g5
  have g81 := Nat.eq_of_beq_eq_true g81
  have g2 := Nat.eq_of_beq_eq_true g2
  subst g5 g81 g2
  obtain ⟨hb, q4⟩ := bi_else (d := E.no) (y := E.ok r h') (by simp) q3
  obtain ⟨cs, t, fz, h5, q5⟩ := at_cells q4
  obtain ⟨cs2, t2, fz2, h2, q6⟩ := at_cells q5
  obtain ⟨mm, since, seen, last, h81, q7⟩ := iter_at q6
  obtain ⟨m, hm, q8⟩ := obE q7
  subst hm
  obtain ⟨kt, es, ck, hm, q9⟩ := at_map q8
  obtain ⟨k0, q10⟩ := biE q9
  obtain ⟨k1, k0⟩ := and'_eq k0
  obtain ⟨k2, k0⟩ := and'_eq k0
  obtain ⟨k3, k0⟩ := and'_eq k0
  obtain ⟨k4, k0⟩ := and'_eq k0
  obtain ⟨k5, k0⟩ := and'_eq k0
  obtain ⟨k6, k0⟩ := and'_eq k0
  obtain ⟨k7, k0⟩ := and'_eq k0
  obtain ⟨k8, k9⟩ := and'_eq k0
  have k1 := Nat.eq_of_beq_eq_true k1
  have k2 := Nat.eq_of_beq_eq_true k2
  have k3 := Nat.eq_of_beq_eq_true k3
  have k4 := Nat.eq_of_beq_eq_true k4
  have k5 := Nat.eq_of_beq_eq_true k5
  have k6 := Nat.eq_of_beq_eq_true k6
  have k7 := Nat.eq_of_beq_eq_true k7
  have k9 := Nat.le_of_ble_eq_true k9
  rw [llen_eq] at k1 k2
  have k7 := List.eq_nil_of_length_eq_zero k7
  subst k3 k4 k5 k6 k7
  obtain ⟨z, hz, q11⟩ := obE q10
  obtain ⟨hz2, q12⟩ := biE q11
  have hz2 := sameAV_eq _ _ hz2
  subst hz2
  rw [lget_eq] at hz
  obtain ⟨n, hn, q13⟩ := obE q12
  obtain ⟨cs', hp, q14⟩ := obE q13
  obtain ⟨e1, e3⟩ := okE q14
  exact ⟨bs, b2, bi', m, cs, t, cs2, t2, kt, es, _, n, cs', e5, e81, e2, fun hh => (by rw [(Pos.beq_eq _ _).2 hh] at hb; cases hb), h5, h2, h81, hm, k1, k2, k8, k9, hz, hn, hp, e1.symm, e3.symm⟩
end
end Ev
end Go.Proofs.YtbkeeghkpkfeiaaGreatDoor
namespace Go.Proofs.YtbkeeghkpkfeiaaGreatDoor
set_option linter.unusedVariables false
set_option linter.unusedSimpArgs false
open Go.RowKit Go.Maps
namespace Ev
section
variable {B : Nat} {W : World} {kk : K}
theorem VL.set67 {c : Cx} {cs cs' : List AV} {c' : Array Value} {v : AV} {u : Value} (h : VL c cs (c'.toList.take cs.length)) (hc : cs.length ≤ c'.size) (hl : cs.length = 74) (hp : lput [v] 67 cs = some cs') (hv : V c v u) :
    VL c cs' ((c'.setIfInBounds 67 u).toList.take 74) := by
  obtain ⟨_, rfl⟩ := lput_some hp
  have e : (c'.setIfInBounds 67 u).toList.take 74 = (c'.toList.take cs.length).take 67 ++ [u] ++ (c'.toList.take cs.length).drop 68 := by
    rw [hl]
    simp only [Array.toList_setIfInBounds]
    rw [List.take_set, List.set_eq_take_append_cons_drop]
    have : 67 < (c'.toList.take 74).length := by simp; omega
    rw [if_pos this]
    simp
  rw [e]
  exact ((h.take 67).append (.one hv)).append (h.drop 68)
theorem stP_at (E : Env Tryz.prog inf und keyOk) (X : ExtOk Tryz.prog ext) (hmix : Tryz.prog.follows .mixedOrders = true) (KO : KOK Tryz.prog B W kk) : OneAt Tryz.prog B W 15 (stP kk) := by
  intro ι h w xs vs r h' rel hv e
  obtain ⟨g1, e⟩ := biE (show bi (Nat.ble (llen xs) 96) _ Ev.E.no = _ from e)
  have g1 := Nat.le_of_ble_eq_true g1
  rw [llen_eq] at g1
  have hF : Tryz.prog.funcs[15]? = some Tryz.f15 := Tryz.func15
  refine ⟨fun w0 => enters_of hF (by kernel_rfl) rfl _ w0, calls_of_wp hF st_body ?_⟩
  have hn : Tryz.f15.ntmps = 96 := st_ntmps
  rw [hn]
  cases hres : bc (cCode inf und keyOk ext 100000 96 (preC 10 stCode)) kk (argsIn xs 0 .e) h with
  | no => rw [hres] at e; cases e
  | x id fr' h1 => rw [hres] at e; cases e
  | r fr' h1 => rw [hres] at e; cases e
  | n fr1 h1 =>
    rw [hres] at e
    obtain ⟨bs, b2, bi', m, cs, t, cs2, t2, kt, es, ck, n, cs', e5, e81, e2, hne, h5, h2, h81, hm, k1, k2, k8, k9, k67, hn, hp, rfl, rfl⟩ := stEnd_ok (show stEnd fr1 h1 = _ from e)
    refine pre_ok (N := 100000) (inf := inf) (und := und) (kf := keyOk) (ext := ext) (kk := kk) E X KO hmix (by omega) 10 stCode st_shape (FR.start (c := cx ι h w) (by omega) g1 hv) rel hres ?_
    intro ι1 a1 w1 f1 r1 x1
    have v5 := f1.val 5 (by omega)
    have v81 := f1.val 81 (by omega)
    have v2 := f1.val 2 (by omega)
    rw [e5] at v5
    rw [e81] at v81
    rw [e2] at v2
    obtain ⟨qs, o5, p5, j5, j5'⟩ := v5.ptr_inv
    obtain ⟨q5, rfl⟩ := j5' ⟨_, h5⟩
    obtain ⟨qi, o81, p81, j81, j81'⟩ := v81.ptr_inv
    obtain ⟨q81, rfl⟩ := j81' ⟨_, h81⟩
    obtain ⟨q2, o2, p2, j2, j2'⟩ := v2.ptr_inv
    obtain ⟨q2', rfl⟩ := j2' ⟨_, h2⟩
    obtain ⟨c5, lo5, hi5, s1, s2, s3, s4, s5⟩ := block_cells r1 h5 q5
    obtain ⟨c2, lo2, hi2, t1, t2', t3, t4, t5⟩ := block_cells r1 h2 q2'
    obtain ⟨m', u1, u2⟩ := r1.ob bi' _ qi h81 q81
    obtain ⟨qm, hmm, um, um'⟩ := V.map_inv u2
    cases hmm
    have hqm := um' ⟨_, hm⟩
    obtain ⟨es', y1, y2⟩ := r1.ob m _ qm hm hqm
    obtain ⟨b1, b2', b3, b4⟩ := born_ok k8 y2
    obtain ⟨z1, z2⟩ := ents_ok r1 h5 q5 u1 hn y2
    have hu67 : c5[67]? = some (.int .i64 0) := by
      obtain ⟨u, hu, hv⟩ := s3.get 67 k67
      rw [List.getElem?_take_of_lt (by omega)] at hu
      rw [hv.int_inv] at hu
      simpa using hu
    have hsize : es'.size ≤ 900000 := by
      have h1 : 0 + es'.toList.length ≤ ck := b4
      simp at h1
      omega
    have hfz5 : ∀ i, lo5 ≤ i → i < hi5 → i < c5.size → False := fun i a b c => by have := s5 i a b c; omega
    have hfz2 : ∀ i, lo2 ≤ i → i < hi2 → i < c2.size → False := fun i a b c => by have := t5 i a b c; omega
    have d25 : q2 ≠ qs := fun hh => hne (r1.inj _ _ _ _ _ h2 h5 (hh ▸ q2') q5)
    have d2i : q2 ≠ qi := fun hh => by rw [hh] at t1; rw [show w1.heap[qi]? = _ from u1] at t1; cases t1
    have dsi : qs ≠ qi := fun hh => by rw [hh] at s1; rw [show w1.heap[qi]? = _ from u1] at s1; cases s1
    refine loop_ok (v2 := .pointer (some ⟨q2, 0, none⟩)) (xs := qs) (xi := qi) (qm := qm) (ck := ck) (es := es') (cs := c5) (t := t) (f := (lo5, hi5)) (fl := flW w1) ⟨f1.size, f1.defers, p2, p5, p81⟩ u1 y1 s1 hu67 (fun ⟨a, b⟩ => hfz5 67 a b (by omega)) (fun x hx => (b1 x hx).2) b2' (by omega) z1 ?_
    intro a w2 F ⟨seen, L, h0⟩
    show (tlC 10 stCode).wp Tryz.prog _ a w2
    have hcnt : cntS es' (flW w1) seen = n := (cntS_all h0).trans z2
    have L5 := L.st
    rw [hcnt] at L5
    have L2 : w2.heap[q2]? = some (.cells c2 t2 (lo2, hi2)) := (L.keep q2 d2i d25).trans t1
    have hVL : VL (cx ι1 h1 w1) cs' ((c5.setIfInBounds 67 (.int .i64 (n : Int))).toList.take 74) := s3.set67 s2 k1 hp (.int _ _)
    have hone : ∀ a ∈ cs', a.one = true := by
      obtain ⟨_, rfl⟩ := lput_some hp
      intro a ha
      rcases List.mem_append.1 ha with ha | ha
      · rcases List.mem_append.1 ha with ha | ha
        · exact s4 a (List.mem_of_mem_take ha)
        · rw [List.mem_singleton.1 ha]; rfl
      · exact s4 a (List.mem_of_mem_drop ha)
    have hcell : ∀ {al : List AV} {vs : List Value}, VL (cx ι1 h1 w1) al vs → (∀ a ∈ al, a.one = true) → ∀ u ∈ vs, u.oneCell' = true := by
      intro al vs hv
      induction vs generalizing al with
      | nil => intro _ u hu; cases hu
      | cons u us ih =>
        intro h1 u' hu'
        cases hv with
        | cons a1 a2 =>
          rcases List.mem_cons.1 hu' with rfl | hu'
          · exact a1.one_cell (h1 _ List.mem_cons_self)
          · exact ih a2 (fun a ha => h1 a (List.mem_cons_of_mem _ ha)) u' hu'
    have hlen : ((c5.setIfInBounds 67 (.int .i64 (n : Int))).toList.take 74).length = 74 := by simp; omega
    refine tail_ok (x2 := q2) (c := c5.setIfInBounds 67 (.int .i64 (n : Int))) (c2 := c2) F.size F.defers F.h2 F.h5 L5 (by simp; omega) L2 (by omega) (fun j hj hh => hfz2 j hh.1 hh.2 (by omega)) (hcell hVL hone) ?_
    intro a' hd' h2'
    obtain ⟨c3, w3a, w3b, w3c⟩ := heap_setCells q2 t2 (lo2, hi2) ((c5.setIfInBounds 67 (.int .i64 (n : Int))).toList.take 74) 0 w2 c2 L2 (by omega)
    have wup := wup_setCells q2 ((c5.setIfInBounds 67 (.int .i64 (n : Int))).toList.take 74) 0 w2
    generalize hw3 : w2.setCells q2 0 ((c5.setIfInBounds 67 (.int .i64 (n : Int))).toList.take 74) = W3 at *
    have hrange : W3.rangeAt q2 0 ((c5.setIfInBounds 67 (.int .i64 (n : Int))).toList.take 74) := by
      intro j v hj
      have hjl : j < 74 := by have := (List.getElem?_eq_some_iff.1 hj).1; omega
      simp only [World.cell?, w3a, Nat.zero_add]
      rw [← Array.getElem?_toList, w3c]
      simp only [List.take_zero, List.nil_append]
      rw [List.getElem?_append_left (by omega)]
      simpa using hj
    have hres := st_result (tmps := a'.tmps) h2' hlen hrange
    have hoth : ∀ x, x ≠ q2 → x ≠ qs → x ≠ qi → W3.heap[x]? = w1.heap[x]? := fun x a b c => (wup.other x a).trans (L.keep x c b)
    obtain ⟨s6, s7⟩ := r1.off (h2 := ((h1.kill bs).kill bi').kill b2) (w' := W3) (fun b o ho => (obj_kill (obj_kill (obj_kill ho).2).2).2) rfl (by rw [wup.size]; exact L.size) (by rw [wup.os]; exact L.os) (by rw [wup.tape]; exact L.tape) (by rw [wup.output]; exact L.output) (by
      intro x hx
      by_cases hx2 : x = q2
      · subst hx2
        exact .inr ⟨⟨b2, _, h2, q2', obj_kill_same _ _⟩, by unfold bsz; rw [w3a, t1]; exact w3b⟩
      · by_cases hxs : x = qs
        · subst hxs
          refine .inr ⟨⟨bs, _, h5, q5, ?_⟩, ?_⟩
          · cases hh : (((h1.kill bs).kill bi').kill b2).obj bs with
            | none => rfl
            | some o => exact absurd rfl (obj_kill (obj_kill (obj_kill hh).2).2).1
          · unfold bsz
            rw [wup.other x hx2, L5, s1]
            simp
        · by_cases hxi : x = qi
          · subst hxi
            refine .inr ⟨⟨bi', _, h81, q81, ?_⟩, ?_⟩
            · cases hh : (((h1.kill bs).kill bi').kill b2).obj bi' with
              | none => rfl
              | some o => exact absurd rfl (obj_kill (obj_kill hh).2).1
            · unfold bsz
              rw [wup.other x hx2, L.it, show w1.heap[x]? = _ from u1]
          · exact .inl (hoth x hx2 hxs hxi))
    exact ⟨hd', _, hres, _, ι1, rfl, s6, x1.trans rel s7, .agg _ _ (hVL.mono (s7.le r1)) hone⟩
end
end Ev
end Go.Proofs.YtbkeeghkpkfeiaaGreatDoor
