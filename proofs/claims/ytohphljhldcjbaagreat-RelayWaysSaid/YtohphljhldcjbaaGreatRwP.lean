/- slices.Sorted of a map's keys, as the run has it. -/
import Derived.Test.YtohphljhldcjbaaGreatRwS
namespace Go.Proofs.YtohphljhldcjbaaGreat
set_option linter.unusedVariables false
set_option linter.unusedSimpArgs false
open Go.RowKit Go.Maps Go.Sort Go.Shelf
namespace Ev

theorem one1_ok {α : Type} {l : List α} {f : α → E} {r : AV} {h' : H} (e : one1 l .no f = .ok r h') : ∃ x, l = [x] ∧ f x = .ok r h' := by
  cases l with
  | nil => cases e
  | cons x l =>
    cases l with
    | nil => exact ⟨x, rfl, e⟩
    | cons _ _ => cases e
theorem ML.one_inv {P : Program} {kt : TypeId} {c : Cx} {e : AV × AV × Nat} {fs : List MapEntry} (m : ML P kt c [e] fs) : ∃ x, fs = [x] ∧ V c e.1 x.key ∧ (∃ l, keyOf P kt x.key = some l) ∧ x.born = e.2.2 := by
  cases m with
  | cons h1 h2 h3 h4 h5 h6 h7 => cases h7; exact ⟨_, rfl, h1, h2, h5⟩
theorem func_okE {v : AV} {f : FuncId → Nat → List AV → E} {r : AV} {h : H} (e : v.func? E.no f = .ok r h) : ∃ g n cs, v = .func g n cs ∧ f g n cs = .ok r h := by
  cases v <;> first | cases e | exact ⟨_, _, _, rfl, e⟩
theorem sorted1_ok : OneOk Tryz.prog 36 sorted1 := by
  intro B W ι h w xs vs r h' rel hv e
  obtain ⟨x, rfl, e1⟩ := one1_ok (show one1 xs E.no _ = _ from e)
  obtain ⟨g, n, caps, rfl, e2⟩ := func_okE e1
  obtain ⟨hb1, e3⟩ := biE e2
  obtain ⟨hg, hn⟩ := and'_eq hb1
  have hg := Nat.eq_of_beq_eq_true hg
  have hn := Nat.eq_of_beq_eq_true hn
  obtain ⟨c, rfl, e4⟩ := one1_ok e3
  obtain ⟨b, o, rfl, e5⟩ := ptr_ok e4
  obtain ⟨ho, e6⟩ := biE e5
  have ho := Nat.eq_of_beq_eq_true ho
  obtain ⟨cs, t, fz, hb, e7⟩ := at_cells e6
  obtain ⟨m, hm, e8⟩ := obE e7
  obtain ⟨mb, rfl, e9⟩ : ∃ b, m = .map b ∧ _ := by
    rcases map_ok e8 with ⟨_, h⟩ | h
    · cases h
    · exact h
  obtain ⟨kt, es, ck, hmb, e10⟩ := at_map e9
  obtain ⟨⟨ka, va, na⟩, rfl, e11⟩ := one1_ok e10
  obtain ⟨k, z, hka, e12⟩ := int_ok e11
  simp only at hka
  obtain ⟨hb2, e13⟩ := biE e12
  obtain ⟨hkt, hb3⟩ := and'_eq hb2
  have hkt := Nat.eq_of_beq_eq_true hkt
  obtain ⟨hk, hlt⟩ := and'_eq hb3
  obtain ⟨e14, e15⟩ := okE e13
  have hk := eqK_eq hk
  rw [blt_eq] at hlt
  have hlt : na < ck := of_decide_eq_true hlt
  clear e e1 e2 e3 e4 e5 e6 e7 e8 e9 e10 e11 e12 e13 hb1 hb2 hb3
  subst hg hn ho hkt hk hka e14 e15
  -- the values
  cases hv with
  | cons hx hnil =>
    cases hnil
    cases hx with
    | func _ _ _ us hc _ =>
      cases hc with
      | cons hp hnil =>
        cases hnil
        obtain ⟨q, o', rfl, j1, j2⟩ := hp.ptr_inv
        obtain ⟨hq, rfl⟩ := j2 ⟨_, hb⟩
        obtain ⟨c', lo, hi, k1, k2, k3, k4, k5⟩ := block_cells rel hb hq
        have hm' : cs[0]? = some (.map mb) := by rw [← lget_eq]; exact hm
        obtain ⟨v0, hv0, hvm⟩ := k3.get 0 hm'
        obtain ⟨qm, rfl, i1, i2⟩ := hvm.map_inv
        have hqm := i2 ⟨_, hmb⟩
        obtain ⟨es', m1, m2⟩ := rel.ob mb _ qm hmb hqm
        obtain ⟨x, hx1, hx2, ⟨l, hx3⟩, hx4⟩ := m2.one_inv
        have hes : es' = #[x] := by rw [← Array.toArray_toList (xs := es'), hx1]
        subst hes
        have hkey : x.key = .int .i64 z := hx2.int_inv
        have hl : l = .int .i64 z := by
          rw [hkey] at hx3
          simp [keyOf, mapKey, show Tryz.prog.underlying 3 = some (.int .i64) from by kernel_rfl] at hx3
          exact hx3.2.symm
        have hq0 : q < w.heap.size := (Array.getElem?_eq_some_iff.1 k1).1
        have hcell : w.cell? ⟨q, 0, none⟩ = some (.map (some qm)) := by
          have h1 : c'[0]? = some (.map (some qm)) := by
            have h2 := hv0
            rw [List.getElem?_take] at h2
            split at h2
            · simpa using h2
            · cases h2
          simp [World.cell?, k1, h1]
        have hrd : Go.WideElems.rd (H := Unit) Tryz.prog 3 (fun _ => some (.nil, [])) x = some (l, .nil) := by
          simp [Go.WideElems.rd, hx3]
        have hrg : Go.WideElems.rg (H := Unit) Tryz.prog 3 (fun _ => some (.nil, [])) x = (l, .nil) := by
          simp [Go.WideElems.rg, hrd]
        have hown : w.ownsMap (H := Unit) Tryz.prog 3 (fun _ => some (.nil, [])) qm 1 (.map [(l, .nil)]) := by
          refine ⟨#[x], ck, m1, ⟨show 1 ≤ maxLen by decide, ⟨fun y hy => ?_, by simp, by simp⟩, fun y hy => ?_⟩, by simp, ?_⟩
          · have : y = x := by simpa using hy
            subst this
            rw [hx4]; exact of_decide_eq_true hlt
          · have : y = x := by simpa using hy
            subst this
            exact ⟨_, hrd⟩
          · simp [hrg, DataW.insert]
        refine ⟨fun w0 => enters_of Tryz.func36 (by kernel_rfl) rfl _ w0, (sorted_calls (H := Unit) q qm 1 _ _ w hq0 hcell hown (show 1 ≤ maxLen by decide) (show 1 * 8 ≤ 140737488355328 by decide)).mono ?_⟩
        rintro e w' ⟨v, ss, rfl, hperm, hrow, hnil, hbelow⟩
        have hss : ss = [z] := by
          have h1 : intKeys (DataW.map [(l, (.nil : DataW Unit))]) = [z] := by rw [hl]; rfl
          rw [h1] at hperm
          exact List.perm_singleton.1 hperm
        subst hss
        rcases hrow.2 with ⟨rfl, hz⟩ | ⟨gb, cap, cur, rfl, hbase, hgb, r1, r2, r3, r4⟩
        · exact absurd (hnil.1 rfl) (by simp)
        · have hobj : ObjR Tryz.prog (cx ι h w) w' gb (.cells [.int .i64 z] 3 0) := by
            refine ⟨cur, 0, 0, hgb, ?_, ?_, ?_, fun i _ hi => by omega⟩
            · simp at r1 r3 ⊢; omega
            · have : cur.toList.take [AV.int .i64 z].length = [.int .i64 z] := by simpa using r4
              rw [this]
              exact .cons (.int _ _) .nil
            · intro a ha
              rw [List.mem_singleton.1 ha]
              rfl
          obtain ⟨s1, s2⟩ := rel.newAt hbelow hbase hobj
          refine ⟨_, _, rfl, s1, s2, .slice _ _ _ _ _ _ _ _ ?_ r1 (fun k hk => by cases hk) fun _ => ⟨upd_same _ _ _, .inl rfl, ?_⟩⟩
          · show h.nx.num < (h.new _).nx.num
            rw [nx_new]; omega
          · show 0 + cap * 1 ≤ bsz w' gb
            unfold bsz
            rw [hgb]
            simp at r3 ⊢
            omega
end Ev
end Go.Proofs.YtohphljhldcjbaaGreat
