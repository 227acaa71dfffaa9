/- SyncNil: the shelf's Sorted, as a plug. -/
import Derived.Shelf.SlIterI.Nil
import Derived.Shelf.SortM.Plain
import Derived.Shelf.SortM.SortNone
import Derived.Ground.GgzProg
import Derived.Ground.SlgmProg
import Derived.Test.YtfpghnldcbhniaaGreatCnB
namespace Go.Proofs.YtfpghnldcbhniaaGreat
set_option linter.unusedVariables false
set_option linter.unusedSimpArgs false
open Go.RowKit Go.Maps Go.Sort Go.Shelf
namespace Ev
shelf_lay_g SlLaysZI.n7 Ggz 7 at Tryz 75 as keysA
shelf_lay_g SlLaysZI.n6 Ggz 6 at Tryz 74 as sortedA
shelf_lay_g SlLaysM.n5 Slgm 5 at Tryz 114 as sortA
theorem sortsA (m : Nat) : AnyZI.SortsIn Tryz.prog sortedA_ren Fence.wide m :=
  ⟨fun blk off cap ss W hH hblk hsz => callsIn_wide.2 (AnyM.slices_Sort_int sortA blk off cap ss W hH hblk hsz),
   fun p cap W => callsIn_wide.2 (AnyM.slices_Sort_int_none sortA p cap W)⟩
set_option maxHeartbeats 1000000 in
theorem sorted_calls {H : Type} (B0 b nn : Nat) (D0 : DataW H) (R : Value → Option (DataW H × List MemPlace)) (w : World) (hB : B0 < w.heap.size) (hm : w.cell? ⟨B0, 0, none⟩ = some (.map (some b))) (hown : w.ownsMap Tryz.prog 3 R b nn D0) (hmax : Maps.size D0 ≤ maxLen) (hbytes : Maps.size D0 * 8 ≤ 140737488355328) :
    Calls Tryz.prog 74 #[.func (.func 115) #[] #[.pointer (some ⟨B0, 0, none⟩)]] w fun e w' => ∃ (v : Value) (ss : List Int), e = .returned v ∧ ss.Perm (intKeys D0) ∧
      w'.ownsRow w.heap.size 3 1 v ss.length ((ss.mergeSort (fun x y => decide (x ≤ y))).map encZ) ∧ (v = .slice none 0 0 ↔ ss = []) ∧ Below w.heap.size w w' := by
  refine (callsIn_wide (n := 6)).1 ?_
  have hseq : SeqGives Fence.wide 3 Tryz.prog 115 #[.pointer (some ⟨B0, 0, none⟩)] encZ (fun ss => ss.Perm (intKeys D0)) (Maps.size D0) w :=
    AnyZI.keys_gives (ρ := keysA_ren) { keysA with } Fence.wide _ trivial rfl (by omega) B0 b nn D0 _ hB hm hown
  have cS := AnyZI.sorted_in sortedA Fence.wide 6 trivial trivial trivial trivial rfl (by omega) (sortsA _) (enters_of Tryz.func114 (by kernel_rfl) rfl) 115 #[.pointer (some ⟨B0, 0, none⟩)] trivial (enters_of Tryz.func115 (by kernel_rfl) rfl) _ _ hmax hbytes _ hseq
  exact cS
end Ev
end Go.Proofs.YtfpghnldcbhniaaGreat
namespace Go.Proofs.YtfpghnldcbhniaaGreat
set_option linter.unusedVariables false
set_option linter.unusedSimpArgs false
open Go.RowKit Go.Maps Go.Sort Go.Shelf
namespace Ev

/-- slices.Sorted of a map's keys, of a map of one entry. -/
noncomputable def sorted1 (xs : List AV) (h : H) : E :=
  one1 xs .no fun x => x.func? .no fun g n caps => bi (and' (Nat.beq g 115) (Nat.beq n 0)) (one1 caps .no fun c => c.ptr? .no fun b o => bi (Nat.beq o 0) (cellsAt h b .no fun cs _ _ => ob (lget cs 0) .no fun m => m.map? .no .no fun mb => mapAt h mb .no fun kt es ck =>
    one1 es .no fun e => e.1.int? .no fun k z => bi (and' (Nat.beq kt 3) (and' (eqK k .i64) (Nat.blt e.2.2 ck))) (.ok (.slice h.nx 0 1 none 1) (h.new (.cells [.int .i64 z] 3 0))) .no) .no) .no
theorem ML.one_inv {P : Program} {kt : TypeId} {c : Cx} {e : AV × AV × Nat} {fs : List MapEntry} (m : ML P kt c [e] fs) : ∃ x, fs = [x] ∧ V c e.1 x.key ∧ (∃ l, keyOf P kt x.key = some l) ∧ x.born = e.2.2 := by
  cases m with
  | cons h1 h2 h3 h4 h5 h6 h7 => cases h7; exact ⟨_, rfl, h1, h2, h5⟩
theorem func_okE {v : AV} {f : FuncId → Nat → List AV → E} {r : AV} {h : H} (e : v.func? E.no f = .ok r h) : ∃ g n cs, v = .func g n cs ∧ f g n cs = .ok r h := by
  cases v <;> first | cases e | exact ⟨_, _, _, rfl, e⟩
theorem sorted1_ok : OneOk Tryz.prog 74 sorted1 := by
  intro B W ι h w xs vs r h' rel hv e
  obtain ⟨x, rfl, e1⟩ := one1_ok (show one1 xs E.no _ = _ from e)
  obtain ⟨g, n, caps, rfl, e2⟩ := func_okE e1
  obtain ⟨hb1, e3⟩ := biE e2
  obtain ⟨hg, hn⟩ := and'_eq hb1
  have hg := Nat.eq_of_beq_eq_true hg
  have hn := Nat.eq_of_beq_eq_true hn
  obtain ⟨c, rfl, e4⟩ := one1_ok e3
  obtain ⟨b, o, rfl, e5⟩ := ptr_ok e4
  obtain ⟨ho, e6⟩ := biE e5
  have ho := Nat.eq_of_beq_eq_true ho
  obtain ⟨cs, t, fz, hb, e7⟩ := at_cells e6
  obtain ⟨m, hm, e8⟩ := obE e7
  obtain ⟨mb, rfl, e9⟩ : ∃ b, m = .map b ∧ _ := by
    rcases map_ok e8 with ⟨_, h⟩ | h
    · cases h
    · exact h
  obtain ⟨kt, es, ck, hmb, e10⟩ := at_map e9
  obtain ⟨⟨ka, va, na⟩, rfl, e11⟩ := one1_ok e10
  obtain ⟨k, z, hka, e12⟩ := int_ok e11
  simp only at hka
  obtain ⟨hb2, e13⟩ := biE e12
  obtain ⟨hkt, hb3⟩ := and'_eq hb2
  have hkt := Nat.eq_of_beq_eq_true hkt
  obtain ⟨hk, hlt⟩ := and'_eq hb3
  obtain ⟨e14, e15⟩ := okE e13
  have hk := eqK_eq hk
  rw [blt_eq] at hlt
  have hlt : na < ck := of_decide_eq_true hlt
  clear e e1 e2 e3 e4 e5 e6 e7 e8 e9 e10 e11 e12 e13 hb1 hb2 hb3
  subst hg hn ho hkt hk hka e14 e15
  -- the values
  cases hv with
  | cons hx hnil =>
    cases hnil
    cases hx with
    | func _ _ _ us hc _ =>
      cases hc with
      | cons hp hnil =>
        cases hnil
        obtain ⟨q, o', rfl, j1, j2⟩ := hp.ptr_inv
        obtain ⟨hq, rfl⟩ := j2 ⟨_, hb⟩
        obtain ⟨c', lo, hi, k1, k2, k3, k4, k5⟩ := block_cells rel hb hq
        have hm' : cs[0]? = some (.map mb) := by rw [← lget_eq]; exact hm
        obtain ⟨v0, hv0, hvm⟩ := k3.get 0 hm'
        obtain ⟨qm, rfl, i1, i2⟩ := hvm.map_inv
        have hqm := i2 ⟨_, hmb⟩
        obtain ⟨es', m1, m2⟩ := rel.ob mb _ qm hmb hqm
        obtain ⟨x, hx1, hx2, ⟨l, hx3⟩, hx4⟩ := m2.one_inv
        have hes : es' = #[x] := by rw [← Array.toArray_toList (xs := es'), hx1]
        subst hes
        have hkey : x.key = .int .i64 z := hx2.int_inv
        have hl : l = .int .i64 z := by
          rw [hkey] at hx3
          simp [keyOf, mapKey, show Tryz.prog.underlying 3 = some (.int .i64) from by kernel_rfl] at hx3
          exact hx3.2.symm
        have hq0 : q < w.heap.size := (Array.getElem?_eq_some_iff.1 k1).1
        have hcell : w.cell? ⟨q, 0, none⟩ = some (.map (some qm)) := by
          have h1 : c'[0]? = some (.map (some qm)) := by
            have h2 := hv0
            rw [List.getElem?_take] at h2
            split at h2
            · simpa using h2
            · cases h2
          simp [World.cell?, k1, h1]
        have hrd : Go.WideElems.rd (H := Unit) Tryz.prog 3 (fun _ => some (.nil, [])) x = some (l, .nil) := by
          simp [Go.WideElems.rd, hx3]
        have hrg : Go.WideElems.rg (H := Unit) Tryz.prog 3 (fun _ => some (.nil, [])) x = (l, .nil) := by
          simp [Go.WideElems.rg, hrd]
        have hown : w.ownsMap (H := Unit) Tryz.prog 3 (fun _ => some (.nil, [])) qm 1 (.map [(l, .nil)]) := by
          refine ⟨#[x], ck, m1, ⟨show 1 ≤ maxLen by decide, ⟨fun y hy => ?_, by simp, by simp⟩, fun y hy => ?_⟩, by simp, ?_⟩
          · have : y = x := by simpa using hy
            subst this
            rw [hx4]; exact of_decide_eq_true hlt
          · have : y = x := by simpa using hy
            subst this
            exact ⟨_, hrd⟩
          · simp [hrg, DataW.insert]
        refine ⟨fun w0 => enters_of Tryz.func74 (by kernel_rfl) rfl _ w0, (sorted_calls (H := Unit) q qm 1 _ _ w hq0 hcell hown (show 1 ≤ maxLen by decide) (show 1 * 8 ≤ 140737488355328 by decide)).mono ?_⟩
        rintro e w' ⟨v, ss, rfl, hperm, hrow, hnil, hbelow⟩
        have hss : ss = [z] := by
          have h1 : intKeys (DataW.map [(l, (.nil : DataW Unit))]) = [z] := by rw [hl]; rfl
          rw [h1] at hperm
          exact List.perm_singleton.1 hperm
        subst hss
        rcases hrow.2 with ⟨rfl, hz⟩ | ⟨gb, cap, cur, rfl, hbase, hgb, r1, r2, r3, r4⟩
        · exact absurd (hnil.1 rfl) (by simp)
        · have hobj : ObjR Tryz.prog (cx ι h w) w' gb (.cells [.int .i64 z] 3 0) := by
            refine ⟨cur, 0, 0, hgb, ?_, ?_, ?_, fun i _ hi => by omega⟩
            · simp at r1 r3 ⊢; omega
            · have : cur.toList.take [AV.int .i64 z].length = [.int .i64 z] := by simpa using r4
              rw [this]
              exact .cons (.int _ _) .nil
            · intro a ha
              rw [List.mem_singleton.1 ha]
              rfl
          obtain ⟨s1, s2⟩ := rel.newAt hbelow hbase hobj
          refine ⟨_, _, rfl, s1, s2, .slice _ _ _ _ _ _ _ _ ?_ r1 (fun k hk => by cases hk) fun _ => ⟨upd_same _ _ _, .inl rfl, ?_⟩⟩
          · show h.nx.num < (h.new _).nx.num
            rw [nx_new]; omega
          · show 0 + cap * 1 ≤ bsz w' gb
            unfold bsz
            rw [hgb]
            simp at r3 ⊢
            omega
end Ev
end Go.Proofs.YtfpghnldcbhniaaGreat
