/- slices.Sorted(maps.Keys(m)) in the run: of a map of ints, whatever its entries. -/
import Derived.Shelf.SlIterI.Nil
import Derived.Shelf.SortM.Plain
import Derived.Shelf.SortM.SortNone
import Derived.Ground.GgzProg
import Derived.Ground.SlgmProg
import Derived.Test.YtbkeeghkpkfeiaaGreatDoorNsF
namespace Go.Proofs.YtbkeeghkpkfeiaaGreatDoor
set_option linter.unusedVariables false
set_option linter.unusedSimpArgs false
open Go.RowKit Go.Maps Go.Sort Go.Shelf
namespace Ev
shelf_lay_g SlLaysZI.n6 Ggz 6 at Tryz 42 as sortedI
shelf_lay_g SlLaysM.n5 Slgm 5 at Tryz 118 as sortI
theorem sortsI (m : Nat) : AnyZI.SortsIn Tryz.prog sortedI_ren Fence.wide m :=
  ⟨fun blk off cap ss W hH hblk hsz => callsIn_wide.2 (AnyM.slices_Sort_int sortI blk off cap ss W hH hblk hsz),
   fun p cap W => callsIn_wide.2 (AnyM.slices_Sort_int_none sortI p cap W)⟩
set_option maxHeartbeats 1000000 in
theorem sortedI_calls {g q : Nat} {D0 : DataW Unit} {w : World} (hseq : SeqGives Fence.wide 3 Tryz.prog g #[.pointer (some ⟨q, 0, none⟩)] encZ (fun ss => ss.Perm (intKeys D0)) (Maps.size D0) w) (eg : ∀ args w, (callFunc g args).run Tryz.prog w = .ok (.enter g args) w) (hmax : Maps.size D0 ≤ maxLen) (hbytes : Maps.size D0 * 8 ≤ 140737488355328) :
    Calls Tryz.prog 42 #[.func (.func g) #[] #[.pointer (some ⟨q, 0, none⟩)]] w fun e w' => ∃ (v : Value) (ss : List Int), e = .returned v ∧ ss.Perm (intKeys D0) ∧
      w'.ownsRow w.heap.size 3 1 v ss.length ((ss.mergeSort (fun x y => decide (x ≤ y))).map encZ) ∧ (v = .slice none 0 0 ↔ ss = []) ∧ Below w.heap.size w w' := by
  refine (callsIn_wide (n := 6)).1 ?_
  have cS := AnyZI.sorted_in sortedI Fence.wide 6 trivial trivial trivial trivial rfl (by omega) (sortsI _) (enters_of Tryz.func118 (by kernel_rfl) rfl) g #[.pointer (some ⟨q, 0, none⟩)] trivial eg _ _ hmax hbytes _ hseq
  exact cS

/-! The entries' keys, in order. -/
noncomputable def keyInts (es : List (AV × AV × Nat)) : Option (List Int) :=
  List.rec (motive := fun _ => Option (List Int)) (some []) (fun e _ ih => e.1.int? none fun k z => bi (eqK k .i64) (ob ih none fun r => some (z :: r)) none) es
noncomputable def bornOk (ck : Nat) (es : List (AV × AV × Nat)) : Nat → Bool :=
  List.rec (motive := fun _ => Nat → Bool) (fun lo => Nat.ble lo ck) (fun e _ ih lo => and' (Nat.ble lo e.2.2) (ih (Nat.succ e.2.2))) es
noncomputable def ins (z : Int) (l : List Int) : List Int := List.rec (motive := fun _ => List Int) [z] (fun y l ih => bi (ltI y z) (y :: ih) (z :: y :: l)) l
noncomputable def isort (l : List Int) : List Int := List.rec (motive := fun _ => List Int) [] (fun z _ ih => ins z ih) l
noncomputable def asInts (l : List Int) : List AV := List.rec (motive := fun _ => List AV) [] (fun z _ r => .int .i64 z :: r) l
noncomputable def llenI (l : List Int) : Nat := List.rec (motive := fun _ => Nat) 0 (fun _ _ n => Nat.succ n) l
theorem llenI_eq (l : List Int) : llenI l = l.length := by
  induction l with
  | nil => rfl
  | cons a l ih => show Nat.succ (llenI l) = _; rw [ih]; rfl
theorem asInts_eq (l : List Int) : asInts l = l.map fun z => .int .i64 z := by
  induction l with
  | nil => rfl
  | cons a l ih => show AV.int .i64 a :: asInts l = _; rw [ih]; rfl
theorem ins_perm (z : Int) (l : List Int) : (ins z l).Perm (z :: l) := by
  induction l with
  | nil => exact List.Perm.refl _
  | cons y l ih =>
    show (bi (ltI y z) (y :: ins z l) (z :: y :: l)).Perm _
    cases ltI y z with
    | true => exact (List.Perm.cons y ih).trans (List.Perm.swap z y l)
    | false => exact List.Perm.refl _
theorem isort_perm (l : List Int) : (isort l).Perm l := by
  induction l with
  | nil => exact List.Perm.refl _
  | cons y l ih => exact (ins_perm y (isort l)).trans (List.Perm.cons y ih)
theorem ins_sorted (z : Int) (l : List Int) (h : l.Pairwise (· ≤ ·)) : (ins z l).Pairwise (· ≤ ·) := by
  induction l with
  | nil => exact List.pairwise_singleton _ _
  | cons y l ih =>
    have h1 := List.pairwise_cons.1 h
    show (bi (ltI y z) (y :: ins z l) (z :: y :: l)).Pairwise _
    cases hb : ltI y z with
    | true =>
      have hlt : y < z := (ltI_iff y z).1 hb
      refine List.pairwise_cons.2 ⟨fun a ha => ?_, ih h1.2⟩
      rcases List.mem_cons.1 ((ins_perm z l).mem_iff.1 ha) with rfl | ha
      · omega
      · exact h1.1 a ha
    | false =>
      have hlt : ¬ y < z := fun g => by rw [(ltI_iff y z).2 g] at hb; cases hb
      refine List.pairwise_cons.2 ⟨fun a ha => ?_, h⟩
      rcases List.mem_cons.1 ha with rfl | ha
      · omega
      · have := h1.1 a ha; omega
theorem isort_sorted (l : List Int) : (isort l).Pairwise (· ≤ ·) := by
  induction l with
  | nil => exact List.Pairwise.nil
  | cons y l ih => exact ins_sorted y _ ih
theorem isort_eq {l ss : List Int} (h : ss.Perm l) : ss.mergeSort (fun x y => decide (x ≤ y)) = isort l := by
  have tr : ∀ a b c : Int, decide (a ≤ b) = true → decide (b ≤ c) = true → decide (a ≤ c) = true := fun a b c h1 h2 => by simp only [decide_eq_true_eq] at *; omega
  have tot : ∀ a b : Int, (decide (a ≤ b) || decide (b ≤ a)) = true := fun a b => by simp only [Bool.or_eq_true, decide_eq_true_eq]; omega
  refine List.Perm.eq_of_pairwise (le := fun a b => a ≤ b) (fun a b _ _ h1 h2 => by omega) ((List.pairwise_mergeSort tr tot ss).imp (fun {a b} h => by simpa using h)) (isort_sorted l) (((List.mergeSort_perm ss _).trans h).trans (isort_perm l).symm)
section
variable {P : Program} {B : Nat} {W : World} {ι : Pos → Option Nat} {h h' : H} {w w' : World} {r : AV} {c : Cx} {kt : TypeId}
theorem born_ok {ck : Nat} : ∀ {es : List (AV × AV × Nat)} {lo : Nat} {fs : List MapEntry}, bornOk ck es lo = true → ML P kt c es fs → (∀ x ∈ fs, lo ≤ x.born ∧ x.born < ck) ∧ (fs.map (·.born)).Nodup ∧ (fs.map (·.key)).Nodup ∧ lo + fs.length ≤ ck
  | [], lo, _, hb, .nil => ⟨fun x h => (by cases h), by simp, by simp, by have := Nat.le_of_ble_eq_true (show Nat.ble lo ck = true from hb); simpa using this⟩
  | (k, v, n) :: es, lo, e :: fs, hb, .cons h1 h2 h3 h4 h5 h6 h7 => by
    obtain ⟨g1, g2⟩ := and'_eq (show and' (Nat.ble lo n) (bornOk ck es (Nat.succ n)) = true from hb)
    have g1 := Nat.le_of_ble_eq_true g1
    obtain ⟨i1, i2, i3, i4⟩ := born_ok g2 h7
    have hck : n < ck := by omega
    refine ⟨fun x hx => ?_, ?_, ?_, by simp; omega⟩
    · rcases List.mem_cons.1 hx with rfl | hx
      · rw [h5]; exact ⟨g1, hck⟩
      · have := i1 x hx; omega
    · rw [List.map_cons, List.nodup_cons]
      refine ⟨fun hm => ?_, i2⟩
      obtain ⟨x, hx, hb⟩ := List.mem_map.1 hm
      have := (i1 x hx).1
      rw [hb, h5] at this
      omega
    · rw [List.map_cons, List.nodup_cons]
      refine ⟨fun hm => ?_, i3⟩
      obtain ⟨x, hx, hb⟩ := List.mem_map.1 hm
      exact h6 x hx hb
theorem ints_ok (hu : P.underlying kt = some (.int .i64)) : ∀ {es : List (AV × AV × Nat)} {zs : List Int} {fs : List MapEntry}, keyInts es = some zs → ML P kt c es fs →
    (∀ x ∈ fs, ∃ y, Go.WideElems.rd (H := Unit) P kt (fun _ => some (.nil, [])) x = some y) ∧ (fs.map (Go.WideElems.rg (H := Unit) P kt (fun _ => some (.nil, [])))).map (fun p => Go.intOf p.1) = zs
  | [], zs, _, e, .nil => by cases e; exact ⟨fun x h => (by cases h), rfl⟩
  | (k, v, n) :: es, zs, e :: fs, hz, .cons h1 h2 h3 h4 h5 h6 h7 => by
    cases k with
    | int q z =>
      obtain ⟨hk, hz⟩ := bi_some (by simp) (show bi (eqK q .i64) (ob (keyInts es) none fun r => some (z :: r)) none = some zs from hz)
      cases eqK_eq hk
      obtain ⟨rs, hr, hz⟩ := ob_some (by simp) hz
      cases hz
      obtain ⟨i1, i2⟩ := ints_ok hu hr h7
      obtain ⟨l, hl⟩ := h2
      have hkey := h1.int_inv
      have hl' : l = .int .i64 z := by
        rw [hkey] at hl
        simp [keyOf, mapKey, hu] at hl
        exact hl.2.symm
      subst hl'
      have hrd : Go.WideElems.rd (H := Unit) P kt (fun _ => some (.nil, [])) e = some (.int .i64 z, .nil) := by
        simp [Go.WideElems.rd, hl]
      refine ⟨fun x hx => ?_, ?_⟩
      · rcases List.mem_cons.1 hx with rfl | hx
        · exact ⟨_, hrd⟩
        · exact i1 x hx
      · rw [List.map_cons, List.map_cons, i2]
        simp [Go.WideElems.rg, hrd, Go.intOf]
    | _ => cases hz
/-- A new row of numbers. -/
theorem rowI_CR {t : TypeId} {u : Value} {zs : List Int} {n : Nat} (rel : Rel P B W ι h w) (hn : zs.length = Nat.succ n) (hrow : w'.ownsRow w.heap.size t 1 u zs.length (zs.map fun z => .int .i64 z)) (hb : Below w.heap.size w w') :
    CR P B W ι h w (.slice h.nx 0 zs.length none 1) (h.new (.cells (asInts zs) t 0)) (.returned u) w' := by
  have hVL : ∀ (c : Cx) (l : List Int), VL c (l.map fun z => .int .i64 z) (l.map fun z => Value.int .i64 z) := fun c l => by
    induction l with
    | nil => exact .nil
    | cons a l ih => exact .cons (.int _ _) ih
  rcases hrow.2 with ⟨rfl, hz⟩ | ⟨gb, cap, cur, rfl, hbase, hgb, r1, r2, r3, r4⟩
  · omega
  · have hobj : ObjR P (cx ι h w) w' gb (.cells (asInts zs) t 0) := by
      rw [asInts_eq]
      refine ⟨cur, 0, 0, hgb, ?_, ?_, ?_, fun i _ hi => by omega⟩
      · simp at r1 r3 ⊢; omega
      · have : cur.toList.take (zs.map fun z => AV.int .i64 z).length = zs.map fun z => Value.int .i64 z := by simpa using r4
        rw [this]
        exact hVL _ _
      · intro b hb
        obtain ⟨z, _, rfl⟩ := List.mem_map.1 hb
        rfl
    obtain ⟨s1, s2⟩ := rel.newAt hb hbase hobj
    refine ⟨_, _, rfl, s1, s2, .slice _ _ _ _ _ _ _ _ ?_ r1 (fun k hk => by cases hk) fun _ => ⟨upd_same _ _ _, .inl rfl, ?_⟩⟩
    · show h.nx.num < (h.new _).nx.num
      rw [nx_new]; omega
    · show 0 + cap * 1 ≤ bsz w' gb
      unfold bsz
      rw [hgb]
      simp at r3 ⊢
      omega
end
/-- The same list of entries, behind another front. -/
noncomputable def sortP (okg : FuncId → Bool) (t : TypeId) (xs : List AV) (h : H) : E := keysAt okg (.nils :: xs) h fun g kt es ck =>
  bi (Nat.beq kt t) (bi (bornOk ck es 0) (bi (Nat.ble ck 1000000) (ob (keyInts es) .no fun zs => Nat.cas (llenI zs) (.ok .nils h) fun n => .ok (.slice h.nx 0 (Nat.succ n) none 1) (h.new (.cells (asInts (isort zs)) t 0))) .no) .no) .no
theorem sortP_ok {okg : FuncId → Bool} (law : ∀ (g : Nat), okg g = true → KeysInt g ∧ ∀ args w, (callFunc g args).run Tryz.prog w = .ok (.enter g args) w) : OneOk Tryz.prog 42 (sortP okg 3) := by
  intro B W fit ι h w xs vs r h' rel hv e
  obtain ⟨g, q, qm, es', kt, es, ck, hvs, hg, hq0, hcell, m1, m2, e1⟩ := keysAt_ok rel (VL.cons V.nils hv) (show keysAt okg (.nils :: xs) h _ = _ from e)
  have hvs : vs = [.func (.func g) #[] #[.pointer (some ⟨q, 0, none⟩)]] := (List.cons.inj hvs).2
  subst hvs
  obtain ⟨hkt, e2⟩ := biE e1
  obtain ⟨hbo, e2⟩ := biE e2
  obtain ⟨hck, e2⟩ := biE e2
  obtain ⟨zs, hz, e3⟩ := obE e2
  have hkt := Nat.eq_of_beq_eq_true hkt
  have hck := Nat.le_of_ble_eq_true hck
  subst hkt
  obtain ⟨hkg, eg⟩ := law g hg
  obtain ⟨b1, b2, b3, b4⟩ := born_ok hbo m2
  obtain ⟨c1, c2⟩ := ints_ok (P := Tryz.prog) (kt := 3) (by kernel_rfl) hz m2
  have hsize : es'.size ≤ 1000000 := by
    have h1 : 0 + es'.toList.length ≤ ck := b4
    simp at h1
    omega
  have hlen : zs.length = es'.size := by rw [← c2]; simp
  have hown : w.ownsMap (H := Unit) Tryz.prog 3 (fun _ => some (.nil, [])) qm es'.size (.map ((es'.toList.map (Go.WideElems.rg (H := Unit) Tryz.prog 3 (fun _ => some (.nil, [])))).foldr DataW.insert [])) :=
    ⟨es', ck, m1, ⟨Nat.le_trans hsize (by decide), ⟨fun x hx => (b1 x hx).2, b2, b3⟩, c1⟩, Nat.le_refl _, rfl⟩
  have hperm0 : (intKeys (DataW.map ((es'.toList.map (Go.WideElems.rg (H := Unit) Tryz.prog 3 (fun _ => some (.nil, [])))).foldr DataW.insert []))).Perm zs := by
    rw [← c2]
    exact (Go.WideShapes.sorted_perm _).map _
  have hms : Maps.size (DataW.map ((es'.toList.map (Go.WideElems.rg (H := Unit) Tryz.prog 3 (fun _ => some (.nil, [])))).foldr DataW.insert [])) = es'.size := by
    have h1 := (Go.WideShapes.sorted_perm (es'.toList.map (Go.WideElems.rg (H := Unit) Tryz.prog 3 (fun _ => some (.nil, []))))).length_eq
    simpa [Maps.size] using h1
  refine ⟨fun w0 => enters_of Tryz.func42 (by kernel_rfl) rfl _ w0, ?_⟩
  refine (sortedI_calls (hkg 3 q qm _ _ w (by omega) hq0 hcell hown) eg (by rw [hms]; exact Nat.le_trans hsize (by decide)) (by rw [hms]; omega)).mono ?_
  rintro e w' ⟨v, ss, rfl, hperm, hrow, hnil, hb⟩
  have hp := hperm.trans hperm0
  have hl2 : ss.length = zs.length := hp.length_eq
  rw [isort_eq hp] at hrow
  have hl3 : (isort zs).length = zs.length := (isort_perm zs).length_eq
  rw [llenI_eq] at e3
  cases hn : zs.length with
  | zero =>
    rw [hn] at e3
    obtain ⟨e4, e5⟩ := okE (show E.ok .nils h = _ from e3)
    subst e4 e5
    have hss : ss = [] := List.eq_nil_of_length_eq_zero (by omega)
    rw [hnil.2 hss]
    obtain ⟨s1, s2⟩ := rel.later hb
    exact ⟨_, ι, rfl, s1, s2, .nils⟩
  | succ n =>
    rw [hn] at e3
    obtain ⟨e4, e5⟩ := okE (show E.ok (.slice h.nx 0 (Nat.succ n) none 1) (h.new (.cells (asInts (isort zs)) 3 0)) = _ from e3)
    subst e4 e5
    have h1 := rowI_CR (t := 3) (zs := isort zs) (n := n) rel (by omega) (by rw [hl3, ← hl2]; exact hrow) hb
    rw [hl3, hn] at h1
    exact h1
end Ev
end Go.Proofs.YtbkeeghkpkfeiaaGreatDoor
