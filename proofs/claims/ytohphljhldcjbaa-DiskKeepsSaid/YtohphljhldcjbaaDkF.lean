/- A disk as it lies in memory; what may turn while it works. -/
import Derived.Test.YtohphljhldcjbaaDkE
import Derived.Deep.AppendLies
import Derived.Deep.RegionLaw
import Derived.OwnWalk
namespace Go.Proofs.Ytohphljhldcjbaa
open Go.RowKit Go.Maps
namespace Dk

/-- Only blocks that may turn, and new ones, are others. -/
structure Chgd (ok : Nat → Prop) (w w' : World) : Prop where
  os : w'.os = w.os
  tape : w'.tape = w.tape
  output : w'.output = w.output
  size : w.heap.size ≤ w'.heap.size
  block : ∀ k, k < w.heap.size → ¬ ok k → w'.heap[k]? = w.heap[k]?

theorem Chgd.refl (ok : Nat → Prop) (w : World) : Chgd ok w w := ⟨rfl, rfl, rfl, Nat.le_refl _, fun _ _ _ => rfl⟩
theorem Chgd.trans {ok : Nat → Prop} {a b c : World} (h : Chgd ok a b) (h' : Chgd ok b c) : Chgd ok a c :=
  ⟨h'.os.trans h.os, h'.tape.trans h.tape, h'.output.trans h.output, Nat.le_trans h.size h'.size, fun k hk hn => (h'.block k (Nat.lt_of_lt_of_le hk h.size) hn).trans (h.block k hk hn)⟩
theorem Chgd.of_grown {ok : Nat → Prop} {w w' : World} {row : Option Nat} (h : w.grownBy w' row) (hr : ∀ g, row = some g → ok g) : Chgd ok w w' :=
  ⟨h.os, h.tape, h.output, h.size, fun k hk hn => h.block k hk (fun e => hn (hr k e.symm))⟩
theorem Chgd.new {ok : Nat → Prop} {w w' : World} (h : w.grownBy w' none) : Chgd ok w w' := Chgd.of_grown h (by simp)
theorem Chgd.below {B : Nat} {w w' : World} (h : Chgd (fun k => B ≤ k) w w') (hB : B ≤ w.heap.size) : Below B w w' :=
  ⟨h.os, h.tape, h.output, h.size, fun k hk => h.block k (by omega) (by omega)⟩

def flat (L : List Chg) : List Value := L.flatMap Chg.cells
theorem flat_snoc (L : List Chg) (c : Chg) : flat (L ++ [c]) = flat L ++ c.cells := by simp [flat]
theorem flat_length (L : List Chg) : (flat L).length = L.length * 5 := by
  induction L with
  | nil => rfl
  | cons c L ih => simp only [flat, List.flatMap_cons, List.length_append, List.length_cons] at *; rw [ih]; simp [Chg.cells]; omega

/-- A disk: its own block, the files that are sure, those that are told, the loose changes. -/
structure Dsk (ok : Nat → Prop) (w : World) (g bs bn : Nat) (loose : Value) (S N : FS) (L : List Chg) (made : Nat) (plan : Value) (dead : Bool) : Prop where
  core : Core w g bs bn loose made plan dead
  sure : Files w bs S
  now : Files w bn N
  ne : bs ≠ bn
  row : w.ownsRow 0 147 5 loose L.length (flat L)
  okg : ok g
  oks : ok bs
  okn : ok bn
  okl : ∀ b, loose.ownBlock = some b → ok b

section
variable {ok : Nat → Prop} {w w' : World} {g bs bn b : Nat} {loose : Value} {S N D : FS} {L : List Chg} {made : Nat} {plan : Value} {dead : Bool}

theorem core_ne (h : Core w g bs bn loose made plan dead) (hf : Files w b D) : g ≠ b := by
  rintro rfl
  obtain ⟨n, es, clock, hb, _⟩ := hf
  have h' : w.heap[g]? = some (.cells _ 143 (0, 0)) := h
  rw [hb] at h'
  cases h'
theorem row_ne_files {v : Value} {n : Nat} {xs : List Value} {e size : Nat} (h : w.ownsRow 0 e size v n xs) (hf : Files w b D) : v.ownBlock ≠ some b := by
  intro he
  obtain ⟨_, es, clock, hb, _⟩ := hf
  rcases h.2 with ⟨rfl, _⟩ | ⟨g', cap, cur, rfl, _, hh, _⟩
  · simp [Value.ownBlock] at he
  · have : g' = b := by simpa [Value.ownBlock] using he
    subst this
    rw [hb] at hh
    cases hh
theorem row_ne_whole {v : Value} {n : Nat} {xs : List Value} {e size t : Nat} {cs : Array Value} (h : w.ownsRow 0 e size v n xs) (hf : Whole w b t cs) (hne : e ≠ t) : v.ownBlock ≠ some b := by
  intro he
  have hf' : w.heap[b]? = some (.cells cs t (0, 0)) := hf
  rcases h.2 with ⟨rfl, _⟩ | ⟨g', cap, cur, rfl, _, hh, _⟩
  · simp [Value.ownBlock] at he
  · have : g' = b := by simpa [Value.ownBlock] using he
    subst this
    rw [hf'] at hh
    injection hh with hh
    injection hh with _ h2
    exact hne h2.symm

theorem Dsk.step (h : Dsk ok w g bs bn loose S N L made plan dead) (hg : w.grownBy w' none) : Dsk ok w' g bs bn loose S N L made plan dead :=
  ⟨h.core.grown hg (by simp), h.sure.grown hg (by simp), h.now.grown hg (by simp), h.ne, h.row.kept hg (by cases hv : loose.ownBlock <;> simp), h.okg, h.oks, h.okn, h.okl⟩
end

theorem info147 : (Try.prog.info? 147).map (fun i => (i.zero, i.size, i.bytes)) = some (some (.agg #[.int .i64 0, .string .empty, .string .empty, .int .i64 0, .string .empty]), 5, 64) := by kernel_rfl

/-- No fall of the plan strikes. -/
def Calm (w : World) (g : Nat) (sync : Bool) : Prop := ∀ W, w.grownBy W none → Calls Try.prog 75 #[.pointer (some ⟨g, 0, none⟩), .bool sync] W fun e w' => e = .returned (.bool false) ∧ W.grownBy w' none

set_option maxHeartbeats 400000 in
theorem strikes_nil (g : Nat) (sync : Bool) (w : World) (c4 : w.cell? ⟨g, 4, none⟩ = some (.slice none 0 0)) : Calls Try.prog 75 #[.pointer (some ⟨g, 0, none⟩), .bool sync] w fun e w' => e = .returned (.bool false) ∧ w.grownBy w' none := by
  go_enter Try.func75, Try.ntmps75
  go_wp2
  refine wp_loop_rounds 1 ?_
  rw [rounds_succ]
  go_wp2
  go_ret
  exact ⟨rfl, grown_refl _ _⟩

/-- A change is laid to the loose ones, and counted. -/
theorem make_done {ok : Nat → Prop} {w w3 X w5 : World} {g bs bn g5 cap5 n : Nat} {loose : Value} {S N : FS} {L : List Chg} {c : Chg} {made : Nat} {plan : Value} {xs : List Value}
    (hX : w3.grownBy X none) (core3 : Core w3 g bs bn loose made plan false) (sure3 : Files w3 bs S) (now3 : Files w3 bn N) (row3 : w3.ownsRow 0 147 5 loose n xs) (hne : bs ≠ bn)
    (okg : ok g) (oks : ok bs) (okn : ok bn) (okl : ∀ b, loose.ownBlock = some b → ok b) (hnew : ∀ k, w.heap.size ≤ k → ok k) (hc3 : Chgd ok w w3)
    (hrow5 : w5.ownsRow 0 147 5 (.slice (some ⟨g5, 0, none⟩) (L.length + 1) cap5) (L.length + 1) (flat L ++ c.cells)) (hgr5 : X.grownBy w5 loose.ownBlock) (hloc5 : loose.ownBlock = some g5 ∨ g5 = X.heap.size) :
    Dsk ok ((w5.setCell ⟨g, 2, none⟩ (.slice (some ⟨g5, 0, none⟩) (L.length + 1) cap5)).setCell ⟨g, 3, none⟩ (.int .i64 (made + 1))) g bs bn (.slice (some ⟨g5, 0, none⟩) (L.length + 1) cap5) S N (L ++ [c]) (made + 1) plan false ∧
    Chgd ok w ((w5.setCell ⟨g, 2, none⟩ (.slice (some ⟨g5, 0, none⟩) (L.length + 1) cap5)).setCell ⟨g, 3, none⟩ (.int .i64 (made + 1))) := by
  have hgl : some g ≠ loose.ownBlock := fun e => row_ne_whole row3 core3 (by decide) e.symm
  have core5 : Core w5 g bs bn loose made plan false := (core3.grown hX (by simp)).grown hgr5 hgl
  have sure5 : Files w5 bs S := (sure3.grown hX (by simp)).grown hgr5 (fun e => row_ne_files row3 sure3 e.symm)
  have now5 : Files w5 bn N := (now3.grown hX (by simp)).grown hgr5 (fun e => row_ne_files row3 now3 e.symm)
  have hset : w5.grownBy ((w5.setCell ⟨g, 2, none⟩ (.slice (some ⟨g5, 0, none⟩) (L.length + 1) cap5)).setCell ⟨g, 3, none⟩ (.int .i64 (made + 1))) (some g) := by
    refine grown_set ?_ (Or.inl rfl) _
    refine grown_set ?_ (Or.inl rfl) _
    exact grown_refl _ _
  have hlt : w.heap.size ≤ X.heap.size := Nat.le_trans hc3.size hX.size
  refine ⟨⟨?_, ?_, ?_, hne, ?_, okg, oks, okn, ?_⟩, ?_⟩
  · have h := (core5.set_ 2 (.slice (some ⟨g5, 0, none⟩) (L.length + 1) cap5)).set_ 3 (.int .i64 (made + 1))
    unfold Core
    simpa using h
  · exact sure5.grown hset (fun e => core_ne core5 sure5 (by injection e with e; exact e.symm))
  · exact now5.grown hset (fun e => core_ne core5 now5 (by injection e with e; exact e.symm))
  · have h := hrow5.kept hset (.inr (row_ne_whole hrow5 core5 (by decide)))
    have e1 : (L ++ [c]).length = L.length + 1 := by simp
    rw [e1, flat_snoc]
    exact h
  · intro b hb
    have hb' : g5 = b := by simpa [Value.ownBlock] using hb
    subst hb'
    rcases hloc5 with h | h
    · exact okl _ h
    · exact hnew _ (by omega)
  · exact ((hc3.trans (Chgd.new hX)).trans (Chgd.of_grown hgr5 okl)).trans (Chgd.of_grown hset (by simpa using okg))

/-- How a call on a disk ends: a number is told, and the disk stands so. -/
def Ends (ok : Nat → Prop) (w : World) (g bs bn : Nat) (S N : FS) (L : List Chg) (made : Nat) (plan : Value) (dead : Bool) (n : Int) (e : Ending) (w' : World) : Prop :=
  e = .returned (.int .i64 n) ∧ ∃ loose, Dsk ok w' g bs bn loose S N L made plan dead ∧ Chgd ok w w'

set_option maxHeartbeats 2000000 in
set_option maxRecDepth 100000 in
theorem make_walk (ok : Nat → Prop) (w : World) (g bs bn : Nat) (loose : Value) (S N : FS) (L : List Chg) (made : Nat) (plan : Value) (h : Dsk ok w g bs bn loose S N L made plan false)
    (c : Chg) (hm : May N c) (hs : Small N) (hz : Maps.size N ≤ 16777216) (hL : L.length ≤ 1000000) (hmade : made ≤ 1000000000)
    (hnew : ∀ k, w.heap.size ≤ k → ok k)
    (hcalm : Calls Try.prog 75 #[.pointer (some ⟨g, 0, none⟩), .bool false] (w.alloc (.cells c.cells.toArray 147)) fun e w' => e = .returned (.bool false) ∧ (w.alloc (.cells c.cells.toArray 147)).grownBy w' none) :
    Calls Try.prog 79 #[.pointer (some ⟨g, 0, none⟩), c.val] w (Ends ok w g bs bn S (doC N c) (L ++ [c]) (made + 1) plan false 0) := by
  obtain ⟨k, name, to, at_, s⟩ := c
  have HC := Lib.hid hcalm
  clear hcalm
  unfold Chg.val
  go_enter Try.func79, Try.ntmps79
  go_wp2_with fail
  refine HC.out.mono ?_
  rintro e w1 ⟨rfl, h1⟩
  go_wp2_with fail
  have hb1 : Whole w1 w.heap.size 147 #[.int .i64 k, .string name, .string to, .int .i64 at_, .string s] := (Whole.fresh w 147 _).grown h1 (by simp)
  have hd1 : Dsk ok w1 g bs bn loose S N L made plan false := (h.step (grown_alloc (grown_refl _ _) _)).step h1
  have hlt : w.heap.size < w1.heap.size := hb1.lt
  have hc1 : Chgd ok w w1 := Chgd.new ((grown_alloc (grown_refl _ _) _).trans h1)
  clear h1 h
  refine wp_region_still_tail 5 (by kernel_rfl) (by kernel_rfl) ?_
  have ew : ({ heap := w1.heap, tape := w1.tape, drawn := w1.drawn + 1, os := w1.os, output := w1.output } : World) = w1.drew := rfl
  rw [ew]
  clear ew
  have hb2 := hb1.drew
  have hd2 := hd1.step (grown_drew (grown_refl w1 none))
  have hc2 : Chgd ok w w1.drew := hc1.trans (Chgd.new (grown_drew (grown_refl w1 none)))
  have hlt2 : w.heap.size < w1.drew.heap.size := hlt
  clear hb1 hd1 hc1 hlt
  generalize w1.drew = w2 at hb2 hd2 hc2 hlt2 ⊢
  have c1 : w2.cell? ⟨g, 1, none⟩ = some (.map (some bn)) := hd2.core.cell 1
  have b0 : w2.cell? ⟨w.heap.size, 0, none⟩ = some (.int .i64 k) := hb2.cell 0
  have b1 : w2.cell? ⟨w.heap.size, 1, none⟩ = some (.string name) := hb2.cell 1
  have b2 : w2.cell? ⟨w.heap.size, 2, none⟩ = some (.string to) := hb2.cell 2
  have b3 : w2.cell? ⟨w.heap.size, 3, none⟩ = some (.int .i64 at_) := hb2.cell 3
  have b4 : w2.cell? ⟨w.heap.size, 4, none⟩ = some (.string s) := hb2.cell 4
  simp only [List.take_succ_cons, List.take_zero, List.drop_succ_cons, List.drop_zero]
  repeat still_step
  try refine wpStill_nil ?_
  clear c1 b0 b1 b2 b3 b4
  go_wp2_with fail
  refine (do_any hd2.now hz ⟨k, name, to, at_, s⟩ hm hs).mono ?_
  rintro e w3 ⟨rfl, hf3, hg3⟩
  have hgn : g ≠ bn := core_ne hd2.core hd2.now
  have core3 : Core w3 g bs bn loose made plan false := hd2.core.grown hg3 (by simpa using hgn)
  have hb3 : Whole w3 w.heap.size 147 #[.int .i64 k, .string name, .string to, .int .i64 at_, .string s] := hb2.grown hg3 (by
    intro e
    injection e with e
    obtain ⟨n0, es, clock, hx, _⟩ := hd2.now
    have h' : w2.heap[w.heap.size]? = some (.cells _ 147 (0, 0)) := hb2
    rw [e, hx] at h'
    cases h')
  have row3 := hd2.row.kept hg3 (.inr (row_ne_files hd2.row hd2.now))
  have sure3 := hd2.sure.grown hg3 (by simpa using hd2.ne)
  have hc3 : Chgd ok w w3 := hc2.trans (Chgd.of_grown hg3 (by simpa using hd2.okn))
  have okl := hd2.okl
  have okg := hd2.okg
  have oks := hd2.oks
  have okn := hd2.okn
  have hne := hd2.ne
  have hlt3 : w.heap.size < w3.heap.size := Nat.lt_of_lt_of_le hlt2 hg3.size
  clear hd2 hb2 hg3 hc2 hlt2
  obtain ⟨i0, hi, hz0, hz1, hz2⟩ := info_parts info147
  have c2 : w3.cell? ⟨g, 2, none⟩ = some loose := core3.cell 2
  have f2 := core3.thaw 2
  have c3 : w3.cell? ⟨g, 3, none⟩ = some (.int .i64 made) := core3.cell 3
  have f3 := core3.thaw 3
  have b0 : w3.cell? ⟨w.heap.size, 0, none⟩ = some (.int .i64 k) := hb3.cell 0
  have b1 : w3.cell? ⟨w.heap.size, 1, none⟩ = some (.string name) := hb3.cell 1
  have b2 : w3.cell? ⟨w.heap.size, 2, none⟩ = some (.string to) := hb3.cell 2
  have b3 : w3.cell? ⟨w.heap.size, 3, none⟩ = some (.int .i64 at_) := hb3.cell 3
  have b4 : w3.cell? ⟨w.heap.size, 4, none⟩ = some (.string s) := hb3.cell 4
  have hglt := core3.lt
  have hgl : some g ≠ loose.ownBlock := fun e => row_ne_whole row3 core3 (by decide) e.symm
  go_wp2_with fail
  go_region_law (refine step_append_lies _ rfl (.tmp 17) (.tmp 19) 141 rfl 0 147 i0 _ 5 64 Try.underlying141 hi hz0 hz1 hz2 rfl (by omega) loose L.length (flat L) rfl (by exact (row3.drew).alloc _) ⟨w3.heap.size, 0, none⟩ 1 1 [.int .i64 k, .string name, .string to, .int .i64 at_, .string s] rfl rfl (by exact World.news_of_block (heap_alloc_new _ _)) (by simp [Value.oneCell']) (by omega) (by unfold maxLen; omega) (by omega) (Nat.zero_le _) _ rfl ?_; intro g5 cap5 w5 hrow5 hgr5 hloc5 hlt5; have core5 : Core w5 g bs bn loose made plan false := (core3.drew.alloc _).grown hgr5 hgl; have d2 : w5.cell? ⟨g, 2, none⟩ = some loose := core5.cell 2; have e2 := core5.thaw 2; have d3 : w5.cell? ⟨g, 3, none⟩ = some (.int .i64 made) := core5.cell 3; have e3 := core5.thaw 3)
  all_goals go_wp2
  all_goals go_ret
  all_goals exact ⟨rfl, .slice (some ⟨g5, 0, none⟩) (L.length + 1) cap5, make_done (c := ⟨k, name, to, at_, s⟩) (grown_alloc (grown_drew (grown_refl _ _)) _) core3 sure3 hf3 row3 hne okg oks okn okl hnew hc3 hrow5 hgr5 hloc5⟩
end Dk
end Go.Proofs.Ytohphljhldcjbaa
