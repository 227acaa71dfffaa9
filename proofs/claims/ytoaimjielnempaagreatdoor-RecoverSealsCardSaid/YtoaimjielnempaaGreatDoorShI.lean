/- A hasher takes a text. -/
import Derived.Test.YtoaimjielnempaaGreatDoorShH
import Derived.Lib.AppendStr
import Derived.Deep.MidRow
import Derived.Deep.RegionHeld3
import Derived.IntWalk
namespace Go.Proofs.YtoaimjielnempaaGreatDoor
set_option linter.unusedVariables false
set_option linter.unusedSimpArgs false
open Go.RowKit Go.Maps
namespace Sh
/-- The state behind a block. -/
def stepS (x : St) (blk : List Nat) : St := sumS (rnds x ks (sched (w16 blk) 48) 64) x
def nats (l : List UInt8) : List Nat := l.map UInt8.toNat
/-- The state behind so many blocks. -/
def chewR (x : St) (L : List UInt8) : Nat → St
  | 0 => x
  | j + 1 => stepS (chewR x L j) (nats ((L.drop (64 * j)).take 64))
theorem chewR_ok {x : St} (h : x.ok) (L : List UInt8) : ∀ j, (chewR x L j).ok
  | 0 => h
  | j + 1 => sum_ok _ _
theorem nats_lt (l : List UInt8) (i : Nat) : (nats l).getD i 0 < 256 := by
  unfold nats
  rw [List.getD_eq_getElem?_getD, List.getElem?_map]
  cases h : l[i]? with
  | none => simp
  | some b => simp; exact b.toNat_lt
theorem u8s_nats (l : List UInt8) : u8s (nats l) = (bvs l).toArray := by simp [u8s, nats, bvs]
/-- What is left of a text behind so many blocks, as it lies. -/
def LAt (w : World) (B : Nat) (v : Value) (L : List UInt8) (j : Nat) : Prop :=
  64 * j ≤ L.length ∧ ((v = .slice none 0 0 ∧ L = []) ∨ ∃ b off cap cur, v = .slice (some ⟨b, off, none⟩) (L.length - 64 * j) (cap - 64 * j) ∧ (64 * j < cap → off = 64 * j) ∧ B ≤ b ∧ w.heap[b]? = some (.cells cur 5 (0, 0)) ∧ L.length ≤ cap ∧ cap ≤ maxLen ∧ cur.toList.take L.length = bvs L)
theorem LAt.start {w : World} {B : Nat} {v : Value} {n : Nat} {L : List UInt8} (hn : n = L.length) (h : w.ownsRow B 5 1 v n (bvs L)) : LAt w B v L 0 := by
  subst hn
  refine ⟨by omega, ?_⟩
  rcases h.2 with ⟨hv, h0⟩ | ⟨g, cap, cur, hv, hB, hg, h1, h2, h3, h4⟩
  · exact .inl ⟨hv, List.length_eq_zero_iff.1 h0⟩
  · exact .inr ⟨g, 0, cap, cur, by simpa using hv, fun _ => rfl, hB, hg, h1, h2, by simpa using h4⟩
theorem LAt.grown {w w' : World} {B : Nat} {v : Value} {L : List UInt8} {j : Nat} {row : Option Nat} (h : LAt w B v L j) (hg : w.grownBy w' row) (hr : ∀ b, v.ownBlock = some b → some b ≠ row) : LAt w' B v L j := by
  refine ⟨h.1, ?_⟩
  rcases h.2 with h0 | ⟨b, off, cap, cur, hv, h1, h2, h3, h4⟩
  · exact .inl h0
  · refine .inr ⟨b, off, cap, cur, hv, h1, h2, ?_, h4⟩
    rw [hg.block b (Array.getElem?_eq_some_iff.1 h3).1 (hr b (by rw [hv]; rfl))]
    exact h3
theorem LAt.ne {w : World} {B : Nat} {v : Value} {L : List UInt8} {j : Nat} {g t : Nat} {cs : Array Value} (h : LAt w B v L j) (hw : Whole w g t cs) (ht : t ≠ 5) : ∀ b, v.ownBlock = some b → b ≠ g := by
  intro b hb e
  subst e
  rcases h.2 with ⟨rfl, _⟩ | ⟨b', off, cap, cur, rfl, h1, h2, h3, h4⟩
  · simp [Value.ownBlock] at hb
  · simp [Value.ownBlock] at hb
    subst hb
    have hw' : w.heap[b']? = some (.cells cs t (0, 0)) := hw
    rw [h3] at hw'
    injection hw' with hw'
    injection hw' with _ h5
    exact ht h5.symm
def lenIn : Option Value → Nat
  | some (.slice _ n _) => n
  | _ => 0
theorem size64u : (Tryz.prog.info? 113).map (·.size) = some 64 := by kernel_rfl
theorem rangeAt_grown {w w' : World} {b o : Nat} {cs : List Value} (h : w.rangeAt b o cs) (hg : w.grownBy w' none) : w'.rangeAt b o cs := fun j v hv => by
  have h1 := h j v hv
  have h2 : b < w.heap.size := by
    rcases Nat.lt_or_ge b w.heap.size with h2 | h2
    · exact h2
    · simp [World.cell?, Array.getElem?_eq_none h2] at h1
  rw [← h1]
  simp only [World.cell?, hg.block b h2 (by simp)]
theorem rangeAt_aside {w w' : World} {b o : Nat} {cs : List Value} {row : Option Nat} (h : w.rangeAt b o cs) (hg : w.grownBy w' row) (hne : some b ≠ row) : w'.rangeAt b o cs := fun j v hv => by
  have h1 := h j v hv
  have h2 : b < w.heap.size := by
    rcases Nat.lt_or_ge b w.heap.size with h2 | h2
    · exact h2
    · simp [World.cell?, Array.getElem?_eq_none h2] at h1
  rw [← h1]
  simp only [World.cell?, hg.block b h2 hne]
theorem h8 (a0 a1 a2 a3 a4 a5 a6 a7 : Nat) {w : World} {g n : Nat} {v : Value} (h : Whole w g 305 (hCells ⟨a0, a1, a2, a3, a4, a5, a6, a7⟩ v n)) :
    (w.cell? ⟨g, 0, none⟩ = some (.int .u32 (a0 : Int)) ∧ w.cell? ⟨g, 1, none⟩ = some (.int .u32 (a1 : Int)) ∧ w.cell? ⟨g, 2, none⟩ = some (.int .u32 (a2 : Int)) ∧ w.cell? ⟨g, 3, none⟩ = some (.int .u32 (a3 : Int)) ∧ w.cell? ⟨g, 4, none⟩ = some (.int .u32 (a4 : Int)) ∧ w.cell? ⟨g, 5, none⟩ = some (.int .u32 (a5 : Int)) ∧ w.cell? ⟨g, 6, none⟩ = some (.int .u32 (a6 : Int)) ∧ w.cell? ⟨g, 7, none⟩ = some (.int .u32 (a7 : Int))) ∧ w.cell? ⟨g, 8, none⟩ = some v := by
  refine ⟨⟨?_, ?_, ?_, ?_, ?_, ?_, ?_, ?_⟩, ?_⟩ <;> (rw [h.cell]; rfl)
theorem set8 {a0 a1 a2 a3 a4 a5 a6 a7 : Nat} {w : World} {g n : Nat} {v : Value} (h : Whole w g 305 (hCells ⟨a0, a1, a2, a3, a4, a5, a6, a7⟩ v n)) (b0 b1 b2 b3 b4 b5 b6 b7 : Nat) :
    Whole ((((((((w.setCell ⟨g, 0, none⟩ (.int .u32 (b0 : Int))).setCell ⟨g, 1, none⟩ (.int .u32 (b1 : Int))).setCell ⟨g, 2, none⟩ (.int .u32 (b2 : Int))).setCell ⟨g, 3, none⟩ (.int .u32 (b3 : Int))).setCell ⟨g, 4, none⟩ (.int .u32 (b4 : Int))).setCell ⟨g, 5, none⟩ (.int .u32 (b5 : Int))).setCell ⟨g, 6, none⟩ (.int .u32 (b6 : Int))).setCell ⟨g, 7, none⟩ (.int .u32 (b7 : Int))) g 305 (hCells ⟨b0, b1, b2, b3, b4, b5, b6, b7⟩ v n) ∧
    w.grownBy ((((((((w.setCell ⟨g, 0, none⟩ (.int .u32 (b0 : Int))).setCell ⟨g, 1, none⟩ (.int .u32 (b1 : Int))).setCell ⟨g, 2, none⟩ (.int .u32 (b2 : Int))).setCell ⟨g, 3, none⟩ (.int .u32 (b3 : Int))).setCell ⟨g, 4, none⟩ (.int .u32 (b4 : Int))).setCell ⟨g, 5, none⟩ (.int .u32 (b5 : Int))).setCell ⟨g, 6, none⟩ (.int .u32 (b6 : Int))).setCell ⟨g, 7, none⟩ (.int .u32 (b7 : Int))) (some g) := by
  refine ⟨?_, grown_set (grown_set (grown_set (grown_set (grown_set (grown_set (grown_set (grown_set (grown_refl w (some g)) (.inl rfl) _) (.inl rfl) _) (.inl rfl) _) (.inl rfl) _) (.inl rfl) _) (.inl rfl) _) (.inl rfl) _) (.inl rfl) _⟩
  have h8 := (((((((h.set_ 0 (.int .u32 (b0 : Int))).set_ 1 (.int .u32 (b1 : Int))).set_ 2 (.int .u32 (b2 : Int))).set_ 3 (.int .u32 (b3 : Int))).set_ 4 (.int .u32 (b4 : Int))).set_ 5 (.int .u32 (b5 : Int))).set_ 6 (.int .u32 (b6 : Int))).set_ 7 (.int .u32 (b7 : Int))
  have e : ((((((((hCells ⟨a0, a1, a2, a3, a4, a5, a6, a7⟩ v n).setIfInBounds 0 (.int .u32 (b0 : Int))).setIfInBounds 1 (.int .u32 (b1 : Int))).setIfInBounds 2 (.int .u32 (b2 : Int))).setIfInBounds 3 (.int .u32 (b3 : Int))).setIfInBounds 4 (.int .u32 (b4 : Int))).setIfInBounds 5 (.int .u32 (b5 : Int))).setIfInBounds 6 (.int .u32 (b6 : Int))).setIfInBounds 7 (.int .u32 (b7 : Int)) = hCells ⟨b0, b1, b2, b3, b4, b5, b6, b7⟩ v n := by
    simp [hCells, yArr]
  rw [e] at h8
  exact h8
theorem setV {st : St} {w : World} {g n : Nat} {v : Value} (h : Whole w g 305 (hCells st v n)) (u : Value) : Whole (w.setCell ⟨g, 8, none⟩ u) g 305 (hCells st u n) := by
  have h8 := h.set_ 8 u
  have e : (hCells st v n).setIfInBounds 8 u = hCells st u n := by simp [hCells, yArr]
  rw [e] at h8
  exact h8
theorem LAt.next {w : World} {B b off m k j : Nat} {L : List UInt8} (h : LAt w B (.slice (some ⟨b, off, none⟩) m k) L j) (hm : 64 ≤ m) :
    LAt w B (.slice (if k = 64 then some ⟨b, off, none⟩ else some ⟨b, off + 64, none⟩) (m - 64) (k - 64)) L (j + 1) := by
  obtain ⟨h1, h2⟩ := h
  rcases h2 with ⟨hv, _⟩ | ⟨b', off', cap, cur, hv, ho, hB, hb, hc, hx, ht⟩
  · cases hv
  · injection hv with e1 e2 e3
    injection e1 with e1
    injection e1 with e4 e5
    subst e4 e5
    refine ⟨by omega, .inr ⟨b, if k = 64 then off else off + 64, cap, cur, ?_, fun hlt => ?_, hB, hb, hc, hx, ht⟩⟩
    · have e6 : m - 64 = L.length - 64 * (j + 1) := by omega
      have e7 : k - 64 = cap - 64 * (j + 1) := by omega
      rw [e6, e7]
      split <;> rfl
    · have := ho (by omega)
      rw [if_neg (by omega)]
      omega
set_option maxHeartbeats 2000000 in
set_option maxRecDepth 100000 in
theorem write_any (g B : Nat) (x : St) (hx : x.ok) (n : Nat) (v : Value) (l : List UInt8) (s : ByteArray) (w : World) (hc : Whole w g 305 (hCells x v n)) (hr : BRow w B v l) (hBg : B ≤ g)
    (L : List UInt8) (hL : l ++ s.data.toList = L) (hs : L.length ≤ 140737488355328) (hn : n + s.size < 18446744073709551616) :
    Calls Tryz.prog 123 #[.pointer (some ⟨g, 0, none⟩), .string s] w fun e w' => e = .returned (.tuple #[]) ∧
      ∃ v', Whole w' g 305 (hCells (chewR x L (L.length / 64)) v' (n + s.size)) ∧ LAt w' B v' L (L.length / 64) ∧ Below B w w' := by
  have hLl : l.length + s.size = L.length := by rw [← hL, List.length_append]; rfl
  obtain ⟨i0, hi, hz0, hz1, hz2⟩ := info_partsB infoByte
  have hglt := hc.lt
  have c9 : w.cell? ⟨g, 9, none⟩ = some (.int .u64 (n : Int)) := by rw [hc.cell]; rfl
  have f9 := hc.thaw 9
  have e1 : IntKind.u64.wrap ((n : Int) + (s.size : Int)) = ((n + s.size : Nat) : Int) := by rw [IntWalk.u64_in _ (by omega)]; simp
  have e0 : (s.size : Int) % 18446744073709551616 = (s.size : Int) := by omega
  have c8 : w.cell? ⟨g, 8, none⟩ = some v := by rw [hc.cell]; rfl
  have f8 := hc.thaw 8
  have hc1 : Whole (w.setCell ⟨g, 9, none⟩ (.int .u64 ((n : Int) + (s.size : Int)))) g 305 (hCells x v (n + s.size)) := by
    have h := hc.set_ 9 (.int .u64 ((n : Int) + (s.size : Int)))
    have e : (hCells x v n).setIfInBounds 9 (.int .u64 ((n : Int) + (s.size : Int))) = hCells x v (n + s.size) := by
      simp [hCells, yArr]
    rwa [e] at h
  have hrg : ∀ b, v.ownBlock = some b → b ≠ g := (LAt.start (L := l) rfl hr).ne hc (by decide)
  have hr1 : BRow (w.setCell ⟨g, 9, none⟩ (.int .u64 ((n : Int) + (s.size : Int)))) B v l := World.ownsRow.kept hr (grown_set (grown_refl w (some g)) (.inl rfl) _) (.inr (fun e => hrg g e rfl))
  have hb1 : Below B w (w.setCell ⟨g, 9, none⟩ (.int .u64 ((n : Int) + (s.size : Int)))) := Below.of_grown (grown_set (grown_refl w (some g)) (.inl rfl) _) (by omega) (by rintro g' h; injection h with h; omega)
  have z1 : (w.setCell ⟨g, 9, none⟩ (.int .u64 ((n : Int) + (s.size : Int)))).heap.size = w.heap.size := by simp [World.setCell]
  go_enter Tryz.func123, Tryz.ntmps123
  go_wp2_with (at_builtin; refine Lib.wpList_append_own_string _ rfl _ _ 34 9 rfl B 5 i0 Tryz.underlying34 Tryz.underlying9 hi hz0 hz1 hz2 _ _ _ rfl hr1 s rfl ?c1 (by omega) (by omega) ?_)
  case c1 => unfold maxLen; omega
  intro v1 w1 hown1 hgr1 _
  have hc2 : Whole w1 g 305 (hCells x v (n + s.size)) := hc1.grown hgr1 (fun e => hrg g e.symm rfl)
  have hb2 : Below B w w1 := hb1.grown hgr1 (by omega) (fun k hk => (World.ownsRow.lt hr k hk).1)
  have d8 : w1.cell? ⟨g, 8, none⟩ = some v := by rw [hc2.cell]; rfl
  have g8 := hc2.thaw 8
  clear hc1 hr1 hb1 z1 c8 f8 c9 f9 hgr1
  have hown2 : w1.ownsRow B 5 1 v1 (l.length + s.size) (bvs L) := by rw [hLl, ← hL, bvs_app]; simp only [bvs, List.length_append] at hown1 ⊢; rw [← hL] at hown1; simpa [Lib.strCells] using hown1
  rw [hLl] at hown2
  clear hown1 hLl hL
  have hA := LAt.start rfl hown2
  obtain ⟨p1, k1, rfl⟩ : ∃ p k, v1 = .slice p L.length k := by
    rcases hown2.2 with ⟨rfl, h0⟩ | ⟨b, cap, cur, rfl, _⟩
    · exact ⟨none, 0, by rw [h0]⟩
    · exact ⟨_, _, rfl⟩
  have hne1 := hA.ne hc2 (by decide)
  have hc3 : Whole (w1.setCell ⟨g, 8, none⟩ (.slice p1 L.length k1)) g 305 (hCells x (.slice p1 L.length k1) (n + s.size)) := by
    have h := hc2.set_ 8 (.slice p1 L.length k1)
    have e : (hCells x v (n + s.size)).setIfInBounds 8 (.slice p1 L.length k1) = hCells x (.slice p1 L.length k1) (n + s.size) := by
      simp [hCells, yArr]
    rwa [e] at h
  have hA3 : LAt (w1.setCell ⟨g, 8, none⟩ (.slice p1 L.length k1)) B (.slice p1 L.length k1) L 0 := hA.grown (grown_set (grown_refl w1 (some g)) (.inl rfl) _) (fun b hb e => hne1 b hb (by injection e))
  have hb3 : Below B w (w1.setCell ⟨g, 8, none⟩ (.slice p1 L.length k1)) := hb2.grown (grown_set (grown_refl w1 (some g)) (.inl rfl) _) (by have := hb2.size; have := hc2.lt; omega) (by rintro g' h; injection h with h; omega)
  go_wp2_with fail
  clear hA hc2 hb2 d8 g8 hown2 hne1
  generalize World.setCell _ _ _ = w2 at hc3 hA3 hb3 ⊢
  have hN := Lib.hid hs
  have hNn := Lib.hid hn
  clear hs hn hc hr hi hz0 hz1 hz2 e1 e0 hrg
  go_loopw [] (fun wr => ∃ j v', Whole wr g 305 (hCells (chewR x L j) v' (n + s.size)) ∧ LAt wr B v' L j ∧ Below B w wr) (fun wr => lenIn (wr.cell? ⟨g, 8, none⟩))
  case atStart => exact ⟨0, _, hc3, hA3, hb3⟩
  case round =>
    clear hc3 hA3 hb3
    obtain ⟨j, v', hc, hA, hb⟩ := hrel
    have c8 : wr.cell? ⟨g, 8, none⟩ = some v' := by rw [hc.cell]; rfl
    have hAne := hA.ne hc (by decide)
    have hAll := hA
    obtain ⟨hj, hA⟩ := hA
    rcases hA with ⟨rfl, hLn⟩ | ⟨b, off, cap, cur, rfl, ho, hBb, hbk, hcap, hmx, hcur⟩
    · go_wp2_with fail
      go_end0
      have hj0 : j = L.length / 64 := by rw [hLn] at hj ⊢; simp at hj ⊢; omega
      rw [hj0] at hc hAll
      exact ⟨rfl, _, hc, hAll, hb⟩
    · obtain ⟨m, hm⟩ : ∃ m, L.length = 64 * j + m := ⟨L.length - 64 * j, by omega⟩
      have hm2 : L.length - 64 * j = m := by omega
      obtain ⟨k, hk⟩ : ∃ k, cap = 64 * j + k := ⟨cap - 64 * j, by omega⟩
      have hk2 : cap - 64 * j = k := by omega
      rw [hm2, hk2] at c8 hAne hAll hc
      by_cases hlt : 64 ≤ m
      · have e1 : ((64 : Int) ≤ (m : Int)) = True := eq_true (by omega)
        have e2 : (m < 64) = False := eq_false (by omega)
        obtain rfl : off = 64 * j := ho (by omega)
        have hst := chewR_ok hx L j
        generalize hst' : chewR x L j = st at hc hst
        obtain ⟨blk, hblk⟩ : ∃ blk, blk = (L.drop (64 * j)).take 64 := ⟨_, rfl⟩
        have hbl : blk.length = 64 := by rw [hblk, List.length_take, List.length_drop]; omega
        have hrange : wr.rangeAt b (64 * j) (bvs blk) := by
          intro i v hv
          have hi : i < 64 := by
            have := (List.getElem?_eq_some_iff.1 hv).1
            rw [bvs_len, hbl] at this
            exact this
          have h1 : wr.cell? ⟨b, 64 * j + i, none⟩ = cur[64 * j + i]? := by simp [World.cell?, hbk]
          rw [h1, ← hv]
          have h2 : cur[64 * j + i]? = (cur.toList.take L.length)[64 * j + i]? := by
            rw [List.getElem?_take_of_lt (by omega), Array.getElem?_toList]
          rw [h2, hcur, hblk]
          simp only [bvs, List.getElem?_map, List.getElem?_take_of_lt hi, List.getElem?_drop]
        generalize hoff : 64 * j = off at *
        obtain ⟨a0, a1, a2, a3, a4, a5, a6, a7⟩ := st
        obtain ⟨⟨q0, q1, q2, q3, q4, q5, q6, q7⟩, _⟩ := h8 a0 a1 a2 a3 a4 a5 a6 a7 hc
        have hu := Tryz.underlying113
        have hi : (Tryz.prog.info? 113).map (·.size) = some (bvs blk).length := by rw [bvs_len, hbl]; exact size64u
        have hil : (bvs blk).length = 64 := by rw [bvs_len, hbl]
        have hi1 : ∀ v ∈ bvs blk, v.oneCell' = true := by
          intro v hv
          obtain ⟨_, _, rfl⟩ := List.mem_map.1 hv
          rfl
        have hda : ∀ W : World, (Instr.arrayAt 113 (.slice (some ⟨b, off, none⟩) m k)).run Tryz.prog W = .ok (.pointer (some ⟨b, off, none⟩)) W := fun W => by
          have h3 : ¬ m < 64 := by omega
          simp [Instr.arrayAt, run_underlying hu, h3]
        obtain ⟨⟨b0, b1, b2, b3, b4, b5, b6, b7⟩, hnext⟩ : ∃ y, y = stepS ⟨a0, a1, a2, a3, a4, a5, a6, a7⟩ (nats blk) := ⟨_, rfl⟩
        have hstep : ∀ W : World, Calls Tryz.prog 204 #[.agg #[.int .u32 (a0 : Int), .int .u32 (a1 : Int), .int .u32 (a2 : Int), .int .u32 (a3 : Int), .int .u32 (a4 : Int), .int .u32 (a5 : Int), .int .u32 (a6 : Int), .int .u32 (a7 : Int)], .agg (bvs blk).toArray] W fun e w' =>
            e = .returned (.agg #[.int .u32 (b0 : Int), .int .u32 (b1 : Int), .int .u32 (b2 : Int), .int .u32 (b3 : Int), .int .u32 (b4 : Int), .int .u32 (b5 : Int), .int .u32 (b6 : Int), .int .u32 (b7 : Int)]) ∧ W.grownBy w' none := fun W => by
          have h := step_any ⟨a0, a1, a2, a3, a4, a5, a6, a7⟩ hst (nats blk) W (by simpa [nats] using hbl) (nats_lt blk)
          rw [u8s_nats] at h
          have e : yArr (sumS (rnds ⟨a0, a1, a2, a3, a4, a5, a6, a7⟩ ks (sched (w16 (nats blk)) 48) 64) ⟨a0, a1, a2, a3, a4, a5, a6, a7⟩) = yArr ⟨b0, b1, b2, b3, b4, b5, b6, b7⟩ := by rw [hnext]; rfl
          rw [e] at h
          exact h
        have HSt := Lib.hid hstep
        have HNx := Lib.hid hnext
        clear hstep hnext
        have HM := Lib.hid hm
        have HO := Lib.hid hoff
        have HB := Lib.hid hblk
        have HBL := Lib.hid hbl
        have HS := Lib.hid hst
        have HS' := Lib.hid hst'
        clear hm hblk hbl hst hst' hm2 hk2 hcur hbk hcap hmx hoff hj ho hAne hk
        go_wp2_with fail
        refine wp_region_held_drew (S := fun w' => w'.cell? ⟨g, 8, none⟩ = some (.slice (some ⟨b, off, none⟩) m k) ∧ w'.rangeAt b off (bvs blk)) (by kernel_rfl) ⟨?_, ?_⟩ (fun hHeld => ?_)
        · simpa using c8
        · simpa using hrange
        refine wpAnyH_take (i := 0) (v := ?_) rfl (by kernel_rfl) (by kernel_rfl) (by kernel_rfl) (fun _ _ _ h => h) (Or.inl ⟨by rfl, ?_⟩) hHeld ?_
        rotate_left
        · (intro w hSw; (try dsimp only at hSw); go_simp; try (with_reducible rfl))
        simp only [Act.put, List.getElem_toArray, List.getElem_cons_succ, List.getElem_cons_zero, List.setIfInBounds_toArray, List.set_cons_zero, List.set_cons_succ]
        refine wpAnyH_take (i := 1) (v := ?_) rfl (by kernel_rfl) (by kernel_rfl) (by kernel_rfl) (fun _ _ _ h => h) (Or.inl ⟨by rfl, ?_⟩) hHeld ?_
        rotate_left
        · (intro w hSw; (try dsimp only at hSw); go_simp; try (with_reducible rfl))
        simp only [Act.put, List.getElem_toArray, List.getElem_cons_succ, List.getElem_cons_zero, List.setIfInBounds_toArray, List.set_cons_zero, List.set_cons_succ]
        refine wpAnyH_take (i := 2) (v := ?_) rfl (by kernel_rfl) (by kernel_rfl) (by kernel_rfl) (fun _ _ _ h => h) (Or.inl ⟨by rfl, ?_⟩) hHeld ?_
        rotate_left
        · (intro w hSw; (try dsimp only at hSw); go_simp; try (with_reducible rfl))
        simp only [Act.put, List.getElem_toArray, List.getElem_cons_succ, List.getElem_cons_zero, List.setIfInBounds_toArray, List.set_cons_zero, List.set_cons_succ]
        refine wpAnyH_take (i := 3) (v := ?_) rfl (by kernel_rfl) (by kernel_rfl) (by kernel_rfl) (fun _ _ _ h => h) (Or.inl ⟨by rfl, ?_⟩) hHeld ?_
        rotate_left
        · (intro w hSw; (try dsimp only at hSw); go_simp; try (with_reducible rfl))
        simp only [Act.put, List.getElem_toArray, List.getElem_cons_succ, List.getElem_cons_zero, List.setIfInBounds_toArray, List.set_cons_zero, List.set_cons_succ]
        refine wpAnyH_take (i := 5) (v := ?_) rfl (by kernel_rfl) (by kernel_rfl) (by kernel_rfl) (fun _ _ _ h => h) (Or.inl ⟨by rfl, ?_⟩) hHeld ?_
        rotate_left
        · (intro w hSw; (try dsimp only at hSw); go_simp; try (with_reducible rfl))
        simp only [Act.put, List.getElem_toArray, List.getElem_cons_succ, List.getElem_cons_zero, List.setIfInBounds_toArray, List.set_cons_zero, List.set_cons_succ]
        refine wpAnyH_take (i := 6) (v := ?_) rfl (by kernel_rfl) (by kernel_rfl) (by kernel_rfl) (fun _ _ _ h => h) (Or.inl ⟨by rfl, ?_⟩) hHeld ?_
        rotate_left
        · (intro w hSw; (try dsimp only at hSw); go_simp; try (with_reducible rfl))
        simp only [Act.put, List.getElem_toArray, List.getElem_cons_succ, List.getElem_cons_zero, List.setIfInBounds_toArray, List.set_cons_zero, List.set_cons_succ]
        refine wpAnyH_take (i := 7) (v := ?_) rfl (by kernel_rfl) (by kernel_rfl) (by kernel_rfl) (fun _ _ _ h => h) (Or.inl ⟨by rfl, ?_⟩) hHeld ?_
        rotate_left
        · (intro w hSw; (try dsimp only at hSw); go_simp; try (with_reducible rfl))
        simp only [Act.put, List.getElem_toArray, List.getElem_cons_succ, List.getElem_cons_zero, List.setIfInBounds_toArray, List.set_cons_zero, List.set_cons_succ]
        refine wpAnyH_take (i := 8) (v := ?_) rfl (by kernel_rfl) (by kernel_rfl) (by kernel_rfl) (fun _ _ _ h => h) (Or.inl ⟨by rfl, ?_⟩) hHeld ?_
        rotate_left
        · (intro w hSw; (try dsimp only at hSw); go_simp; try (with_reducible rfl))
        simp only [Act.put, List.getElem_toArray, List.getElem_cons_succ, List.getElem_cons_zero, List.setIfInBounds_toArray, List.set_cons_zero, List.set_cons_succ]
        refine wpAnyH_take (i := 9) (v := ?_) rfl (by kernel_rfl) (by kernel_rfl) (by kernel_rfl) (fun _ _ _ h => h) (Or.inl ⟨by rfl, ?_⟩) hHeld ?_
        rotate_left
        · (intro w hSw; (try dsimp only at hSw); go_simp; try (with_reducible rfl))
        simp only [Act.put, List.getElem_toArray, List.getElem_cons_succ, List.getElem_cons_zero, List.setIfInBounds_toArray, List.set_cons_zero, List.set_cons_succ]
        refine wpAnyH_take (i := 10) (v := _) rfl (by kernel_rfl) (by kernel_rfl) (by kernel_rfl) (fun _ _ _ h => h) (yieldsIf_load_mid (by rfl) _ _ rfl b off rfl (bvs blk) _ (fun w' h => h.2) hu rfl hi) hHeld ?_
        simp only [Act.put, List.getElem_toArray, List.getElem_cons_succ, List.getElem_cons_zero, List.setIfInBounds_toArray, List.set_cons_zero, List.set_cons_succ]
        refine wpAnyH_ready (rs := [4]) (by kernel_rfl) (by simp) ?_
        refine AllReadyH.cons rfl (fun K hK => ?_) AllReadyH.nil
        go_simp
        refine hK.out _ _ hHeld (fun hHeld => ?_)
        clear hK K
        refine wpAnyH_ready (rs := [11]) (by kernel_rfl) (by simp) ?_
        refine AllReadyH.cons rfl (fun K hK => ?_) AllReadyH.nil
        go_simp
        go_wp2_with (go_at_call 204; refine (HSt.out _).mono ?_; rintro e w5 ⟨rfl, hgr⟩)
        have hc5 := hc.drew.grown hgr (by simp)
        have hr5 : w5.rangeAt b off (bvs blk) := rangeAt_grown ((World.rangeAt_drew _ _ _ _).2 hrange) hgr
        have hA5 : LAt w5 B (.slice (some ⟨b, off, none⟩) m k) L j := LAt.grown (w := wr.drew) hAll hgr (by simp)
        have hb5 : Below B w w5 := Below.trans (b := wr.drew) ⟨hb.os, hb.tape, hb.output, hb.size, hb.block⟩ (Below.of_grown hgr (by have := hb.size; have := hc.lt; show B ≤ wr.heap.size; omega) (by simp))
        refine hK.out _ _ ⟨by rw [hc5.cell]; rfl, hr5⟩ (fun hHeld => ?_)
        clear hK K
        refine wpAnyH_take (i := 12) (v := ?_) rfl (by kernel_rfl) (by kernel_rfl) (by kernel_rfl) (fun _ _ _ h => h) (Or.inl ⟨by rfl, ?_⟩) hHeld ?_
        rotate_left
        · (intro w hSw; (try dsimp only at hSw); go_simp; try (with_reducible rfl))
        simp only [Act.put, List.getElem_toArray, List.getElem_cons_succ, List.getElem_cons_zero, List.setIfInBounds_toArray, List.set_cons_zero, List.set_cons_succ]
        refine wpAnyH_take (i := 13) (v := ?_) rfl (by kernel_rfl) (by kernel_rfl) (by kernel_rfl) (fun _ _ _ h => h) (Or.inl ⟨by rfl, ?_⟩) hHeld ?_
        rotate_left
        · (intro w hSw; (try dsimp only at hSw); go_simp; try (with_reducible rfl))
        simp only [Act.put, List.getElem_toArray, List.getElem_cons_succ, List.getElem_cons_zero, List.setIfInBounds_toArray, List.set_cons_zero, List.set_cons_succ]
        refine wpAnyH_ready (rs := [14]) (by kernel_rfl) (by simp) ?_
        refine AllReadyH.cons rfl (fun K hK => ?_) AllReadyH.nil
        have z0 := hc5.thaw 0
        have z1 := hc5.thaw 1
        have z2 := hc5.thaw 2
        have z3 := hc5.thaw 3
        have z4 := hc5.thaw 4
        have z5 := hc5.thaw 5
        have z6 := hc5.thaw 6
        have z7 := hc5.thaw 7
        obtain ⟨⟨t0, t1, t2, t3, t4, t5, t6, t7⟩, t8⟩ := h8 a0 a1 a2 a3 a4 a5 a6 a7 hc5
        go_simp
        obtain ⟨hc6, hgw⟩ := set8 hc5 b0 b1 b2 b3 b4 b5 b6 b7
        have hng : ∀ b', (Value.slice (some ⟨b, off, none⟩) m k).ownBlock = some b' → b' ≠ g := hA5.ne hc5 (by decide)
        have hbg : b ≠ g := hng b rfl
        have hA6 := LAt.grown hA5 hgw (fun b' hb' e => hng b' hb' (by injection e))
        have hb6 := hb5.grown hgw (by have := hb5.size; have := hc5.lt; omega) (by rintro g' h; injection h with h; omega)
        have hr6 := rangeAt_aside hr5 hgw (fun e => hbg (by injection e))
        clear hgw z0 z1 z2 z3 z4 z5 z6 z7 t0 t1 t2 t3 t4 t5 t6 t7 t8
        generalize World.setCell _ _ _ = w6 at hc6 hA6 hb6 hr6 ⊢
        refine hK.out _ _ ⟨by rw [hc6.cell]; rfl, hr6⟩ (fun hHeld => ?_)
        clear hK K hc5 hr5 hA5 hb5
        refine wpAnyH_done (by kernel_rfl) ?_ _
        have c8 : w6.cell? ⟨g, 8, none⟩ = some (.slice (some ⟨b, off, none⟩) m k) := by rw [hc6.cell]; rfl
        have f8 := hc6.thaw 8
        have q8 : wr.cell? ⟨g, 8, none⟩ = some (.slice (some ⟨b, off, none⟩) m k) := by rw [hc.cell]; rfl
        have Q8 := Lib.hid q8
        clear q8
        go_wp2_with fail
        have hng6 := hA6.ne hc6 (by decide)
        refine ⟨⟨j + 1, _, ?_, (hA6.next hlt).grown (grown_set (grown_refl w6 (some g)) (.inl rfl) _) (fun b' hb' e => ?_), hb6.grown (grown_set (grown_refl w6 (some g)) (.inl rfl) _) (by have := hb6.size; have := hc6.lt; omega) (by rintro g' h; injection h with h; omega)⟩, ?_⟩
        · have e : chewR x L (j + 1) = ⟨b0, b1, b2, b3, b4, b5, b6, b7⟩ := by
            rw [HNx.out]
            unfold chewR
            rw [HS'.out, HB.out, HO.out]
          rw [e]
          exact setV hc6 _
        · refine hng6 b' ?_ (by injection e)
          rw [← hb']
          split <;> rfl
        · rw [(setV hc6 _).cell, Q8.out]
          show m - 64 < m
          omega
      · have e1 : ((64 : Int) ≤ (m : Int)) = False := eq_false (by omega)
        have hjl : j = L.length / 64 := by omega
        have HJ := Lib.hid hjl
        clear hjl hm hm2 hk hk2 hcap hmx hcur ho hj
        go_wp2_with fail
        go_end0
        rw [← HJ.out]
        exact ⟨rfl, _, hc, hAll, hb⟩
end Sh
end Go.Proofs.YtoaimjielnempaaGreatDoor
