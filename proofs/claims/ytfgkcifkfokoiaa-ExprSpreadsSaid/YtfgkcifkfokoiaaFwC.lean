/- The walk through Spread of beadleref14: what it comes to; its loop over the kids; its end. -/
import Derived.Test.YtfgkcifkfokoiaaFwB
import Derived.Test.YtfgkcifkfokoiaaExZ
set_option linter.unusedVariables false
set_option linter.unusedSimpArgs false
namespace Go.Proofs.Ytfgkcifkfokoiaa
open Go.RowKit
namespace Ex
variable {F : Nat → Prop}
theorem TAt.trd2 {w : World} {TB : Nat} {nv : Value} {ns : List Nd} {rt : Int} (h : TAt F w TB nv ns rt) : TRd w TB rt ns := by
  obtain ⟨h1, xs, h2, h3⟩ := h
  exact ⟨nv, xs, h1, Own.rd h2 (fun _ _ => True.intro), h3.turn (Keep.refl (fun _ => False) w) (fun _ _ h => h) (fun _ _ h => h)⟩
/-- A node of the tree, cell by cell, and the block of its kids. -/
theorem TAt.node {w : World} {TB : Nat} {rt : Int} {nv : Value} {ns : List Nd} {d : Nd} {n : Nat} (h : TAt F w TB nv ns rt) (hd : ns[n]? = some d) : ∃ b off c A2 c2,
    n < ns.length ∧ ns.length ≤ 9223372036854775807 ∧
    w.cell? ⟨TB, 0, none⟩ = some (.slice (some ⟨b, off, none⟩) ns.length c) ∧
    w.cell? ⟨b, off + n * 3, none⟩ = some (.int .i64 (d.kind : Int)) ∧ w.cell? ⟨b, off + n * 3 + 1, none⟩ = some (.string d.word) ∧ w.cell? ⟨b, off + n * 3 + 2, none⟩ = some (.slice A2 d.kids.length c2) ∧ d.kids.length ≤ c2 ∧ d.kids.length ≤ 9223372036854775807 ∧
    (0 < d.kids.length → ∃ b2 off2, A2 = some ⟨b2, off2, none⟩ ∧ isI w b2 ∧ ∀ (j m : Nat), d.kids[j]? = some m → w.cell? ⟨b2, off2 + j, none⟩ = some (.int .i64 (m : Int))) := by
  obtain ⟨h1, xs, h2, h3⟩ := h
  obtain ⟨A, k, c, rfl, hl, hc, hm, hr⟩ := Own.rd h2 (ok := fun _ => True) (fun _ _ => True.intro)
  obtain ⟨kv, g1, g2, g3, ⟨A2, k2, c2, rfl, hl2, hc2, hm2, hr2⟩⟩ := h3.nth n d hd
  have hlen := h3.length
  obtain rfl : k = ns.length := by omega
  have hn := (List.getElem?_eq_some_iff.1 hd).1
  obtain ⟨b, off, rfl, -, hcell⟩ := hr (by omega)
  obtain rfl : k2 = d.kids.length := by simpa [ints] using hl2.symm
  refine ⟨b, off, c, A2, c2, hn, hm, h1.cellAt (i := 0) rfl, hcell _ _ g1, hcell _ _ g2, hcell _ _ g3, hc2, hm2, fun h0 => ?_⟩
  obtain ⟨b2, off2, rfl, hok, hcell2⟩ := hr2 h0
  exact ⟨b2, off2, rfl, hok.1, fun j m hj => hcell2 j _ (by simp [ints, hj])⟩
/-- Nodes have been added. -/
structure SGot (F : Nat → Prop) (w w' : World) (TB : Nat) (rt : Int) (nv : Value) (ns ms : List Nd) (nv' : Value) (b : Nat) : Prop where
  tr : TAt F w' TB nv' (ns ++ ms) rt
  keep : Keep (TS TB nv) w w'
  own : ∀ k, nv'.ownBlock = some k → nv.ownBlock = some k ∨ w.heap.size ≤ k
  bd : ms.length ≤ b
def SPost (F : Nat → Prop) (w : World) (TB : Nat) (rt : Int) (nv : Value) (ns : List Nd) (b : Nat) : Option ET → Ending → World → Prop
  | some x, e, w' => ∃ m ms nv', e = .returned (.int .i64 ((m : Nat) : Int)) ∧ SGot F w w' TB rt nv ns ms nv' b ∧ Rep (ns ++ ms) x m
  | none, e, w' => ∃ ms nv', e = .returned (.int .i64 (-1)) ∧ SGot F w w' TB rt nv ns ms nv' b
/-- Spread of the reference does what plain Lean says. -/
def RSpdOK (e : ET) : Prop := ∀ (F : Nat → Prop) (w : World) (TB : Nat) (rt : Int) (nv : Value) (ns : List Nd) (n : Nat), (∀ k, F k → k < w.heap.size) → TAt F w TB nv ns rt → Rep ns e n → ns.length + 25 * cnt e ≤ 900000 →
  Calls Try.prog 72 #[.pointer (some ⟨TB, 0, none⟩), .int .i64 (n : Int)] w fun r w' => SPost F w TB rt nv ns (25 * cnt e) (spd e) r w'
/-- The loop's state: a row of numbers beside the tree. -/
structure S1 (F : Nat → Prop) (W wr : World) (TB : Nat) (rt : Int) (nv : Value) (ns : List Nd) (kv : Value) (l0 : List ET) (ks0 : List Nat) (ms : List Nd) (nv1 : Value) (b : Nat) : Prop where
  tr : TAt (FK F kv) wr TB nv1 (ns ++ ms) rt
  row : wr.ownsRow W.heap.size 3 1 kv ks0.length (ints ks0)
  rep : RepL (ns ++ ms) l0 ks0
  bd : ms.length ≤ b
  keep : Keep (TS TB nv) W wr
  own : ∀ k, nv1.ownBlock = some k → nv.ownBlock = some k ∨ W.heap.size ≤ k
theorem S1.forb {W wr : World} {TB b : Nat} {rt : Int} {nv kv nv1 : Value} {ns ms : List Nd} {l0 : List ET} {ks0 : List Nat} (h : S1 F W wr TB rt nv ns kv l0 ks0 ms nv1 b) (hF : ∀ k, F k → k < W.heap.size) : ∀ k, FK F kv k → k < wr.heap.size := by
  rintro k (hk | hk)
  · have := hF k hk; have := h.keep.size; omega
  · exact (h.row.lt k hk).2
/-- A call that adds nodes leaves a row of numbers as it is. -/
theorem TS.kids {wr w2 : World} {TB base n : Nat} {rt : Int} {nv1 kv : Value} {ns : List Nd} {xs : List Value} {G : Nat → Prop} (hT : TAt G wr TB nv1 ns rt) (h : wr.ownsRow base 3 1 kv n xs) (hK : Keep (TS TB nv1) wr w2) : w2.ownsRow base 3 1 kv n xs := by
  refine Own.keep h hK ?_
  intro k hk hs
  have hI := isI.own h k hk
  obtain ⟨hB, xs, hown, -⟩ := hT
  rcases hs with rfl | hs
  · exact hI.ne hB (by decide) rfl
  · exact hI.row hown (by decide) hs
theorem TS.under {w wr w2 : World} {TB : Nat} {nv nv1 : Value} (h : Keep (TS TB nv) w wr) (h2 : Keep (TS TB nv1) wr w2) (ho : ∀ k, nv1.ownBlock = some k → nv.ownBlock = some k ∨ w.heap.size ≤ k) : Keep (TS TB nv) w w2 := by
  refine h.trans h2 ?_
  rintro k (hk | hk)
  · exact .inl (.inl hk)
  · exact (ho k hk).imp (fun h => .inr h) id
theorem S1.next {W wr w2 w3 : World} {TB b b2 n : Nat} {rt : Int} {nv kv kv' nv1 nv2 : Value} {ns ms ms2 : List Nd} {l0 : List ET} {ks0 : List Nat} {e1 : ET} (h : S1 F W wr TB rt nv ns kv l0 ks0 ms nv1 b)
    (hG : SGot (FK F kv) wr w2 TB rt nv1 (ns ++ ms) ms2 nv2 b2) (hr : Rep (ns ++ ms ++ ms2) e1 n) (hrow : w3.ownsRow W.heap.size 3 1 kv' (ks0.length + 1) (ints ks0 ++ [.int .i64 (n : Int)])) (hK3 : Keep (fun k => kv.ownBlock = some k) w2 w3)
    (hb : ∀ k, kv'.ownBlock = some k → kv.ownBlock = some k ∨ w2.heap.size ≤ k) : S1 F W w3 TB rt nv ns kv' (l0 ++ [e1]) (ks0 ++ [n]) (ms ++ ms2) nv2 (b + b2) := by
  have hrow2 := TS.kids h.tr h.row hG.keep
  have hT3 := hG.tr.grown hrow2 hK3 hb
  have hz1 := h.keep.size
  have hz2 := hG.keep.size
  refine ⟨?_, ?_, ?_, ?_, ?_, ?_⟩
  · rw [← List.append_assoc]; exact hT3
  · rw [ints_snoc, List.length_append]; exact hrow
  · rw [← List.append_assoc]
    exact RepL.snoc hr (RepL.more h.rep)
  · have := h.bd
    have := hG.bd
    simp only [List.length_append]
    omega
  · exact (TS.under h.keep hG.keep h.own).trans hK3 (fun k hk => .inr (h.row.lt k hk).1)
  · intro k hk
    rcases hG.own k hk with h1 | h1
    · exact h.own k h1
    · exact .inr (by omega)
theorem S1.lost {w W wr w2 : World} {TB b b2 c : Nat} {rt : Int} {nv kv nv1 nv2 : Value} {ns ms ms2 : List Nd} {l0 : List ET} {ks0 : List Nat} (h : S1 F W wr TB rt nv ns kv l0 ks0 ms nv1 b) (hW : Keep (TS TB nv) w W)
    (hG : SGot (FK F kv) wr w2 TB rt nv1 (ns ++ ms) ms2 nv2 b2) (hc : b + b2 ≤ c) : SGot F w w2 TB rt nv ns (ms ++ ms2) nv2 c := by
  have hz0 := hW.size
  have hz1 := h.keep.size
  refine ⟨?_, ?_, ?_, ?_⟩
  · rw [← List.append_assoc]; exact hG.tr.less (fun k _ h => .inl h)
  · exact (hW.trans' (TS.under h.keep hG.keep h.own))
  · intro k hk
    rcases hG.own k hk with h1 | h1
    · exact (h.own k h1).imp id (fun h => by omega)
    · exact .inr (by omega)
  · have := h.bd
    have := hG.bd
    simp only [List.length_append]
    omega
theorem S1.stop {w W wr : World} {TB b c : Nat} {rt : Int} {nv kv nv1 : Value} {ns ms : List Nd} {l0 : List ET} {ks0 : List Nat} (h : S1 F W wr TB rt nv ns kv l0 ks0 ms nv1 b) (hW : Keep (TS TB nv) w W) (hc : b ≤ c) : SGot F w wr TB rt nv ns ms nv1 c :=
  ⟨h.tr.less (fun k _ h => .inl h), hW.trans' h.keep, fun k hk => (h.own k hk).imp id (fun h => by have := hW.size; omega), by have := h.bd; omega⟩
theorem S1.rdk {W wr : World} {TB b : Nat} {rt : Int} {nv kv nv1 : Value} {ns ms : List Nd} {l0 : List ET} {ks0 : List Nat} (h : S1 F W wr TB rt nv ns kv l0 ks0 ms nv1 b) (hF : ∀ k, F k → k < W.heap.size) : Rd wr (okI F wr) kv 1 (ints ks0) :=
  Own.rd h.row (fun k hk => ⟨isI.own h.row k hk, fun e => by have := hF k e; have := (h.row.lt k hk).1; omega⟩)
/-- A node is put over the row. -/
theorem S1.over {w W wr w2 : World} {TB b c kd : Nat} {wd : ByteArray} {rt : Int} {nv kv nv1 nv2 : Value} {ns ms : List Nd} {l0 : List ET} {ks0 : List Nat} (h : S1 F W wr TB rt nv ns kv l0 ks0 ms nv1 b) (hW : Keep (TS TB nv) w W) (hT : TAt F w2 TB nv2 (ns ++ ms ++ [⟨kd, wd, ks0⟩]) rt)
    (hK : Keep (TS TB nv1) wr w2) (hb : ∀ k, nv2.ownBlock = some k → nv1.ownBlock = some k ∨ wr.heap.size ≤ k) (hc : b + 1 ≤ c) : SGot F w w2 TB rt nv ns (ms ++ [⟨kd, wd, ks0⟩]) nv2 c ∧ Rep (ns ++ (ms ++ [⟨kd, wd, ks0⟩])) (.node kd wd l0) (ns ++ ms).length := by
  have hz0 := hW.size
  have hz1 := h.keep.size
  refine ⟨⟨by rw [← List.append_assoc]; exact hT, hW.trans' (TS.under h.keep hK h.own), ?_, ?_⟩, by rw [← List.append_assoc]; exact Rep.new _ _ _ _ _ h.rep⟩
  · intro k hk
    rcases hb k hk with h1 | h1
    · exact (h.own k h1).imp id (fun h => by omega)
    · exact .inr (by omega)
  · have := h.bd
    simp only [List.length_append, List.length_cons, List.length_nil]
    omega
/-- What is left of the row when the kids are done: no more than the row. -/
theorem S1.mono {W wr : World} {TB b b' : Nat} {rt : Int} {nv kv nv1 : Value} {ns ms : List Nd} {l0 : List ET} {ks0 : List Nat} (h : S1 F W wr TB rt nv ns kv l0 ks0 ms nv1 b) (hb : b ≤ b') : S1 F W wr TB rt nv ns kv l0 ks0 ms nv1 b' :=
  ⟨h.tr, h.row, h.rep, Nat.le_trans h.bd hb, h.keep, h.own⟩
end Ex
end Go.Proofs.Ytfgkcifkfokoiaa
