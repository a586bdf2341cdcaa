/- What the reader of beadleref14 comes to: the nodes that stand for an expression; the walk through item. -/
import Derived.Test.YtfgkcifkfokoiaaFw2
import Derived.Test.YtfgkcifkfokoiaaExB2
set_option linter.unusedVariables false
set_option linter.unusedSimpArgs false
namespace Go.Proofs.Ytfgkcifkfokoiaa
open Go.RowKit
namespace Ex
mutual
/-- Node n of the list stands for the expression. -/
def Rep (ns : List Nd) : ET → Nat → Prop
  | .node k wd l, n => ∃ ks, ns[n]? = some ⟨k, wd, ks⟩ ∧ RepL ns l ks
def RepL (ns : List Nd) : List ET → List Nat → Prop
  | [], ks => ks = []
  | e :: l, ks => ∃ n r, ks = n :: r ∧ Rep ns e n ∧ RepL ns l r
end
mutual
theorem Rep.more {ns ms : List Nd} : ∀ {e : ET} {n : Nat}, Rep ns e n → Rep (ns ++ ms) e n
  | .node k wd l, n, h => by
    simp only [Rep] at h ⊢
    obtain ⟨ks, h1, h2⟩ := h
    have hl : n < ns.length := (List.getElem?_eq_some_iff.1 h1).1
    exact ⟨ks, by rw [List.getElem?_append_left hl]; exact h1, RepL.more h2⟩
theorem RepL.more {ns ms : List Nd} : ∀ {l : List ET} {ks : List Nat}, RepL ns l ks → RepL (ns ++ ms) l ks
  | [], ks, h => by simpa only [RepL] using h
  | e :: l, ks, h => by
    simp only [RepL] at h ⊢
    obtain ⟨n, r, h1, h2, h3⟩ := h
    exact ⟨n, r, h1, Rep.more h2, RepL.more h3⟩
end
theorem RepL.snoc {ns : List Nd} {e : ET} {n : Nat} (he : Rep ns e n) : ∀ {l : List ET} {ks : List Nat}, RepL ns l ks → RepL ns (l ++ [e]) (ks ++ [n])
  | [], ks, h => by
    simp only [RepL] at h
    subst h
    exact ⟨n, [], rfl, he, rfl⟩
  | x :: l, ks, h => by
    simp only [RepL, List.cons_append] at h ⊢
    obtain ⟨m, r, rfl, h2, h3⟩ := h
    exact ⟨m, r ++ [n], rfl, h2, RepL.snoc he h3⟩
theorem RepL.length {ns : List Nd} : ∀ {l : List ET} {ks : List Nat}, RepL ns l ks → ks.length = l.length
  | [], ks, h => by simp only [RepL] at h; subst h; rfl
  | e :: l, ks, h => by
    simp only [RepL] at h
    obtain ⟨n, r, rfl, _, h3⟩ := h
    simp only [List.length_cons, RepL.length h3]
theorem Rep.new (ns : List Nd) (k : Nat) (wd : ByteArray) (ks : List Nat) (l : List ET) (h : RepL ns l ks) : Rep (ns ++ [⟨k, wd, ks⟩]) (.node k wd l) ns.length := by
  simp only [Rep]
  exact ⟨ks, by simp, RepL.more h⟩
/-- What a call of the reader may touch. -/
def RS (R TB : Nat) (nv : Value) (k : Nat) : Prop := k = R ∨ k = TB ∨ nv.ownBlock = some k
variable {F : Nat → Prop}
theorem TAt.read {w w' : World} {R TB : Nat} {s : ByteArray} {i nest b e : Nat} {nv : Value} {ns : List Nd} (h : TAt F w TB nv ns) (hR : RAt w R s i nest b e) (hK : Keep (· = R) w w') : TAt F w' TB nv ns := by
  obtain ⟨h1, xs, h2, h3⟩ := h
  refine ⟨h1.keep hK (Blk.ne h1 hR (by decide)), xs, Own.keep h2 hK (fun k hk => Own.ne h2 hR (by decide) k hk), h3.step hK (fun k hk => hk.1.ne hR (by decide))⟩
theorem RAt.added {w w' : World} {R TB : Nat} {s : ByteArray} {i nest b e : Nat} {nv : Value} {ns : List Nd} (hR : RAt w R s i nest b e) (h : TAt F w TB nv ns) (hK : Keep (TS TB nv) w w') : RAt w' R s i nest b e := by
  obtain ⟨h1, xs, h2, h3⟩ := h
  refine Blk.keep hR hK ?_
  rintro (h | h)
  · exact Blk.ne h1 hR (by decide) h.symm
  · exact Own.ne h2 hR (by decide) R h rfl
theorem RAt.isI {w : World} {R : Nat} {s : ByteArray} {i nest b e : Nat} (hR : RAt w R s i nest b e) {k : Nat} (h : isI w k) : k ≠ R := h.ne hR (by decide)

/-- The reader has read an expression. -/
structure Got (F : Nat → Prop) (w w' : World) (R TB : Nat) (s : ByteArray) (nest i : Nat) (nv : Value) (ns : List Nd) (e : ET) (j n : Nat) (ms : List Nd) (nv' : Value) : Prop where
  rd : RAt w' R s j nest 0 0
  tr : TAt F w' TB nv' (ns ++ ms)
  rep : Rep (ns ++ ms) e n
  bd : ms.length + 2 * i + 1 ≤ 2 * j
  keep : Keep (RS R TB nv) w w'
  own : ∀ k, nv'.ownBlock = some k → nv.ownBlock = some k ∨ w.heap.size ≤ k
/-- The reader has gone wrong. -/
structure Lost (F : Nat → Prop) (w w' : World) (R TB : Nat) (s : ByteArray) (nest i : Nat) (nv : Value) (ns : List Nd) (a c P : Nat) (ms : List Nd) (nv' : Value) : Prop where
  rd : RAt w' R s P nest a c
  tr : TAt F w' TB nv' (ns ++ ms)
  lo : i ≤ P
  hi : P ≤ s.size + 1
  bd : ms.length + 2 * i ≤ 2 * P + 1
  keep : Keep (RS R TB nv) w w'
  own : ∀ k, nv'.ownBlock = some k → nv.ownBlock = some k ∨ w.heap.size ≤ k
def LPost (F : Nat → Prop) (w : World) (R TB : Nat) (s : ByteArray) (nest i : Nat) (nv : Value) (ns : List Nd) : Ex.R ET → Ending → World → Prop
  | .ok t j, e, w' => ∃ n ms nv', e = .returned (.int .i64 ((n : Nat) : Int)) ∧ Got F w w' R TB s nest i nv ns t j n ms nv'
  | .bad a c, e, w' => ∃ v P ms nv', e = .returned (.int .i64 v) ∧ Lost F w w' R TB s nest i nv ns a c P ms nv'
/-- The levels of the reader do what the model does, at so many rounds. -/
def RLevOK (s : ByteArray) (f : Nat) : Prop := ∀ (F : Nat → Prop) (k : Nat), k ≤ 3 → ∀ (R TB i nest : Nat) (r : Ex.R ET) (nv : Value) (ns : List Nd) (w : World), (∀ k, F k → k < w.heap.size) → RAt w R s i nest 0 0 → TAt F w TB nv ns → i ≤ s.size → nest ≤ 16 → ns.length ≤ 2 * i → lev s f k i nest = some r →
  Calls Try.prog 76 #[.pointer (some ⟨R, 0, none⟩), .pointer (some ⟨TB, 0, none⟩), .int .i64 (k : Int)] w fun e w' => LPost F w R TB s nest i nv ns r e w'
/-- Blanks behind what was read. -/
theorem Got.go {w w1 w2 : World} {R TB : Nat} {s : ByteArray} {nest i : Nat} {nv : Value} {ns : List Nd} {e : ET} {j j' n : Nat} {ms : List Nd} {nv' : Value} (h : Got F w w1 R TB s nest i nv ns e j n ms nv') (hK : Keep (· = R) w1 w2) (hR : RAt w2 R s j' nest 0 0) (hj : j ≤ j') : Got F w w2 R TB s nest i nv ns e j' n ms nv' :=
  ⟨hR, h.tr.read h.rd hK, h.rep, by have := h.bd; omega, h.keep.trans hK (fun k hk => .inl (.inl hk)), h.own⟩
theorem Lost.go {w w1 w2 : World} {R TB : Nat} {s : ByteArray} {nest i : Nat} {nv : Value} {ns : List Nd} {a c P P' : Nat} {ms : List Nd} {nv' : Value} (h : Lost F w w1 R TB s nest i nv ns a c P ms nv') (hK : Keep (· = R) w1 w2) (hR : RAt w2 R s P' nest a c) (hj : P ≤ P') (hhi : P' ≤ s.size + 1) : Lost F w w2 R TB s nest i nv ns a c P' ms nv' :=
  ⟨hR, h.tr.read h.rd hK, by have := h.lo; omega, hhi, by have := h.bd; omega, h.keep.trans hK (fun k hk => .inl (.inl hk)), h.own⟩
theorem blanks_hi {s : ByteArray} {P : Nat} (h : P ≤ s.size + 1) : blanksEnd s P ≤ s.size + 1 := by
  by_cases hp : P ≤ s.size
  · have := blanksEnd_le s P hp; omega
  · rw [blanksEnd_stop s P (by unfold here; rw [dif_neg (by omega)]; decide)]; exact h
/-- A node that has just been added behind reading. -/
theorem Got.leaf {w w1 w2 : World} {R TB : Nat} {s : ByteArray} {nest i j : Nat} {nv nv' : Value} {ns : List Nd} {k : Nat} {wd : ByteArray} (hK : Keep (· = R) w w1) (hR : RAt w1 R s j nest 0 0) (hT : TAt F w1 TB nv ns) (hT2 : TAt F w2 TB nv' (ns ++ [⟨k, wd, []⟩]))
    (hK2 : Keep (TS TB nv) w1 w2) (hb : ∀ k, nv'.ownBlock = some k → nv.ownBlock = some k ∨ w1.heap.size ≤ k) (hij : i < j) : Got F w w2 R TB s nest i nv ns (.node k wd []) j ns.length [⟨k, wd, []⟩] nv' :=
  ⟨hR.added hT hK2, hT2, Rep.new ns k wd [] [] rfl, by simp only [List.length_cons, List.length_nil]; omega, (hK.mono (fun k _ h => .inl h)).trans hK2 (fun k hk => .inl (.inr hk)), fun k hk => (hb k hk).imp id (fun h => by have := hK.size; omega)⟩
theorem Lost.leaf {w w1 w2 : World} {R TB : Nat} {s : ByteArray} {nest i P a c : Nat} {nv nv' : Value} {ns : List Nd} {d : Nd} (hK : Keep (· = R) w w1) (hR : RAt w1 R s P nest a c) (hT : TAt F w1 TB nv ns) (hT2 : TAt F w2 TB nv' (ns ++ [d]))
    (hK2 : Keep (TS TB nv) w1 w2) (hb : ∀ k, nv'.ownBlock = some k → nv.ownBlock = some k ∨ w1.heap.size ≤ k) (hij : i ≤ P) (hhi : P ≤ s.size + 1) : Lost F w w2 R TB s nest i nv ns a c P [d] nv' :=
  ⟨hR.added hT hK2, hT2, hij, hhi, by simp only [List.length_cons, List.length_nil]; omega, (hK.mono (fun k _ h => .inl h)).trans hK2 (fun k hk => .inl (.inr hk)), fun k hk => (hb k hk).imp id (fun h => by have := hK.size; omega)⟩
end Ex
end Go.Proofs.Ytfgkcifkfokoiaa
