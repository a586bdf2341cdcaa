/- The list of nodes of beadleref14, and the walk through its add. -/
import Derived.Test.YtfgkcifkfokoiaaFw1
import Derived.Test.YtfgkcifkfokoiaaExR
set_option linter.unusedVariables false
set_option linter.unusedSimpArgs false
namespace Go.Proofs.Ytfgkcifkfokoiaa
open Go.RowKit
namespace Ex
/-- A node: its kind, its word, the numbers of its kids. -/
structure Nd where
  kind : Nat
  word : ByteArray
  kids : List Nat
/-- The block holds numbers. -/
def isI (w : World) (k : Nat) : Prop := ∃ cur fr, w.heap[k]? = some (.cells cur 3 fr)
theorem isI.ne {w : World} {k b : Nat} {T : TypeId} {cs : List Value} (h : isI w k) (hb : Blk w b T cs) (hT : T ≠ 3) : k ≠ b := by
  rintro rfl
  obtain ⟨cur, fr, h⟩ := h
  unfold Blk at hb
  rw [h] at hb
  simp at hb
  exact hT hb.2.1.symm
theorem isI.row {w : World} {k base : Nat} {e : TypeId} {size : Nat} {v : Value} {n : Nat} {xs : List Value} (h : isI w k) (hv : w.ownsRow base e size v n xs) (hT : e ≠ 3) : v.ownBlock ≠ some k := by
  intro hk
  obtain ⟨cur, fr, h⟩ := h
  rcases hv.2 with ⟨rfl, _⟩ | ⟨g, cap, cur', rfl, _, hh, _⟩
  · simp [Value.ownBlock] at hk
  · have : g = k := by simpa [Value.ownBlock] using hk
    subst this
    rw [h] at hh
    simp at hh
    exact hT hh.2.1.symm
theorem isI.keep {w w' : World} {S : Nat → Prop} {k : Nat} (h : isI w k) (hK : Keep S w w') (hn : ¬ S k) : isI w' k := by
  obtain ⟨cur, fr, h⟩ := h
  exact ⟨cur, fr, (hK.block k (heap_lt h) hn).trans h⟩
theorem isI.own {w : World} {base size : Nat} {v : Value} {n : Nat} {xs : List Value} (h : w.ownsRow base 3 size v n xs) : ∀ k, v.ownBlock = some k → isI w k := by
  intro k hk
  rcases h.2 with ⟨rfl, _⟩ | ⟨g, cap, cur', rfl, _, hh, _⟩
  · simp [Value.ownBlock] at hk
  · have : g = k := by simpa [Value.ownBlock] using hk
    subst this
    exact ⟨_, _, hh⟩
/-- The block holds numbers and is none of F. -/
def okI (F : Nat → Prop) (w : World) (k : Nat) : Prop := isI w k ∧ ¬ F k
variable {F : Nat → Prop}
def ints (l : List Nat) : List Value := l.map fun k : Nat => Value.int .i64 (k : Int)
/-- These cells are the nodes. -/
def NdsAt (F : Nat → Prop) (w : World) : List Nd → List Value → Prop
  | [], xs => xs = []
  | d :: ns, xs => ∃ kv r, xs = .int .i64 (d.kind : Int) :: .string d.word :: kv :: r ∧ Rd w (okI F w) kv 1 (ints d.kids) ∧ NdsAt F w ns r
theorem rd_step {w w' : World} {S : Nat → Prop} {v : Value} {cs : List Value} (h : Rd w (okI F w) v 1 cs) (hK : Keep S w w') (hn : ∀ k, okI F w k → ¬ S k) : Rd w' (okI F w') v 1 cs := by
  obtain ⟨A, n, c, rfl, hl, hc, hm, hr⟩ := h
  refine ⟨A, n, c, rfl, hl, hc, hm, fun h0 => ?_⟩
  obtain ⟨b, off, rfl, hok, hcell⟩ := hr h0
  exact ⟨b, off, rfl, ⟨hok.1.keep hK (hn _ hok), hok.2⟩, fun j u hj => hK.cell (hcell j u hj) (hn _ hok)⟩
theorem NdsAt.step {w w' : World} {S : Nat → Prop} (hK : Keep S w w') (hn : ∀ k, okI F w k → ¬ S k) : ∀ {ns : List Nd} {xs : List Value}, NdsAt F w ns xs → NdsAt F w' ns xs
  | [], xs, h => h
  | d :: ns, xs, h => by
    obtain ⟨kv, r, h1, h2, h3⟩ := h
    exact ⟨kv, r, h1, rd_step h2 hK hn, NdsAt.step hK hn h3⟩
theorem NdsAt.snoc {w : World} {d : Nd} {kv : Value} (hr : Rd w (okI F w) kv 1 (ints d.kids)) : ∀ {ns : List Nd} {xs : List Value}, NdsAt F w ns xs → NdsAt F w (ns ++ [d]) (xs ++ [.int .i64 (d.kind : Int), .string d.word, kv])
  | [], xs, h => by
    simp only [NdsAt] at h
    subst h
    exact ⟨kv, [], rfl, hr, rfl⟩
  | x :: ns, xs, h => by
    obtain ⟨kv', r, rfl, h2, h3⟩ := h
    exact ⟨kv', r ++ [.int .i64 (d.kind : Int), .string d.word, kv], rfl, h2, NdsAt.snoc hr h3⟩
theorem NdsAt.length {w : World} : ∀ {ns : List Nd} {xs : List Value}, NdsAt F w ns xs → xs.length = ns.length * 3
  | [], xs, h => by simp only [NdsAt] at h; subst h; rfl
  | d :: ns, xs, h => by
    obtain ⟨kv, r, rfl, _, h3⟩ := h
    have := NdsAt.length h3
    simp only [List.length_cons]
    omega
/-- The tree's object: its nodes lie in a row of its own. -/
structure TAt F (w : World) (TB : Nat) (nv : Value) (ns : List Nd) (rt : Int := 0) : Prop where
  blk : Blk w TB 35 [nv, .int .i64 rt]
  own : ∃ xs, w.ownsRow 0 140 3 nv ns.length xs ∧ NdsAt F w ns xs
/-- What a call that adds nodes may touch. -/
def TS (TB : Nat) (nv : Value) (k : Nat) : Prop := k = TB ∨ nv.ownBlock = some k
theorem refexpr_info : (Try.prog.info? 140).map (fun i => (i.zero, i.size, i.bytes)) = some (some (.agg #[.int .i64 0, .string ByteArray.empty, .slice none 0 0]), 3, 48) := by kernel_rfl

theorem add_end {rt : Int} {TB : Nat} {nv : Value} {ns : List Nd} {d : Nd} {A2 : Option Addr} {n2 c2 : Nat} {w w1 : World} {xs : List Value} {gg cap : Nat} (hB : Blk w TB 35 [nv, .int .i64 rt])
    (hown : w.ownsRow 0 140 3 nv ns.length xs) (hnd : NdsAt F w ns xs) (hr : Rd w (okI F w) (.slice A2 n2 c2) 1 (ints d.kids))
    (hown1 : w1.ownsRow 0 140 3 (.slice (some ⟨gg, 0, none⟩) (ns.length + 1) cap) (ns.length + 1) (xs ++ [.int .i64 (d.kind : Int), .string d.word, .slice A2 n2 c2]))
    (hgrow : ((w.alloc (.cells #[.int .i64 (d.kind : Int), .string d.word, .slice A2 n2 c2] 140)).alloc (.cells #[.int .i64 (d.kind : Int), .string d.word, .slice A2 n2 c2] 140)).drew.grownBy w1 nv.ownBlock)
    (hat : nv.ownBlock = some gg ∨ gg = w.heap.size + 1 + 1) :
    TAt F (w1.setCell ⟨TB, 0, none⟩ (.slice (some ⟨gg, 0, none⟩) (ns.length + 1) cap)) TB (.slice (some ⟨gg, 0, none⟩) (ns.length + 1) cap) (ns ++ [d]) rt ∧
      Keep (TS TB nv) w (w1.setCell ⟨TB, 0, none⟩ (.slice (some ⟨gg, 0, none⟩) (ns.length + 1) cap)) ∧ ∀ k, (Value.slice (some ⟨gg, 0, none⟩) (ns.length + 1) cap).ownBlock = some k → nv.ownBlock = some k ∨ w.heap.size ≤ k := by
  have hTB := hB.lt
  have hne : nv.ownBlock ≠ some TB := fun e => Own.ne hown hB (by decide) TB e rfl
  have hK1 : Keep (fun k => nv.ownBlock = some k) w w1 := ((((Keep.refl _ w).alloc _).alloc _).drew).grown hgrow (fun k hk => .inl hk)
  have hBg := hB.keep hK1 hne
  have hK2 : Keep (TS TB nv) w (w1.setCell ⟨TB, 0, none⟩ (.slice (some ⟨gg, 0, none⟩) (ns.length + 1) cap)) := (hK1.mono (fun k _ h => .inr h)).setCell (.inl (.inl rfl)) _
  have hI : ∀ k, okI F w k → ¬ TS TB nv k := by
    rintro k ⟨hk, -⟩ (rfl | h)
    · exact hk.ne hB (by decide) rfl
    · exact hk.row hown (by decide) h
  refine ⟨⟨hBg.set 0 _, _, ?_, (hnd.step hK2 hI).snoc (rd_step hr hK2 hI)⟩, hK2, ?_⟩
  · rw [List.length_append]
    refine Own.keep (S := (· = TB)) hown1 ((Keep.refl (· = TB) w1).put 0 _) ?_
    intro k hk e
    have e1 := ob hk
    subst e1 e
    rcases hat with h | h
    · exact hne h
    · omega
  · intro k hk
    have e1 := ob hk
    subst e1
    rcases hat with h | h
    · exact .inl h
    · exact .inr (by omega)
set_option maxRecDepth 100000 in
set_option maxHeartbeats 1000000 in
theorem add_any {rt : Int} (TB : Nat) (nv : Value) (ns : List Nd) (d : Nd) (A2 : Option Addr) (n2 c2 : Nat) (w : World) (h : TAt F w TB nv ns rt) (hn : ns.length ≤ 1000000) (hr : Rd w (okI F w) (.slice A2 n2 c2) 1 (ints d.kids)) :
    Calls Try.prog 117 #[.pointer (some ⟨TB, 0, none⟩), .agg #[.int .i64 (d.kind : Int), .string d.word, .slice A2 n2 c2]] w fun e w' => ∃ nv', e = .returned (.int .i64 (ns.length : Int)) ∧ TAt F w' TB nv' (ns ++ [d]) rt ∧
      Keep (TS TB nv) w w' ∧ ∀ k, nv'.ownBlock = some k → nv.ownBlock = some k ∨ w.heap.size ≤ k := by
  obtain ⟨hB, xs, hown, hnd⟩ := h
  obtain ⟨i0, hi0, hz⟩ := Option.map_eq_some_iff.1 refexpr_info
  simp only [Prod.mk.injEq] at hz
  obtain ⟨hz0, hz1, hz2⟩ := hz
  have hTB := hB.lt
  have hne : nv.ownBlock ≠ some TB := fun e => Own.ne hown hB (by decide) TB e rfl
  have hbx : nv.ownBlock ≠ some w.heap.size := fun e => by have := (hown.lt _ e).2; omega
  have c0 := hB.cellAt (i := 0) rfl
  have hown1 := (hown.alloc (.cells #[.int .i64 (d.kind : Int), .string d.word, .slice A2 n2 c2] 140))
  have hnews : ((w.alloc (.cells #[.int .i64 (d.kind : Int), .string d.word, .slice A2 n2 c2] 140)).alloc (.cells #[.int .i64 (d.kind : Int), .string d.word, .slice A2 n2 c2] 140)).heap[w.heap.size + 1]? = some (.cells #[.int .i64 (d.kind : Int), .string d.word, .slice A2 n2 c2] 140 (0, 0)) := by
    have := heap_alloc_at (w.alloc (.cells #[.int .i64 (d.kind : Int), .string d.word, .slice A2 n2 c2] 140)) (.cells #[.int .i64 (d.kind : Int), .string d.word, .slice A2 n2 c2] 140)
    rwa [show (w.alloc (.cells #[.int .i64 (d.kind : Int), .string d.word, .slice A2 n2 c2] 140)).heap.size = w.heap.size + 1 from by simp] at this
  go_enter Try.func117, Try.ntmps117
  go_wp2_with fail
  go_region_law
    ((refine step_append_lies _ (by rfl) _ _ _ (by rfl) 0 140 i0 _ 3 48 Try.underlying33 hi0 hz0 hz1 hz2 rfl (by omega) nv ns.length xs (by rfl) ((hown1.drew).alloc _)
        ⟨w.heap.size + 1, 0, none⟩ 1 1 [.int .i64 (d.kind : Int), .string d.word, .slice A2 n2 c2] (by rfl) (by rfl) (World.news_of_block (cs := #[.int .i64 (d.kind : Int), .string d.word, .slice A2 n2 c2]) (t := 140) (fr := (0, 0)) hnews) (by simp [Value.oneCell'])
        (by omega) (by simp only [maxLen]; omega) (by omega) (by simp) (w.heap.size + 1 + 1) (by simp) ?_; intro gg cap w1 hown1 hgrow hat hlt; have hBg : Blk w1 TB 35 [nv, .int .i64 rt] := (hgrow.block TB (by simp; omega) (Ne.symm hne)).trans ((hB.alloc _).alloc _); have f0 := hBg.frozen 0; have g0 := hBg.cellAt (i := 0) rfl))
  all_goals
    obtain ⟨hT, hK, hb⟩ := add_end hB hown hnd hr hown1 hgrow hat
    have g1 := hT.blk.cellAt (i := 0) rfl
    have hl : ((ns ++ [d]).length : Int) = ns.length + 1 := by simp
    go_wp2_with fail
    go_ret
    exact ⟨_, by simp, hT, hK, hb⟩
end Ex
end Go.Proofs.Ytfgkcifkfokoiaa
