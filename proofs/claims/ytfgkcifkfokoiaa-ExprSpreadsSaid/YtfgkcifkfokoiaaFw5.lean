/- The walks through level of beadleref14: its loops over parts. -/
import Derived.Test.YtfgkcifkfokoiaaFw4
set_option linter.unusedVariables false
set_option linter.unusedSimpArgs false
namespace Go.Proofs.Ytfgkcifkfokoiaa
open Go.RowKit
namespace Ex
def prk (l0 : List ET) : Ex.R (List ET) → Ex.R (List ET)
  | .ok l m => .ok (l0 ++ l) m
  | .bad a c => .bad a c
theorem prk_nil (r : Ex.R (List ET)) : prk [] r = r := by cases r <;> rfl
def consR (e : ET) : Ex.R (List ET) → Ex.R (List ET)
  | .ok l m => .ok (e :: l) m
  | .bad a c => .bad a c
theorem prk_cons (l0 : List ET) (e : ET) (r : Ex.R (List ET)) : prk l0 (consR e r) = prk (l0 ++ [e]) r := by
  cases r
  · simp [prk, consR]
  · rfl
/-- One round of the model's loop. -/
theorem kids_round {s : ByteArray} {g k j nest : Nat} {r : Ex.R (List ET)} (h : kids s g k j nest = some r) : ∃ g', g = g' + 1 ∧
    ((∃ a c, lev s g' (k + 1) j nest = some (.bad a c) ∧ r = .bad a c) ∨
     (∃ e1 j1, lev s g' (k + 1) j nest = some (.ok e1 j1) ∧ ((more k (here s j1) = false ∧ r = .ok [e1] j1) ∨ (more k (here s j1) = true ∧ ∃ r2, kids s g' k (if k = 2 then j1 else j1 + 1) nest = some r2 ∧ r = consR e1 r2)))) := by
  cases g with
  | zero => simp [kids] at h
  | succ g =>
    refine ⟨g, rfl, ?_⟩
    rw [kids] at h
    cases hl : lev s g (k + 1) j nest with
    | none => rw [hl] at h; cases h
    | some r1 =>
      rw [hl] at h
      cases r1 with
      | bad a c => exact .inl ⟨a, c, rfl, by simpa using h.symm⟩
      | ok e1 j1 =>
        refine .inr ⟨e1, j1, rfl, ?_⟩
        cases hm : more k (here s j1) with
        | false =>
          simp only [hm] at h
          exact .inl ⟨rfl, by simpa using h.symm⟩
        | true =>
          simp only [hm, if_true] at h
          refine .inr ⟨rfl, ?_⟩
          cases hk : kids s g k (if k = 2 then j1 else j1 + 1) nest with
          | none => rw [hk] at h; cases h
          | some r2 =>
            rw [hk] at h
            refine ⟨r2, rfl, ?_⟩
            cases r2 with
            | bad a c => simpa [consR] using h.symm
            | ok l m => simpa [consR] using h.symm
def rowOf (k : Nat) : Ex.R (List ET) → Ex.R ET
  | .ok l j => .ok (row k l) j
  | .bad a c => .bad a c
theorem lev_row {s : ByteArray} {f k i nest : Nat} {r : Ex.R ET} (hk : k < 3) (h : lev s (f + 1) k i nest = some r) : ∃ rk, kids s f k (if k = 2 then blanksEnd s i else i) nest = some rk ∧ r = rowOf k rk := by
  rw [lev, if_neg (by omega)] at h
  cases ha : kids s f k (if k = 2 then blanksEnd s i else i) nest with
  | none => rw [ha] at h; cases h
  | some rk =>
    rw [ha] at h
    cases rk with
    | ok e j => exact ⟨_, rfl, by simpa [rowOf] using h.symm⟩
    | bad a c => exact ⟨_, rfl, by simpa [rowOf] using h.symm⟩
/-- F, or the row's block. -/
def FK (F : Nat → Prop) (kv : Value) (k : Nat) : Prop := F k ∨ kv.ownBlock = some k
variable {F : Nat → Prop}
theorem rd_turn {F F' : Nat → Prop} {w w' : World} {S : Nat → Prop} {v : Value} {cs : List Value} (h : Rd w (okI F w) v 1 cs) (hK : Keep S w w') (hn : ∀ k, okI F w k → ¬ S k) (hF : ∀ k, okI F w k → ¬ F' k) : Rd w' (okI F' w') v 1 cs := by
  obtain ⟨A, n, c, rfl, hl, hc, hm, hr⟩ := h
  refine ⟨A, n, c, rfl, hl, hc, hm, fun h0 => ?_⟩
  obtain ⟨b, off, rfl, hok, hcell⟩ := hr h0
  exact ⟨b, off, rfl, ⟨hok.1.keep hK (hn _ hok), hF _ hok⟩, fun j u hj => hK.cell (hcell j u hj) (hn _ hok)⟩
theorem NdsAt.turn {F F' : Nat → Prop} {w w' : World} {S : Nat → Prop} (hK : Keep S w w') (hn : ∀ k, okI F w k → ¬ S k) (hF : ∀ k, okI F w k → ¬ F' k) : ∀ {ns : List Nd} {xs : List Value}, NdsAt F w ns xs → NdsAt F' w' ns xs
  | [], xs, h => h
  | d :: ns, xs, h => by
    obtain ⟨kv, r, h1, h2, h3⟩ := h
    exact ⟨kv, r, h1, rd_turn h2 hK hn hF, NdsAt.turn hK hn hF h3⟩
theorem isI.lt {w : World} {k : Nat} (h : isI w k) : k < w.heap.size := by
  obtain ⟨cur, fr, h⟩ := h
  exact heap_lt h
/-- Fewer forbidden blocks. -/
theorem TAt.less {rt : Int} {F F' : Nat → Prop} {w : World} {TB : Nat} {nv : Value} {ns : List Nd} (h : TAt F w TB nv ns rt) (hF : ∀ k, k < w.heap.size → F' k → F k) : TAt F' w TB nv ns rt := by
  obtain ⟨h1, xs, h2, h3⟩ := h
  exact ⟨h1, xs, h2, h3.turn (Keep.refl (fun _ => False) w) (fun _ _ h => h) (fun k hk h => hk.2 (hF k hk.1.lt h))⟩
/-- The row of kids has grown. -/
theorem TAt.grown {rt : Int} {w w' : World} {TB n base : Nat} {nv kv kv' : Value} {ns : List Nd} {xs : List Value} (h : TAt (FK F kv) w TB nv ns rt) (hrow : w.ownsRow base 3 1 kv n xs) (hK : Keep (fun k => kv.ownBlock = some k) w w') (hb : ∀ k, kv'.ownBlock = some k → kv.ownBlock = some k ∨ w.heap.size ≤ k) : TAt (FK F kv') w' TB nv ns rt := by
  obtain ⟨h1, xs, h2, h3⟩ := h
  refine ⟨h1.keep hK (fun e => (isI.own hrow _ e).ne h1 (by decide) rfl), xs, Own.keep h2 hK (fun k hk e => (isI.own hrow _ e).row h2 (by decide) hk), h3.turn hK (fun k hk e => hk.2 (.inr e)) ?_⟩
  rintro k hk (e | e)
  · exact hk.2 (.inl e)
  · rcases hb k e with e | e
    · exact hk.2 (.inr e)
    · have := hk.1.lt; omega
theorem RAt.grown {w w' : World} {R n base : Nat} {kv : Value} {xs : List Value} {s : ByteArray} {i nest b e : Nat} (h : RAt w R s i nest b e) (hrow : w.ownsRow base 3 1 kv n xs) (hK : Keep (fun k => kv.ownBlock = some k) w w') : RAt w' R s i nest b e :=
  Blk.keep h hK (fun e => (isI.own hrow _ e).ne h (by decide) rfl)
/-- The loop's state while all is well. -/
structure LA (F : Nat → Prop) (w wr : World) (R TB : Nat) (s : ByteArray) (nest i : Nat) (nv : Value) (ns : List Nd) (kv : Value) (l0 : List ET) (ks0 : List Nat) (ms : List Nd) (nv1 : Value) (j : Nat) : Prop where
  rd : RAt wr R s j nest 0 0
  tr : TAt (FK F kv) wr TB nv1 (ns ++ ms)
  row : wr.ownsRow w.heap.size 3 1 kv ks0.length (ints ks0)
  rep : RepL (ns ++ ms) l0 ks0
  bd : ms.length + 2 * i + ks0.length ≤ 2 * j
  keep : Keep (RS R TB nv) w wr
  own : ∀ k, nv1.ownBlock = some k → nv.ownBlock = some k ∨ w.heap.size ≤ k
  hj : j ≤ s.size
/-- The loop's state when something went wrong. -/
def LB (F : Nat → Prop) (w wr : World) (R TB : Nat) (s : ByteArray) (nest i : Nat) (nv : Value) (ns : List Nd) (a c : Nat) : Prop := ∃ P ms nv1, Lost F w wr R TB s nest i nv ns a c P ms nv1
theorem int_info : (Try.prog.info? 3).map (fun i => (i.zero, i.size, i.bytes)) = some (some (.int .i64 0), 1, 8) := by kernel_rfl
theorem LA.len {w wr : World} {R TB : Nat} {s : ByteArray} {nest i : Nat} {nv : Value} {ns : List Nd} {kv : Value} {l0 : List ET} {ks0 : List Nat} {ms : List Nd} {nv1 : Value} {j : Nat} (h : LA F w wr R TB s nest i nv ns kv l0 ks0 ms nv1 j) (hn : ns.length ≤ 2 * i) : (ns ++ ms).length + ks0.length ≤ 2 * j := by
  have := h.bd
  rw [List.length_append]
  omega
theorem LA.forb {w wr : World} {R TB : Nat} {s : ByteArray} {nest i : Nat} {nv : Value} {ns : List Nd} {kv : Value} {l0 : List ET} {ks0 : List Nat} {ms : List Nd} {nv1 : Value} {j : Nat} (h : LA F w wr R TB s nest i nv ns kv l0 ks0 ms nv1 j) (hF : ∀ k, F k → k < w.heap.size) : ∀ k, FK F kv k → k < wr.heap.size := by
  rintro k (hk | hk)
  · have := hF k hk; have := h.keep.size; omega
  · exact (h.row.lt k hk).2
/-- A call of the reader below leaves the row of kids as it is. -/
theorem LA.kids {wr w2 : World} {R TB base n : Nat} {s : ByteArray} {nest j b e : Nat} {nv1 kv : Value} {ns : List Nd} {xs : List Value} {G : Nat → Prop} (hR : RAt wr R s j nest b e) (hT : TAt G wr TB nv1 ns) (h : wr.ownsRow base 3 1 kv n xs) (hK : Keep (RS R TB nv1) wr w2) : w2.ownsRow base 3 1 kv n xs := by
  refine Own.keep h hK ?_
  intro k hk hs
  have hI := isI.own h k hk
  obtain ⟨hB, xs, hown, -⟩ := hT
  rcases hs with rfl | rfl | hs
  · exact hI.ne hR (by decide) rfl
  · exact hI.ne hB (by decide) rfl
  · exact hI.row hown (by decide) hs
/-- What a call below wrote is within what may be written. -/
theorem RS.under {w wr w2 : World} {R TB : Nat} {nv nv1 : Value} (h : Keep (RS R TB nv) w wr) (h2 : Keep (RS R TB nv1) wr w2) (ho : ∀ k, nv1.ownBlock = some k → nv.ownBlock = some k ∨ w.heap.size ≤ k) : Keep (RS R TB nv) w w2 := by
  refine h.trans h2 ?_
  rintro k (hk | hk | hk)
  · exact .inl (.inl hk)
  · exact .inl (.inr (.inl hk))
  · exact (ho k hk).imp (fun h => .inr (.inr h)) id
theorem ints_snoc (ks : List Nat) (n : Nat) : ints (ks ++ [n]) = ints ks ++ [.int .i64 (n : Int)] := by simp [ints]
/-- One part more. -/
theorem LA.next {w wr w2 w3 w4 : World} {R TB : Nat} {s : ByteArray} {nest i j j1 j' n : Nat} {nv nv1 nv2 kv kv' : Value} {ns ms ms2 : List Nd} {l0 : List ET} {ks0 : List Nat} {e1 : ET} (h : LA F w wr R TB s nest i nv ns kv l0 ks0 ms nv1 j)
    (hG : Got (FK F kv) wr w2 R TB s nest j nv1 (ns ++ ms) e1 j1 n ms2 nv2) (hrow : w3.ownsRow w.heap.size 3 1 kv' (ks0.length + 1) (ints ks0 ++ [.int .i64 (n : Int)])) (hK3 : Keep (fun k => kv.ownBlock = some k) w2 w3)
    (hb : ∀ k, kv'.ownBlock = some k → kv.ownBlock = some k ∨ w2.heap.size ≤ k) (hK4 : Keep (· = R) w3 w4) (hR4 : RAt w4 R s j' nest 0 0) (hj : j1 ≤ j') (hj' : j' ≤ s.size) :
    LA F w w4 R TB s nest i nv ns kv' (l0 ++ [e1]) (ks0 ++ [n]) (ms ++ ms2) nv2 j' := by
  have hrow2 := LA.kids h.rd h.tr h.row hG.keep
  have hR3 := hG.rd.grown hrow2 hK3
  have hT3 := hG.tr.grown hrow2 hK3 hb
  have hz1 := h.keep.size
  have hz2 := hG.keep.size
  refine ⟨hR4, ?_, ?_, ?_, ?_, ?_, ?_, hj'⟩
  · rw [← List.append_assoc]; exact hT3.read hR3 hK4
  · rw [ints_snoc, List.length_append]
    exact Own.keep hrow hK4 (fun k hk e => (isI.own hrow k hk).ne hR3 (by decide) e)
  · rw [← List.append_assoc]
    exact RepL.snoc hG.rep (RepL.more h.rep)
  · have := h.bd
    have := hG.bd
    simp only [List.length_append, List.length_cons, List.length_nil]
    omega
  · refine ((RS.under h.keep hG.keep h.own).trans hK3 ?_).trans hK4 (fun k hk => .inl (.inl hk))
    exact fun k hk => .inr (h.row.lt k hk).1
  · intro k hk
    rcases hG.own k hk with h1 | h1
    · exact h.own k h1
    · exact .inr (by omega)
/-- A part that went wrong. -/
theorem LA.lost {w wr w2 w3 w4 : World} {R TB : Nat} {s : ByteArray} {nest i j a c P P' : Nat} {nv nv1 nv2 kv kv' : Value} {ns ms ms2 : List Nd} {l0 : List ET} {ks0 : List Nat} (h : LA F w wr R TB s nest i nv ns kv l0 ks0 ms nv1 j)
    (hG : Lost (FK F kv) wr w2 R TB s nest j nv1 (ns ++ ms) a c P ms2 nv2) (hK3 : Keep (fun k => kv.ownBlock = some k) w2 w3)
    (hb : ∀ k, kv'.ownBlock = some k → kv.ownBlock = some k ∨ w2.heap.size ≤ k) (hK4 : Keep (· = R) w3 w4) (hR4 : RAt w4 R s P' nest a c) (hj : P ≤ P') (hj' : P' ≤ s.size + 1) :
    Lost F w w4 R TB s nest i nv ns a c P' (ms ++ ms2) nv2 := by
  have hrow2 := LA.kids h.rd h.tr h.row hG.keep
  have hR3 := hG.rd.grown hrow2 hK3
  have hT3 := hG.tr.grown (kv' := kv') hrow2 hK3 hb
  have hz1 := h.keep.size
  have hz2 := hG.keep.size
  have hbd := h.bd
  have hbd2 := hG.bd
  have hlo := hG.lo
  refine ⟨hR4, ?_, by omega, hj', ?_, ?_, ?_⟩
  · rw [← List.append_assoc]; exact (hT3.read hR3 hK4).less (fun k _ h => .inl h)
  · simp only [List.length_append]
    omega
  · refine ((RS.under h.keep hG.keep h.own).trans hK3 ?_).trans hK4 (fun k hk => .inl (.inl hk))
    exact fun k hk => .inr (h.row.lt k hk).1
  · intro k hk
    rcases hG.own k hk with h1 | h1
    · exact h.own k h1
    · exact .inr (by omega)
/-- A drawn order makes no difference. -/
theorem LA.drewN {w wr : World} {R TB : Nat} {s : ByteArray} {nest i : Nat} {nv : Value} {ns : List Nd} {kv : Value} {l0 : List ET} {ks0 : List Nat} {ms : List Nd} {nv1 : Value} {j : Nat} (h : LA F w wr R TB s nest i nv ns kv l0 ks0 ms nv1 j) (n : Nat) : LA F w (wr.drewN n) R TB s nest i nv ns kv l0 ks0 ms nv1 j := by
  have hK := (Keep.refl (· = R) wr).drewN n
  have hR := Blk.drewN h.rd n
  exact ⟨hR, h.tr.read h.rd hK, Own.keep h.row hK (fun k hk e => (isI.own h.row k hk).ne h.rd (by decide) e), h.rep, h.bd, h.keep.drewN n, h.own, h.hj⟩
/-- One part alone is what it is. -/
theorem LA.one {w wr : World} {R TB : Nat} {s : ByteArray} {nest i n : Nat} {nv : Value} {ns : List Nd} {kv : Value} {e : ET} {ms : List Nd} {nv1 : Value} {j : Nat} (h : LA F w wr R TB s nest i nv ns kv [e] [n] ms nv1 j) : Got F w wr R TB s nest i nv ns e j n ms nv1 := by
  obtain ⟨m, r, h1, h2, h3⟩ := h.rep
  simp only [RepL] at h3
  subst h3
  simp only [List.cons.injEq, and_true] at h1
  subst h1
  exact ⟨h.rd, h.tr.less (fun k _ h => .inl h), h2, by have := h.bd; simp only [List.length_cons, List.length_nil] at this; omega, h.keep, h.own⟩
/-- What the new node's kids lie in. -/
theorem LA.rdk {w wr : World} {R TB : Nat} {s : ByteArray} {nest i : Nat} {nv : Value} {ns : List Nd} {kv : Value} {l0 : List ET} {ks0 : List Nat} {ms : List Nd} {nv1 : Value} {j : Nat} (h : LA F w wr R TB s nest i nv ns kv l0 ks0 ms nv1 j) (hF : ∀ k, F k → k < w.heap.size) : Rd wr (okI F wr) kv 1 (ints ks0) :=
  Own.rd h.row (fun k hk => ⟨isI.own h.row k hk, fun e => by have := hF k e; have := (h.row.lt k hk).1; omega⟩)
/-- A node of many parts. -/
theorem LA.many {w wr w2 : World} {R TB kd : Nat} {s : ByteArray} {nest i : Nat} {nv nv2 : Value} {ns : List Nd} {kv : Value} {l0 : List ET} {ks0 : List Nat} {ms : List Nd} {nv1 : Value} {j : Nat} (h : LA F w wr R TB s nest i nv ns kv l0 ks0 ms nv1 j) (h2 : 2 ≤ ks0.length) (hT : TAt F w2 TB nv2 (ns ++ ms ++ [⟨kd, ByteArray.empty, ks0⟩]))
    (hK : Keep (TS TB nv1) wr w2) (hb : ∀ k, nv2.ownBlock = some k → nv1.ownBlock = some k ∨ wr.heap.size ≤ k) : Got F w w2 R TB s nest i nv ns (.node kd ByteArray.empty l0) j (ns ++ ms).length (ms ++ [⟨kd, ByteArray.empty, ks0⟩]) nv2 := by
  have hz1 := h.keep.size
  refine ⟨h.rd.added h.tr hK, by rw [← List.append_assoc]; exact hT, by rw [← List.append_assoc]; exact Rep.new _ _ _ _ _ h.rep, ?_, ?_, ?_⟩
  · have := h.bd
    simp only [List.length_append, List.length_cons, List.length_nil]
    omega
  · refine h.keep.trans hK ?_
    rintro k (hk | hk)
    · exact .inl (.inr (.inl hk))
    · exact (h.own k hk).imp (fun h => .inr (.inr h)) id
  · intro k hk
    rcases hb k hk with h1 | h1
    · exact h.own k h1
    · exact .inr (by omega)
theorem LA.alloc {w wr : World} {R TB : Nat} {s : ByteArray} {nest i : Nat} {nv : Value} {ns : List Nd} {kv : Value} {l0 : List ET} {ks0 : List Nat} {ms : List Nd} {nv1 : Value} {j : Nat} (h : LA F w wr R TB s nest i nv ns kv l0 ks0 ms nv1 j) (o : Obj) : LA F w (wr.alloc o) R TB s nest i nv ns kv l0 ks0 ms nv1 j := by
  have hK := (Keep.refl (· = R) wr).alloc o
  exact ⟨Blk.alloc h.rd o, h.tr.read h.rd hK, Own.keep h.row hK (fun k hk e => (isI.own h.row k hk).ne h.rd (by decide) e), h.rep, h.bd, h.keep.alloc o, h.own, h.hj⟩
theorem prk_end (l0 : List ET) (e : ET) (j : Nat) : prk l0 (.ok [e] j) = .ok (l0 ++ [e]) j := rfl
theorem row_many (k : Nat) {l : List ET} (h : 2 ≤ l.length) : row k l = .node (kindOf k) ByteArray.empty l := by
  match l, h with
  | x :: y :: l, _ => rfl

set_option maxRecDepth 100000 in
set_option maxHeartbeats 4000000 in
theorem reflevel0 (s : ByteArray) (hs : s.size ≤ 256) (f : Nat) (IH : ∀ g, g < f → RLevOK s g) (R TB i nest : Nat) (r : Ex.R ET) (nv : Value) (ns : List Nd) (w : World) (hF : ∀ k, F k → k < w.heap.size) (hR : RAt w R s i nest 0 0) (hT : TAt F w TB nv ns) (hi : i ≤ s.size) (hnest : nest ≤ 16) (hn : ns.length ≤ 2 * i) (hr : lev s (f + 1) 0 i nest = some r) :
    Calls Try.prog 76 #[.pointer (some ⟨R, 0, none⟩), .pointer (some ⟨TB, 0, none⟩), .int .i64 0] w fun e w' => LPost F w R TB s nest i nv ns r e w' := by
  obtain ⟨rk, hk, hrr⟩ := lev_row (by decide) hr
  rw [if_neg (by decide)] at hk
  have Hr := hid hrr
  have Hk := hid hk
  clear hr hrr hk
  have c4 := hR.cellAt (i := 4) rfl
  go_enter Try.func76, Try.ntmps76
  go_wp2_with fail
  have hK0 := Keep.refl (· = R) w
  have hR0 := hR
  have hT0 := hT
  have hge := Nat.le_refl i
  have hle := hi
  go_loopg [7] (s.size + 2 - i) (fun g v wr => (∃ kv l0 ks0 ms nv1 j g2 r2, kv = v ∧ LA F w wr R TB s nest i nv ns kv l0 ks0 ms nv1 j ∧ g = s.size + 2 - j ∧ g2 ≤ f ∧ kids s g2 0 j nest = some r2 ∧ rk = prk l0 r2) ∨ (g = 0 ∧ ∃ a c, c ≠ 0 ∧ rk = .bad a c ∧ LB F w wr R TB s nest i nv ns a c))
  case atStart =>
    refine .inl ⟨_, [], [], [], nv, i, f, rk, rfl, ⟨hR0, by rw [List.append_nil]; exact hT0.less (fun k _ h => h.elim id (fun e => by cases e)), World.ownsRow_nil _ _ _ _, rfl, by simp only [List.length_nil]; omega, hK0.mono (fun k _ h => .inl h), fun k h => .inl h, hle⟩, rfl, Nat.le_refl _, Hk.out, (prk_nil _).symm⟩
  case round =>
    clear c4 hR0 hT0 hK0
    rcases hrel with ⟨kv, l0, ks0, ms, nv1, j, g2, r2, rfl, hA, hg, hg2, hk2, hrk⟩ | ⟨hg, a, c, hc, hrk, P, ms, nv1, hB⟩
    · have Hg := hid hg
      obtain ⟨g3, rfl, hround⟩ := kids_round hk2
      have hlen := hA.len hn
      have hjs := hA.hj
      have c4 := hA.rd.cellAt (i := 4) rfl
      have hIH := fun r nv ns w hw => IH g3 (by omega) (FK F kv) 1 (by decide) R TB j nest r nv ns w hw
      have hIH := fun r nv ns => hIH r nv ns _ (hA.forb hF)
      clear hg hk2
      rcases hround with ⟨a, c, hl, rfl⟩ | ⟨e1, j1, hl, hmore⟩
      · have hcl := hIH _ _ _ hA.rd hA.tr hA.hj hnest (by omega) hl
        have Hrk := hid (show rk = .bad a c from hrk)
        have hc0 : c ≠ 0 := by have := (lev_bad s g3).1 _ _ _ _ _ hl; omega
        have tc : ((c : Int) == 0) = false := by simpa using (by omega : ¬ (c : Int) = 0)
        have tc' : ((c : Int) != 0) = true := by simpa using (by omega : ¬ (c : Int) = 0)
        clear hrk hl hIH
        go_wp2_with fail
        refine hcl.mono ?_
        rintro e w2 ⟨v1, P, ms2, nv2, rfl, hL⟩
        have hrow2 := LA.kids hA.rd hA.tr hA.row hL.keep
        have hB2 : w.heap.size ≤ w2.heap.size := by have := hA.keep.size; have := hL.keep.size; omega
        have hPhi := hL.hi
        clear hcl c4
        go_wp2_with (at_builtin; refine append_one w.heap.size rfl (.tmp 34) (.tmp 36) 47 3 _ 1 8 rfl Try.underlying47 int_info rfl (by decide) (by decide) _ ks0.length (ints ks0) [.int .i64 v1] rfl rfl rfl ?h1 hrow2 hB2 ?hl ?next)
        case h1 => intro u hu; simp at hu; subst hu; rfl
        case hl => omega
        case next =>
          intro b3 cap3 w3 hown3 hK3 hb3
          have hb3' : ∀ k, (Value.slice (some ⟨b3, 0, none⟩) (ks0.length + 1) cap3).ownBlock = some k → kv.ownBlock = some k ∨ w2.heap.size ≤ k := fun k hk => by have := ob hk; subst this; exact hb3
          have hR3 := hL.rd.grown hrow2 hK3
          go_wp2_with fail
          refine (refc_any R s P nest a c w3 hR3 (by omega)).mono ?_
          rintro e w4 ⟨rfl, n4, rfl⟩
          have hR4 : RAt (w3.drewN n4) R s P nest a c := Blk.drewN hR3 n4
          have hK4 := (Keep.refl (· = R) w3).drewN n4
          generalize w3.drewN n4 = w4 at *
          by_cases hm : here s P = 124
          · have t5 : (((here s P : Nat) : Int) == 124) = true := by rw [hm]; rfl
            have hlt : P < s.size := here_lt (by omega)
            have HL := hid (LA.lost hA hL hK3 hb3' (hK4.put 1 _) (hR4.set 1 (.int .i64 ((P + 1 : Nat) : Int))) (by omega) (by omega))
            have c1 := hR4.cellAt (i := 1) rfl
            have f1 := hR4.frozen 1
            clear hA hL hm hown3 hK3 hb3 hb3' hR3 hR4 hK4
            go_wp2_with fail
            go_roundg 0
            case measure => have := Hg.out; omega
            case rel => exact .inr ⟨rfl, a, c, hc0, Hrk.out, P + 1, _, _, HL.out⟩
          · have t5 : (((here s P : Nat) : Int) == 124) = false := by simp; omega
            have HL := hid (LA.lost hA hL hK3 hb3' hK4 hR4 (Nat.le_refl _) hL.hi)
            have c4 := hR4.cellAt (i := 4) rfl
            clear hA hL hm hown3 hK3 hb3 hb3' hR3 hR4 hK4
            go_wp2_with fail
            go_ret
            rw [Hr.out, Hrk.out]
            exact ⟨-1, P, _, _, rfl, HL.out⟩
      · have hcl := hIH _ _ _ hA.rd hA.tr hA.hj hnest (by omega) hl
        have hfw := (lev_forward s g3).1 _ _ _ _ _ hA.hj hl
        clear hl hIH
        go_wp2_with fail
        refine hcl.mono ?_
        rintro e w2 ⟨n1, ms2, nv2, rfl, hG⟩
        have hrow2 := LA.kids hA.rd hA.tr hA.row hG.keep
        have hB2 : w.heap.size ≤ w2.heap.size := by have := hA.keep.size; have := hG.keep.size; omega
        have Hmore := hid hmore
        have Hrk0 := hid hrk
        clear hcl c4 hmore hrk
        go_wp2_with (at_builtin; refine append_one w.heap.size rfl (.tmp 34) (.tmp 36) 47 3 _ 1 8 rfl Try.underlying47 int_info rfl (by decide) (by decide) _ ks0.length (ints ks0) [.int .i64 ((n1 : Nat) : Int)] rfl rfl rfl ?h1 hrow2 hB2 ?hl ?next)
        case h1 => intro u hu; simp at hu; subst hu; rfl
        case hl => omega
        case next =>
          intro b3 cap3 w3 hown3 hK3 hb3
          have hb3' : ∀ k, (Value.slice (some ⟨b3, 0, none⟩) (ks0.length + 1) cap3).ownBlock = some k → kv.ownBlock = some k ∨ w2.heap.size ≤ k := fun k hk => by have := ob hk; subst this; exact hb3
          have hR3 := hG.rd.grown hrow2 hK3
          go_wp2_with fail
          refine (refc_any R s j1 nest 0 0 w3 hR3 (by omega)).mono ?_
          rintro e w4 ⟨rfl, n4, rfl⟩
          have hR4 : RAt (w3.drewN n4) R s j1 nest 0 0 := Blk.drewN hR3 n4
          have hK4 := (Keep.refl (· = R) w3).drewN n4
          have hmore := Hmore.out
          have hrk := Hrk0.out
          clear Hmore Hrk0
          generalize w3.drewN n4 = w4 at *
          by_cases hm : here s j1 = 124
          · have t5 : (((here s j1 : Nat) : Int) == 124) = true := by rw [hm]; rfl
            have hlt : j1 < s.size := here_lt (by omega)
            rcases hmore with ⟨hmf, -⟩ | ⟨-, r2', hk2, rfl⟩
            · rw [show more 0 (here s j1) = true from by rw [hm]; rfl] at hmf
              cases hmf
            · have hk2 : kids s g3 0 (j1 + 1) nest = some r2' := hk2
              have HN := hid (LA.next hA hG hown3 hK3 hb3' (hK4.put 1 _) (hR4.set 1 (.int .i64 ((j1 + 1 : Nat) : Int))) (by omega) (by omega))
              have Hk2 := hid hk2
              have Hrk := hid (show rk = prk (l0 ++ [e1]) r2' by rw [hrk, prk_cons])
              have c1 := hR4.cellAt (i := 1) rfl
              have f1 := hR4.frozen 1
              clear hA hG hm hown3 hK3 hb3 hb3' hR3 hR4 hK4 hk2 hrk
              go_wp2_with fail
              go_roundg (s.size + 2 - (j1 + 1))
              case measure => have := Hg.out; omega
              case rel => exact .inl ⟨_, _, _, _, _, _, g3, _, rfl, HN.out, rfl, by omega, Hk2.out, Hrk.out⟩
          · have t5 : (((here s j1 : Nat) : Int) == 124) = false := by simp; omega
            rcases hmore with ⟨-, rfl⟩ | ⟨hmf, -⟩
            case inr =>
              rw [show more 0 (here s j1) = false from by show (here s j1 == 124) = false; simpa using hm] at hmf
              cases hmf
            have hN := LA.next hA hG hown3 hK3 hb3' hK4 hR4 (Nat.le_refl _) (by omega)
            have Hrk := hid (show rk = .ok (l0 ++ [e1]) j1 by rw [hrk, prk_end])
            have hlk : l0.length = ks0.length := (RepL.length hA.rep).symm
            have c4 := hR4.cellAt (i := 4) rfl
            clear hrk hG hK3 hb3 hb3' hR3 hK4
            by_cases h0 : ks0.length = 0
            · obtain rfl : ks0 = [] := List.eq_nil_of_length_eq_zero h0
              obtain rfl : l0 = [] := List.eq_nil_of_length_eq_zero hlk
              have hN1 := hN.one
              have Hr1 := hid (show r = .ok e1 j1 by rw [Hr.out, Hrk.out]; rfl)
              have e0 : w4.cell? ⟨b3, 0, none⟩ = some (.int .i64 ((n1 : Nat) : Int)) := hN.row.cells (g := b3) rfl 0 _ rfl
              clear h0 hlk
              clear hm hN hA hown3 hrow2
              go_wp2_with fail
              go_ret
              rw [Hr1.out]
              exact ⟨n1, _, _, rfl, hN1⟩
            · have h2 : 2 ≤ (ks0 ++ [n1]).length := by simp; omega
              have t8 : ((((ks0.length + 1 : Nat) : Int)) == 1) = false := by simp; omega
              have t9 : ((((ks0.length : Nat) : Int) + 1) == 1) = false := by simp; omega
              have Hr1 := hid (show r = .ok (.node 5 ByteArray.empty (l0 ++ [e1])) j1 by rw [Hr.out, Hrk.out]; show Ex.R.ok (row _ (l0 ++ [e1])) j1 = _; rw [row_many _ (by simp; omega)]; rfl)
              have hN2 := hN.alloc (.cells #[.int .i64 5, .int .i64 6, .int .i64 4] 3)
              have hT2 : TAt F _ TB nv2 (ns ++ (ms ++ ms2)) := hN2.tr.less (fun k _ h => .inl h)
              have hrd := hN2.rdk hF
              have hln := hN2.len hn
              have hlx : ks0.length ≤ 600 := by have := hA.bd; omega
              clear h0 hN hA hown3 hrow2
              clear hm
              go_wp2_with fail
              refine (add_any TB nv2 (ns ++ (ms ++ ms2)) ⟨5, ByteArray.empty, ks0 ++ [n1]⟩ _ _ _ _ hT2 (by omega) hrd).mono ?_
              rintro e w5 ⟨nv5, rfl, hT5, hK5, hb5⟩
              have HG := hid (hN2.many h2 hT5 hK5 hb5)
              clear hN2 hT2 hrd hT5 hK5 hb5
              go_wp2_with fail
              go_ret
              rw [Hr1.out]
              exact ⟨(ns ++ (ms ++ ms2)).length, _, _, by simp, HG.out⟩
    · have Hrk := hid hrk
      have c4 := hB.rd.cellAt (i := 4) rfl
      have t1 : ((c : Int) == 0) = false := by simpa using (by omega : ¬ (c : Int) = 0)
      have t2 : ((c : Int) != 0) = true := by simpa using (by omega : ¬ (c : Int) = 0)
      have HB := hid hB
      clear hrk hB
      go_wp2_with fail
      go_ret
      rw [Hr.out, Hrk.out]
      exact ⟨-1, P, ms, nv1, rfl, HB.out⟩

set_option maxRecDepth 100000 in
set_option maxHeartbeats 4000000 in
theorem reflevel1 (s : ByteArray) (hs : s.size ≤ 256) (f : Nat) (IH : ∀ g, g < f → RLevOK s g) (R TB i nest : Nat) (r : Ex.R ET) (nv : Value) (ns : List Nd) (w : World) (hF : ∀ k, F k → k < w.heap.size) (hR : RAt w R s i nest 0 0) (hT : TAt F w TB nv ns) (hi : i ≤ s.size) (hnest : nest ≤ 16) (hn : ns.length ≤ 2 * i) (hr : lev s (f + 1) 1 i nest = some r) :
    Calls Try.prog 76 #[.pointer (some ⟨R, 0, none⟩), .pointer (some ⟨TB, 0, none⟩), .int .i64 1] w fun e w' => LPost F w R TB s nest i nv ns r e w' := by
  obtain ⟨rk, hk, hrr⟩ := lev_row (by decide) hr
  rw [if_neg (by decide)] at hk
  have Hr := hid hrr
  have Hk := hid hk
  clear hr hrr hk
  have c4 := hR.cellAt (i := 4) rfl
  go_enter Try.func76, Try.ntmps76
  go_wp2_with fail
  have hK0 := Keep.refl (· = R) w
  have hR0 := hR
  have hT0 := hT
  have hge := Nat.le_refl i
  have hle := hi
  go_loopg [7] (s.size + 2 - i) (fun g v wr => (∃ kv l0 ks0 ms nv1 j g2 r2, kv = v ∧ LA F w wr R TB s nest i nv ns kv l0 ks0 ms nv1 j ∧ g = s.size + 2 - j ∧ g2 ≤ f ∧ kids s g2 1 j nest = some r2 ∧ rk = prk l0 r2) ∨ (g = 0 ∧ ∃ a c, c ≠ 0 ∧ rk = .bad a c ∧ LB F w wr R TB s nest i nv ns a c))
  case atStart =>
    refine .inl ⟨_, [], [], [], nv, i, f, rk, rfl, ⟨hR0, by rw [List.append_nil]; exact hT0.less (fun k _ h => h.elim id (fun e => by cases e)), World.ownsRow_nil _ _ _ _, rfl, by simp only [List.length_nil]; omega, hK0.mono (fun k _ h => .inl h), fun k h => .inl h, hle⟩, rfl, Nat.le_refl _, Hk.out, (prk_nil _).symm⟩
  case round =>
    clear c4 hR0 hT0 hK0
    rcases hrel with ⟨kv, l0, ks0, ms, nv1, j, g2, r2, rfl, hA, hg, hg2, hk2, hrk⟩ | ⟨hg, a, c, hc, hrk, P, ms, nv1, hB⟩
    · have Hg := hid hg
      obtain ⟨g3, rfl, hround⟩ := kids_round hk2
      have hlen := hA.len hn
      have hjs := hA.hj
      have c4 := hA.rd.cellAt (i := 4) rfl
      have hIH := fun r nv ns w hw => IH g3 (by omega) (FK F kv) 2 (by decide) R TB j nest r nv ns w hw
      have hIH := fun r nv ns => hIH r nv ns _ (hA.forb hF)
      clear hg hk2
      rcases hround with ⟨a, c, hl, rfl⟩ | ⟨e1, j1, hl, hmore⟩
      · have hcl := hIH _ _ _ hA.rd hA.tr hA.hj hnest (by omega) hl
        have Hrk := hid (show rk = .bad a c from hrk)
        have hc0 : c ≠ 0 := by have := (lev_bad s g3).1 _ _ _ _ _ hl; omega
        have tc : ((c : Int) == 0) = false := by simpa using (by omega : ¬ (c : Int) = 0)
        have tc' : ((c : Int) != 0) = true := by simpa using (by omega : ¬ (c : Int) = 0)
        clear hrk hl hIH
        go_wp2_with fail
        refine hcl.mono ?_
        rintro e w2 ⟨v1, P, ms2, nv2, rfl, hL⟩
        have hrow2 := LA.kids hA.rd hA.tr hA.row hL.keep
        have hB2 : w.heap.size ≤ w2.heap.size := by have := hA.keep.size; have := hL.keep.size; omega
        have hPhi := hL.hi
        clear hcl c4
        go_wp2_with (at_builtin; refine append_one w.heap.size rfl (.tmp 34) (.tmp 36) 47 3 _ 1 8 rfl Try.underlying47 int_info rfl (by decide) (by decide) _ ks0.length (ints ks0) [.int .i64 v1] rfl rfl rfl ?h1 hrow2 hB2 ?hl ?next)
        case h1 => intro u hu; simp at hu; subst hu; rfl
        case hl => omega
        case next =>
          intro b3 cap3 w3 hown3 hK3 hb3
          have hb3' : ∀ k, (Value.slice (some ⟨b3, 0, none⟩) (ks0.length + 1) cap3).ownBlock = some k → kv.ownBlock = some k ∨ w2.heap.size ≤ k := fun k hk => by have := ob hk; subst this; exact hb3
          have hR3 := hL.rd.grown hrow2 hK3
          go_wp2_with fail
          refine (refc_any R s P nest a c w3 hR3 (by omega)).mono ?_
          rintro e w4 ⟨rfl, n4, rfl⟩
          have hR4 : RAt (w3.drewN n4) R s P nest a c := Blk.drewN hR3 n4
          have hK4 := (Keep.refl (· = R) w3).drewN n4
          generalize w3.drewN n4 = w4 at *
          by_cases hm : here s P = 38
          · have t5 : (((here s P : Nat) : Int) == 38) = true := by rw [hm]; rfl
            have hlt : P < s.size := here_lt (by omega)
            have HL := hid (LA.lost hA hL hK3 hb3' (hK4.put 1 _) (hR4.set 1 (.int .i64 ((P + 1 : Nat) : Int))) (by omega) (by omega))
            have c1 := hR4.cellAt (i := 1) rfl
            have f1 := hR4.frozen 1
            clear hA hL hm hown3 hK3 hb3 hb3' hR3 hR4 hK4
            go_wp2_with fail
            go_roundg 0
            case measure => have := Hg.out; omega
            case rel => exact .inr ⟨rfl, a, c, hc0, Hrk.out, P + 1, _, _, HL.out⟩
          · have t5 : (((here s P : Nat) : Int) == 38) = false := by simp; omega
            have HL := hid (LA.lost hA hL hK3 hb3' hK4 hR4 (Nat.le_refl _) hL.hi)
            have c4 := hR4.cellAt (i := 4) rfl
            clear hA hL hm hown3 hK3 hb3 hb3' hR3 hR4 hK4
            go_wp2_with fail
            go_ret
            rw [Hr.out, Hrk.out]
            exact ⟨-1, P, _, _, rfl, HL.out⟩
      · have hcl := hIH _ _ _ hA.rd hA.tr hA.hj hnest (by omega) hl
        have hfw := (lev_forward s g3).1 _ _ _ _ _ hA.hj hl
        clear hl hIH
        go_wp2_with fail
        refine hcl.mono ?_
        rintro e w2 ⟨n1, ms2, nv2, rfl, hG⟩
        have hrow2 := LA.kids hA.rd hA.tr hA.row hG.keep
        have hB2 : w.heap.size ≤ w2.heap.size := by have := hA.keep.size; have := hG.keep.size; omega
        have Hmore := hid hmore
        have Hrk0 := hid hrk
        clear hcl c4 hmore hrk
        go_wp2_with (at_builtin; refine append_one w.heap.size rfl (.tmp 34) (.tmp 36) 47 3 _ 1 8 rfl Try.underlying47 int_info rfl (by decide) (by decide) _ ks0.length (ints ks0) [.int .i64 ((n1 : Nat) : Int)] rfl rfl rfl ?h1 hrow2 hB2 ?hl ?next)
        case h1 => intro u hu; simp at hu; subst hu; rfl
        case hl => omega
        case next =>
          intro b3 cap3 w3 hown3 hK3 hb3
          have hb3' : ∀ k, (Value.slice (some ⟨b3, 0, none⟩) (ks0.length + 1) cap3).ownBlock = some k → kv.ownBlock = some k ∨ w2.heap.size ≤ k := fun k hk => by have := ob hk; subst this; exact hb3
          have hR3 := hG.rd.grown hrow2 hK3
          go_wp2_with fail
          refine (refc_any R s j1 nest 0 0 w3 hR3 (by omega)).mono ?_
          rintro e w4 ⟨rfl, n4, rfl⟩
          have hR4 : RAt (w3.drewN n4) R s j1 nest 0 0 := Blk.drewN hR3 n4
          have hK4 := (Keep.refl (· = R) w3).drewN n4
          have hmore := Hmore.out
          have hrk := Hrk0.out
          clear Hmore Hrk0
          generalize w3.drewN n4 = w4 at *
          by_cases hm : here s j1 = 38
          · have t5 : (((here s j1 : Nat) : Int) == 38) = true := by rw [hm]; rfl
            have hlt : j1 < s.size := here_lt (by omega)
            rcases hmore with ⟨hmf, -⟩ | ⟨-, r2', hk2, rfl⟩
            · rw [show more 1 (here s j1) = true from by rw [hm]; rfl] at hmf
              cases hmf
            · have hk2 : kids s g3 1 (j1 + 1) nest = some r2' := hk2
              have HN := hid (LA.next hA hG hown3 hK3 hb3' (hK4.put 1 _) (hR4.set 1 (.int .i64 ((j1 + 1 : Nat) : Int))) (by omega) (by omega))
              have Hk2 := hid hk2
              have Hrk := hid (show rk = prk (l0 ++ [e1]) r2' by rw [hrk, prk_cons])
              have c1 := hR4.cellAt (i := 1) rfl
              have f1 := hR4.frozen 1
              clear hA hG hm hown3 hK3 hb3 hb3' hR3 hR4 hK4 hk2 hrk
              go_wp2_with fail
              go_roundg (s.size + 2 - (j1 + 1))
              case measure => have := Hg.out; omega
              case rel => exact .inl ⟨_, _, _, _, _, _, g3, _, rfl, HN.out, rfl, by omega, Hk2.out, Hrk.out⟩
          · have t5 : (((here s j1 : Nat) : Int) == 38) = false := by simp; omega
            rcases hmore with ⟨-, rfl⟩ | ⟨hmf, -⟩
            case inr =>
              rw [show more 1 (here s j1) = false from by show (here s j1 == 38) = false; simpa using hm] at hmf
              cases hmf
            have hN := LA.next hA hG hown3 hK3 hb3' hK4 hR4 (Nat.le_refl _) (by omega)
            have Hrk := hid (show rk = .ok (l0 ++ [e1]) j1 by rw [hrk, prk_end])
            have hlk : l0.length = ks0.length := (RepL.length hA.rep).symm
            have c4 := hR4.cellAt (i := 4) rfl
            clear hrk hG hK3 hb3 hb3' hR3 hK4
            by_cases h0 : ks0.length = 0
            · obtain rfl : ks0 = [] := List.eq_nil_of_length_eq_zero h0
              obtain rfl : l0 = [] := List.eq_nil_of_length_eq_zero hlk
              have hN1 := hN.one
              have Hr1 := hid (show r = .ok e1 j1 by rw [Hr.out, Hrk.out]; rfl)
              have e0 : w4.cell? ⟨b3, 0, none⟩ = some (.int .i64 ((n1 : Nat) : Int)) := hN.row.cells (g := b3) rfl 0 _ rfl
              clear h0 hlk
              clear hm hN hA hown3 hrow2
              go_wp2_with fail
              go_ret
              rw [Hr1.out]
              exact ⟨n1, _, _, rfl, hN1⟩
            · have h2 : 2 ≤ (ks0 ++ [n1]).length := by simp; omega
              have t8 : ((((ks0.length + 1 : Nat) : Int)) == 1) = false := by simp; omega
              have t9 : ((((ks0.length : Nat) : Int) + 1) == 1) = false := by simp; omega
              have Hr1 := hid (show r = .ok (.node 6 ByteArray.empty (l0 ++ [e1])) j1 by rw [Hr.out, Hrk.out]; show Ex.R.ok (row _ (l0 ++ [e1])) j1 = _; rw [row_many _ (by simp; omega)]; rfl)
              have hN2 := hN.alloc (.cells #[.int .i64 5, .int .i64 6, .int .i64 4] 3)
              have hT2 : TAt F _ TB nv2 (ns ++ (ms ++ ms2)) := hN2.tr.less (fun k _ h => .inl h)
              have hrd := hN2.rdk hF
              have hln := hN2.len hn
              have hlx : ks0.length ≤ 600 := by have := hA.bd; omega
              clear h0 hN hA hown3 hrow2
              clear hm
              go_wp2_with fail
              refine (add_any TB nv2 (ns ++ (ms ++ ms2)) ⟨6, ByteArray.empty, ks0 ++ [n1]⟩ _ _ _ _ hT2 (by omega) hrd).mono ?_
              rintro e w5 ⟨nv5, rfl, hT5, hK5, hb5⟩
              have HG := hid (hN2.many h2 hT5 hK5 hb5)
              clear hN2 hT2 hrd hT5 hK5 hb5
              go_wp2_with fail
              go_ret
              rw [Hr1.out]
              exact ⟨(ns ++ (ms ++ ms2)).length, _, _, by simp, HG.out⟩
    · have Hrk := hid hrk
      have c4 := hB.rd.cellAt (i := 4) rfl
      have t1 : ((c : Int) == 0) = false := by simpa using (by omega : ¬ (c : Int) = 0)
      have t2 : ((c : Int) != 0) = true := by simpa using (by omega : ¬ (c : Int) = 0)
      have HB := hid hB
      clear hrk hB
      go_wp2_with fail
      go_ret
      rw [Hr.out, Hrk.out]
      exact ⟨-1, P, ms, nv1, rfl, HB.out⟩
end Ex
end Go.Proofs.Ytfgkcifkfokoiaa
