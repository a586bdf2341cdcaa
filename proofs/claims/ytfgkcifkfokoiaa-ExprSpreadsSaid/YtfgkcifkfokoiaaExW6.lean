/- The walk through expr.Parse and its deferred closure: for every text, Parse gives what parsing in plain Lean gives: the expression, or the place and the number of the error. -/
import Derived.Test.YtfgkcifkfokoiaaExW5
import Derived.Recover
set_option linter.unusedVariables false
set_option linter.unusedSimpArgs false
namespace Go.Proofs.Ytfgkcifkfokoiaa
open Go.RowKit
namespace Ex

/-- Parsing in plain Lean. -/
def parse (s : ByteArray) : R ET :=
  if 256 < s.size then .bad 0 2
  else match lev s (8 * s.size + 20) 0 0 0 with
    | some (.ok t j) => if j < s.size then .bad j 3 else .ok t j
    | some (.bad a c) => .bad a c
    | none => .bad 0 0

theorem hmf : ∀ (fn : Fn) (first cap : Array Value) (w : World), (Instr.makeFunc fn first cap).run Try.prog w = .ok (.func fn first cap) w := fun _ _ _ _ => rfl
theorem neq_nil (t : TypeId) (v : Value) : ∀ w : World, (binOp .neq 20 (.iface t v) .nilIface).run Try.prog w = .ok (.bool true) w := fun w => by kernel_rfl
theorem eq_nil_nil : ∀ w : World, (binOp .neq 20 .nilIface .nilIface).run Try.prog w = .ok (.bool false) w := fun w => by kernel_rfl
theorem assert_fault (v : Value) : ∀ w : World, (Instr.typeAssert (.iface 127 v) 20 127 true).run Try.prog w = .ok (.tuple #[v, .bool true]) w := fun w => by kernel_rfl

set_option maxHeartbeats 1000000 in
theorem catch_panicking (b0 b1 b2 : Nat) (h01 : b0 < b1) (h12 : b1 < b2) (a c : Nat) (v0 v1 v2 v3 v4 : Value) (w : World)
    (H0 : Blk w b0 25 [v0, v1, v2]) (H1 : Blk w b1 3 [v3]) (H2 : Blk w b2 26 [v4]) :
    CallsD Try.prog 73 #[.pointer (some ⟨b0, 0, none⟩), .pointer (some ⟨b1, 0, none⟩), .pointer (some ⟨b2, 0, none⟩)] (.panicking (flt a c)) w fun e u' w' =>
      e = .returned (.tuple #[]) ∧ u' = .panicking [{ v := .iface 127 (.agg #[.int .i64 (a : Int), .int .i64 (c : Int)]), recovered := true }] ∧
      Blk w' b0 25 [.int .i64 0, .string ⟨#[]⟩, .slice none 0 0] ∧ Blk w' b1 3 [.int .i64 (a : Int)] ∧ Blk w' b2 26 [.int .i64 (c : Int)] ∧
      Keep (fun k => k = b0 ∨ k = b1 ∨ k = b2) w w' := by
  refine callsD_of_wpS Try.func73 rfl fun c₀ cs hu => ?_
  unfold flt at hu
  simp only [Try.ntmps73, List.size_toArray, List.length_cons, List.length_nil, Nat.reduceAdd, Nat.reduceSub, Array.replicate_succ, Array.replicate_zero, List.push_toArray, List.append_toArray, List.nil_append, List.cons_append]
  apply wpS_seq
  apply wpS_region
  simp [wpOpsS, go_sem, recoverD, hu, Exit.thenS]
  have n1 := neq_nil 127 (.agg #[.int .i64 (a : Int), .int .i64 (c : Int)])
  have n2 := assert_fault (.agg #[.int .i64 (a : Int), .int .i64 (c : Int)])
  have Hu := hid hu
  clear hu
  refine wpS_of_wp ?_
  go_wp2_with fail
  obtain ⟨W, hW⟩ : ∃ W, W = w.alloc (.cells #[.int .i64 (a : Int), .int .i64 (c : Int)] 127) := ⟨_, rfl⟩
  have l0 := H0.lt
  have l1 := H1.lt
  have l2 := H2.lt
  have K0 : Blk W b0 25 [v0, v1, v2] := by rw [hW]; exact H0.alloc _
  have K1 : Blk W b1 3 [v3] := by rw [hW]; exact H1.alloc _
  have K2 : Blk W b2 26 [v4] := by rw [hW]; exact H2.alloc _
  have K3 : Blk W w.heap.size 127 [.int .i64 (a : Int), .int .i64 (c : Int)] := by rw [hW]; exact Blk.new w _ [_, _]
  have hK : Keep (fun k => k = b0 ∨ k = b1 ∨ k = b2) w W := by rw [hW]; exact (Keep.refl _ w).alloc _
  rw [← hW]
  clear hW
  have g0 := K0.cellAt (i := 0) rfl
  have g1 := K0.cellAt (i := 1) rfl
  have g2 := K0.cellAt (i := 2) rfl
  have q0 := K0.frozen 0
  have q1 := K0.frozen 1
  have q2 := K0.frozen 2
  have g3 := K1.cellAt (i := 0) rfl
  have q3 := K1.frozen 0
  have g4 := K2.cellAt (i := 0) rfl
  have q4 := K2.frozen 0
  have g5 := K3.cellAt (i := 0) rfl
  have g6 := K3.cellAt (i := 1) rfl
  have e1 : ¬ b0 = b1 := by omega
  have e2 : ¬ b0 = b2 := by omega
  have e3 : ¬ b1 = b2 := by omega
  have e4 : ¬ b1 = b0 := by omega
  have e5 : ¬ b2 = b0 := by omega
  have e6 : ¬ b2 = b1 := by omega
  have e7 : ¬ b0 = w.heap.size := by omega
  have e8 : ¬ b1 = w.heap.size := by omega
  have e9 : ¬ b2 = w.heap.size := by omega
  go_region
  have B0 := (((((K0.set 0 (.int .i64 0)).set 1 (.string ⟨#[]⟩)).set 2 (.slice none 0 0)).far (p := ⟨b1, 0, none⟩) e1 (.int .i64 (a : Int))).far (p := ⟨b2, 0, none⟩) e2 (.int .i64 (c : Int))).drew
  have B1 := (((((K1.far (p := ⟨b0, 0, none⟩) e4 (.int .i64 0)).far (p := ⟨b0, 1, none⟩) e4 (.string ⟨#[]⟩)).far (p := ⟨b0, 2, none⟩) e4 (.slice none 0 0)).set 0 (.int .i64 (a : Int))).far (p := ⟨b2, 0, none⟩) e3 (.int .i64 (c : Int))).drew
  have B2 := (((((K2.far (p := ⟨b0, 0, none⟩) e5 (.int .i64 0)).far (p := ⟨b0, 1, none⟩) e5 (.string ⟨#[]⟩)).far (p := ⟨b0, 2, none⟩) e5 (.slice none 0 0)).far (p := ⟨b1, 0, none⟩) e6 (.int .i64 (a : Int))).set 0 (.int .i64 (c : Int))).drew
  have hK2 := (((((hK.setCell (p := ⟨b0, 0, none⟩) (.inl (.inl rfl)) (.int .i64 0)).setCell (p := ⟨b0, 1, none⟩) (.inl (.inl rfl)) (.string ⟨#[]⟩)).setCell (p := ⟨b0, 2, none⟩) (.inl (.inl rfl)) (.slice none 0 0)).setCell (p := ⟨b1, 0, none⟩) (.inl (.inr (.inl rfl))) (.int .i64 (a : Int))).setCell (p := ⟨b2, 0, none⟩) (.inl (.inr (.inr rfl))) (.int .i64 (c : Int))).drew
  exact ⟨rfl, _, rfl, _, by simp [results, Try.results73], rfl, rfl, B0, B1, B2, hK2⟩

set_option maxHeartbeats 1000000 in
theorem catch_idle (b0 b1 b2 : Nat) (w : World) :
    CallsD Try.prog 73 #[.pointer (some ⟨b0, 0, none⟩), .pointer (some ⟨b1, 0, none⟩), .pointer (some ⟨b2, 0, none⟩)] .returning w fun e u' w' => e = .returned (.tuple #[]) ∧ u' = .returning ∧ w' = w := by
  refine callsD_of_wpS Try.func73 rfl fun c₀ cs hu => ?_
  simp only [Try.ntmps73, List.size_toArray, List.length_cons, List.length_nil, Nat.reduceAdd, Nat.reduceSub, Array.replicate_succ, Array.replicate_zero, List.push_toArray, List.append_toArray, List.nil_append, List.cons_append]
  apply wpS_seq
  apply wpS_region
  simp [wpOpsS, go_sem, recoverD, hu, Exit.thenS]
  have n1 := eq_nil_nil
  have Hu := hid hu
  clear hu
  refine wpS_of_wp ?_
  go_wp2_with fail
  have hc : ({ c₀ with mode := .returning } : Frame) = c₀ := by have := Hu.out; cases c₀; simp_all
  exact ⟨rfl, .returning, by rw [hc], _, by simp [results, Try.results73], rfl, rfl, rfl⟩

/-- What is told at the end: nothing may stand behind the expression. -/
def fin (s : ByteArray) : R ET → R ET
  | .ok t j => if j < s.size then .bad j 3 else .ok t j
  | .bad a c => .bad a c
theorem parse_cases (s : ByteArray) (hs : s.size ≤ 256) : ∃ r, lev s (8 * s.size + 20) 0 0 0 = some r ∧ parse s = fin s r := by
  cases hl : lev s (8 * s.size + 20) 0 0 0 with
  | none => exact absurd hl ((lev_ends s _).1 0 0 0 (by omega) (by omega) (by omega))
  | some r =>
    refine ⟨r, rfl, ?_⟩
    unfold parse
    rw [if_neg (by omega), hl]
    cases r <;> rfl

/-- What Parse gives. -/
def Parsed (w : World) : R ET → Ending → World → Prop
  | .ok t _, e, w' => ∃ v, e = .returned (.tuple #[v, .int .i64 0, .int .i64 0]) ∧ ExAt w' (fun k => w.heap.size ≤ k) t v ∧ Keep (fun _ => False) w w'
  | .bad a c, e, w' => e = .returned (.tuple #[.agg #[.int .i64 0, .string ⟨#[]⟩, .slice none 0 0], .int .i64 (a : Int), .int .i64 (c : Int)]) ∧ Keep (fun _ => False) w w'

set_option maxHeartbeats 1000000 in
theorem Parse_any (s : ByteArray) (hs : s.size ≤ 140737488351232) (w : World) : Calls Try.prog 14 #[.string s] w fun e w' => Parsed w (parse s) e w' := by
  by_cases hlong : 256 < s.size
  · have hp : parse s = .bad 0 2 := by unfold parse; rw [if_pos hlong]
    rw [hp]
    clear hp
    go_enter Try.func14, Try.ntmps14
    go_wp2_with fail
    refine bodyPost_ret (v := .tuple #[.agg #[.int .i64 0, .string ⟨#[]⟩, .slice none 0 0], .int .i64 0, .int .i64 2]) ?_ rfl ?_
    · simp [results, Try.results14, go_sem]
    · exact ⟨rfl, (((Keep.refl _ w).alloc _).alloc _).alloc _⟩
  · obtain ⟨r, hr, hp⟩ := parse_cases s (by omega)
    have Hr := hid hr
    rw [hp]
    have hmf := hmf
    clear hr hp
    go_enter_defers Try.func14, Try.ntmps14
    go_wp2_with fail
    obtain ⟨W, hW⟩ : ∃ W, W = ((((w.alloc (.cells #[.int .i64 0, .string ⟨#[]⟩, .slice none 0 0] 25)).alloc (.cells #[.int .i64 0] 3)).alloc (.cells #[.int .i64 0] 26)).alloc (.cells #[.string s, .int .i64 0, .int .i64 0] 131)) := ⟨_, rfl⟩
    have B0 : Blk W w.heap.size 25 [.int .i64 0, .string ⟨#[]⟩, .slice none 0 0] := by rw [hW]; exact (((Blk.new w _ [_, _, _]).alloc _).alloc _).alloc _
    have B1 : Blk W (w.heap.size + 1) 3 [.int .i64 0] := by rw [hW]; exact ((newAt (by simp) _ [_]).alloc _).alloc _
    have B2 : Blk W (w.heap.size + 1 + 1) 26 [.int .i64 0] := by rw [hW]; exact (newAt (by simp) _ [_]).alloc _
    have B3 : PAt W (w.heap.size + 1 + 1 + 1) s 0 0 := by rw [hW]; exact newAt (by simp) _ [_, _, _]
    have hK : Keep (fun _ => False) w W := by rw [hW]; exact ((((Keep.refl _ w).alloc _).alloc _).alloc _).alloc _
    have hsz : W.heap.size = w.heap.size + 1 + 1 + 1 + 1 := by rw [hW]; simp
    rw [← hW]
    have Hsz := hid (show w.heap.size + 4 ≤ W.heap.size by omega)
    clear hW hsz
    refine ((all_ok s (by omega) (8 * s.size + 20)).1 _ (Nat.le_refl _) 0 (by decide) (w.heap.size + 1 + 1 + 1) 0 0 r W B3 (by omega) (by omega) Hr.out).mono ?_
    rintro e w1 h1
    have n0 : ¬ w.heap.size = w.heap.size + 1 + 1 + 1 := by omega
    have n1 : ¬ w.heap.size + 1 = w.heap.size + 1 + 1 + 1 := by omega
    have n2 : ¬ w.heap.size + 1 + 1 = w.heap.size + 1 + 1 + 1 := by omega
    cases r with
    | bad a c =>
      obtain ⟨rfl, hK1⟩ := h1
      have C0 := B0.keep hK1 n0
      have C1 := B1.keep hK1 n1
      have C2 := B2.keep hK1 n2
      go_wp2_with fail
      refine leaves_cons (f := 73) (args := #[.pointer (some ⟨w.heap.size, 0, none⟩), .pointer (some ⟨w.heap.size + 1, 0, none⟩), .pointer (some ⟨w.heap.size + 1 + 1, 0, none⟩)]) (by simp) (by simp [go_sem]) ?_
      refine (catch_panicking w.heap.size (w.heap.size + 1) (w.heap.size + 1 + 1) (by omega) (by omega) a c _ _ _ _ _ _ C0 C1 C2).mono ?_
      rintro e u' w2 ⟨rfl, rfl, D0, D1, D2, hK2⟩
      have g0 := D0.cellAt (i := 0) rfl
      have g1 := D0.cellAt (i := 1) rfl
      have g2 := D0.cellAt (i := 2) rfl
      have g3 := D1.cellAt (i := 0) rfl
      have g4 := D2.cellAt (i := 0) rfl
      have hKf : Keep (fun _ => False) w w2 := (hK.trans hK1 (fun k (hk : k = _) => .inr (by omega))).trans hK2 (fun k hk => .inr (by omega))
      refine ⟨.tuple #[.agg #[.int .i64 0, .string ⟨#[]⟩, .slice none 0 0], .int .i64 (a : Int), .int .i64 (c : Int)], ?_, rfl, hKf⟩
      simp [results, Try.results14, go_sem, g0, g1, g2, g3, g4]
    | ok t j =>
      obtain ⟨v, rfl, hE, hP, hK1⟩ := h1
      obtain ⟨k4, wd4, A4, m4, c4, rfl⟩ := hE.form
      have hsz1 := hK1.size
      have Hsz2 := Hsz.out
      have C0 := B0.keep hK1 n0
      have C1 := B1.keep hK1 n1
      have C2 := B2.keep hK1 n2
      have g0 := C0.cellAt (i := 0) rfl
      have g1 := C0.cellAt (i := 1) rfl
      have g2 := C0.cellAt (i := 2) rfl
      have q0 := C0.frozen 0
      have q1 := C0.frozen 1
      have q2 := C0.frozen 2
      have c1 := hP.cellAt (i := 1) rfl
      have hfw := (lev_forward s _).1 _ _ _ _ _ (by omega) Hr.out
      obtain ⟨D0, hKs⟩ := put3 C0 (.int .i64 k4) (.string wd4) (.slice A4 m4 c4)
      have Hfin := fun e w' => show Parsed w (fin s (.ok t j)) e w' = Parsed w (if j < s.size then .bad j 3 else .ok t j) e w' from rfl
      have HFin := hid Hfin
      clear Hfin
      by_cases hj : j < s.size
      · go_wp2_with fail
        refine (wrong_any (w.heap.size + 1 + 1 + 1) s j 0 3 _ (hP.keep hKs (fun e => n0 e.symm))).mono ?_
        rintro e w2 ⟨rfl, rfl⟩
        go_wp2_with fail
        refine leaves_cons (f := 73) (args := #[.pointer (some ⟨w.heap.size, 0, none⟩), .pointer (some ⟨w.heap.size + 1, 0, none⟩), .pointer (some ⟨w.heap.size + 1 + 1, 0, none⟩)]) (by simp) (by simp [go_sem]) ?_
        refine (catch_panicking w.heap.size (w.heap.size + 1) (w.heap.size + 1 + 1) (by omega) (by omega) j 3 _ _ _ _ _ _ D0 (C1.keep hKs (fun e => by omega)) (C2.keep hKs (fun e => by omega))).mono ?_
        rintro e u' w3 ⟨rfl, rfl, E0, E1, E2, hK2⟩
        have g0 := E0.cellAt (i := 0) rfl
        have g1 := E0.cellAt (i := 1) rfl
        have g2 := E0.cellAt (i := 2) rfl
        have g3 := E1.cellAt (i := 0) rfl
        have g4 := E2.cellAt (i := 0) rfl
        have hKf : Keep (fun _ => False) w w3 := ((hK.trans hK1 (fun k (hk : k = _) => .inr (by omega))).trans hKs (fun k (hk : k = _) => .inr (by omega))).trans hK2 (fun k hk => .inr (by omega))
        refine ⟨.tuple #[.agg #[.int .i64 0, .string ⟨#[]⟩, .slice none 0 0], .int .i64 (j : Int), .int .i64 3], ?_, ?_⟩
        · simp [results, Try.results14, go_sem, g0, g1, g2, g3, g4]
        · show Parsed w (fin s (.ok t j)) _ _
          rw [HFin.out, if_pos hj]
          exact ⟨rfl, hKf⟩
      · have D1 := C1.keep hKs (fun e => by omega)
        have D2 := C2.keep hKs (fun e => by omega)
        have x0 := D0.cellAt (i := 0) rfl
        have x1 := D0.cellAt (i := 1) rfl
        have x2 := D0.cellAt (i := 2) rfl
        have y0 := D0.frozen 0
        have y1 := D0.frozen 1
        have y2 := D0.frozen 2
        have x3 := D1.cellAt (i := 0) rfl
        have y3 := D1.frozen 0
        have x4 := D2.cellAt (i := 0) rfl
        have y4 := D2.frozen 0
        go_wp2_with fail
        refine leaves_cons (f := 73) (args := #[.pointer (some ⟨w.heap.size, 0, none⟩), .pointer (some ⟨w.heap.size + 1, 0, none⟩), .pointer (some ⟨w.heap.size + 1 + 1, 0, none⟩)]) (by simp) (by simp [go_sem]) ?_
        refine (catch_idle _ _ _ _).mono ?_
        rintro e u' w3 ⟨rfl, rfl, rfl⟩
        obtain ⟨E0, hK3⟩ := put3 D0 (.int .i64 k4) (.string wd4) (.slice A4 m4 c4)
        have F0 := (E0.far (p := ⟨w.heap.size + 1, 0, none⟩) (by simp) (.int .i64 0)).far (p := ⟨w.heap.size + 1 + 1, 0, none⟩) (by show ¬ w.heap.size = w.heap.size + 1 + 1; omega) (.int .i64 0)
        have F1 := ((D1.keep hK3 (fun e => by omega)).set 0 (.int .i64 0)).far (p := ⟨w.heap.size + 1 + 1, 0, none⟩) (by simp) (.int .i64 0)
        have F2 := ((D2.keep hK3 (fun e => by omega)).far (p := ⟨w.heap.size + 1, 0, none⟩) (by show ¬ w.heap.size + 1 + 1 = w.heap.size + 1; omega) (.int .i64 0)).set 0 (.int .i64 0)
        have hKe := (((hKs.mono (S' := fun k => k < W.heap.size) (fun k _ (h : k = _) => by omega)).trans' (hK3.mono (fun k _ (h : k = _) => by omega))).setCell (p := ⟨w.heap.size + 1, 0, none⟩) (.inl (by show w.heap.size + 1 < W.heap.size; omega)) (.int .i64 0)).setCell (p := ⟨w.heap.size + 1 + 1, 0, none⟩) (.inl (by show w.heap.size + 1 + 1 < W.heap.size; omega)) (.int .i64 0)
        have hKx := (((hK.trans hK1 (fun k (h : k = _) => .inr (by omega))).trans hKs (fun k (h : k = _) => .inr (by omega))).trans hK3 (fun k (h : k = _) => .inr (by omega)))
        have hKy := (hKx.setCell (p := ⟨w.heap.size + 1, 0, none⟩) (.inr (by simp)) (.int .i64 0)).setCell (p := ⟨w.heap.size + 1 + 1, 0, none⟩) (.inr (by show w.heap.size ≤ w.heap.size + 1 + 1; omega)) (.int .i64 0)
        have g0 := F0.cellAt (i := 0) rfl
        have g1 := F0.cellAt (i := 1) rfl
        have g2 := F0.cellAt (i := 2) rfl
        have g3 := F1.cellAt (i := 0) rfl
        have g4 := F2.cellAt (i := 0) rfl
        refine ⟨.tuple #[.agg #[.int .i64 k4, .string wd4, .slice A4 m4 c4], .int .i64 0, .int .i64 0], ?_, ?_⟩
        · simp only [results, Try.results14]
          simp [go_sem, g0, g1, g2, g3, g4]
        · show Parsed w (fin s (.ok t j)) _ _
          rw [HFin.out, if_neg hj]
          exact ⟨_, rfl, ExAt.mono (fun k _ hk => by omega) (ExAt.keep hKe (fun k hk (h : k < W.heap.size) => by omega) hE), hKy⟩
end Ex
end Go.Proofs.Ytfgkcifkfokoiaa
