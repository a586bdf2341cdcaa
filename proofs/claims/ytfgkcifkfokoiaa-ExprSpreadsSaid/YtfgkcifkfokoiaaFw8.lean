/- The walk through Parse of beadleref14: it gives the tree of the text, or the place and the number of the error, as parsing in plain Lean does. -/
import Derived.Test.YtfgkcifkfokoiaaFw7
set_option linter.unusedVariables false
set_option linter.unusedSimpArgs false
namespace Go.Proofs.Ytfgkcifkfokoiaa
open Go.RowKit
namespace Ex
/-- The tree's object and its own row of nodes. -/
def TOwn (base : Nat) (w : World) (TB : Nat) (rt : Int) (nv : Value) (ns : List Nd) : Prop := base ≤ TB ∧ Blk w TB 35 [nv, .int .i64 rt] ∧ ∃ xs, w.ownsRow base 140 3 nv ns.length xs ∧ NdsAt (fun _ => False) w ns xs
theorem TOwn.trd {base : Nat} {w : World} {TB : Nat} {rt : Int} {nv : Value} {ns : List Nd} (h : TOwn base w TB rt nv ns) : TRd w TB rt ns := by
  obtain ⟨h0, h1, xs, h2, h3⟩ := h
  exact ⟨nv, xs, h1, Own.rd h2 (fun _ _ => True.intro), h3⟩
theorem TAt.town {F : Nat → Prop} {base : Nat} {w : World} {TB : Nat} {nv : Value} {ns : List Nd} (h : TAt F w TB nv ns) (hb : base ≤ TB) (ho : ∀ k, nv.ownBlock = some k → base ≤ k) (rt : Int) : TOwn base (w.setCell ⟨TB, 1, none⟩ (.int .i64 rt)) TB rt nv ns := by
  obtain ⟨h1, xs, h2, h3⟩ := h
  have hK := (Keep.refl (· = TB) w).put 1 (.int .i64 rt)
  exact ⟨hb, h1.set 1 _, xs, Own.lift (Own.keep h2 hK (fun k hk => Own.ne h2 h1 (by decide) k hk)) ho, h3.turn hK (fun k hk => hk.1.ne h1 (by decide)) (fun _ _ h => h)⟩
/-- What Parse of the reference gives: a tree, a place, a number. -/
structure QF (s : ByteArray) (w w' : World) (e : Ending) (TB pl code : Nat) : Prop where
  ending : e = .returned (.tuple #[.pointer (some ⟨TB, 0, none⟩), .int .i64 (pl : Int), .int .i64 (code : Int)])
  keep : Keep (fun _ => False) w w'
  ok : code = 0 → pl = 0 ∧ ∃ t j n nv ns, parse s = .ok t j ∧ TOwn w.heap.size w' TB ((n : Nat) : Int) nv ns ∧ Rep ns t n ∧ ns.length ≤ 512
  bad : code ≠ 0 → parse s = .bad pl code
  small : code ≤ 5
set_option maxRecDepth 100000 in
set_option maxHeartbeats 1000000 in
theorem refParse_any (s : ByteArray) (hs : s.size ≤ 140737488351232) (w : World) : Calls Try.prog 15 #[.string s] w fun e w' => ∃ TB pl code, QF s w w' e TB pl code := by
  by_cases hlong : 256 < s.size
  · have hp : parse s = .bad 0 2 := by unfold parse; rw [if_pos hlong]
    have Hp := hid hp
    clear hp
    go_enter Try.func15, Try.ntmps15
    go_wp2_with fail
    refine bodyPost_ret (v := .tuple #[.pointer (some ⟨w.heap.size, 0, none⟩), .int .i64 0, .int .i64 2]) ?_ rfl ?_
    · simp [results, Try.results15, go_sem]
    · exact ⟨w.heap.size, 0, 2, rfl, (Keep.refl _ w).alloc _, fun h => absurd h (by decide), fun _ => Hp.out, by decide⟩
  · obtain ⟨r, hr, hp⟩ := parse_cases s (by omega)
    have Hr := hid hr
    have Hp := hid hp
    clear hr hp
    go_enter Try.func15, Try.ntmps15
    go_wp2_with fail
    obtain ⟨W, hW⟩ : ∃ W, W = ((w.alloc (.cells #[.slice none 0 0, .int .i64 0] 35)).alloc (.cells #[.string s, .int .i64 0, .int .i64 0, .int .i64 0, .int .i64 0] 136)) := ⟨_, rfl⟩
    have B0 : Blk W w.heap.size 35 [.slice none 0 0, .int .i64 0] := by rw [hW]; exact (Blk.new w _ [_, _]).alloc _
    have B1 : RAt W (w.heap.size + 1) s 0 0 0 0 := by rw [hW]; exact newAt (by simp) _ [_, _, _, _, _]
    have hK : Keep (fun _ => False) w W := by rw [hW]; exact ((Keep.refl _ w).alloc _).alloc _
    have hsz : W.heap.size = w.heap.size + 1 + 1 := by rw [hW]; simp
    rw [← hW]
    have Hsz := hid (show w.heap.size + 2 ≤ W.heap.size by omega)
    clear hW hsz
    have hT0 : TAt (fun _ => False) W w.heap.size (.slice none 0 0) [] := ⟨B0, [], World.ownsRow_nil _ _ _ _, rfl⟩
    refine ((RLev_any s (by omega) (8 * s.size + 21) (8 * s.size + 20) (by omega)) (fun _ => False) 0 (by decide) (w.heap.size + 1) w.heap.size 0 0 r _ [] W (fun _ h => h.elim) B1 hT0 (by omega) (by omega) (by simp) Hr.out).mono ?_
    rintro e w1 h1
    have hKx : ∀ {w2 : World} {S : Nat → Prop}, Keep (RS (w.heap.size + 1) w.heap.size (.slice none 0 0)) W w2 → Keep (fun _ => False) w w2 := by
      intro w2 _ h
      refine hK.trans h ?_
      rintro k (hk | hk | hk)
      · exact .inr (by omega)
      · exact .inr (by omega)
      · cases hk
    cases r with
    | bad a c =>
      obtain ⟨v, P, ms, nv, rfl, hL⟩ := h1
      have hc := (lev_bad s _).1 _ _ _ _ _ Hr.out
      have HKL := hid (hKx (S := fun _ => False) hL.keep)
      have c3 := hL.rd.cellAt (i := 3) rfl
      have c4 := hL.rd.cellAt (i := 4) rfl
      have tc : ((c : Int) == 0) = false := by simpa using (by omega : ¬ (c : Int) = 0)
      have tc' : ((c : Int) != 0) = true := by simpa using (by omega : ¬ (c : Int) = 0)
      clear hKx hK hT0 B0 B1 hL
      go_wp2_with fail
      go_region_held3 (fun w' => w'.cell? ⟨w.heap.size + 1, 3, none⟩ = some (.int .i64 (a : Int)) ∧ w'.cell? ⟨w.heap.size + 1, 4, none⟩ = some (.int .i64 (c : Int))) (go_keep) (fail)
      all_goals (go_wp2_with fail)
      all_goals
        refine bodyPost_ret (v := .tuple #[.pointer (some ⟨w1.heap.size, 0, none⟩), .int .i64 (a : Int), .int .i64 (c : Int)]) ?_ rfl ?_
        · simp [results, Try.results15, go_sem]
        · exact ⟨w1.heap.size, a, c, rfl, by first | exact (HKL.out.alloc _).drew | exact (HKL.out.drew).alloc _ | exact HKL.out.alloc _ | exact (HKL.out.alloc _).drewN _, fun h => absurd h (by omega), fun _ => Hp.out, by omega⟩
    | ok t j =>
      obtain ⟨n, ms, nv, rfl, hG⟩ := h1
      have hfw := (lev_forward s _).1 _ _ _ _ _ (by omega) Hr.out
      have HKG := hid (hKx (S := fun _ => False) hG.keep)
      have c1 := hG.rd.cellAt (i := 1) rfl
      have c4 := hG.rd.cellAt (i := 4) rfl
      by_cases hlt : j < s.size
      · have Hp2 := hid (show parse s = .bad j 3 by rw [Hp.out]; show (if j < s.size then _ else _) = _; rw [if_pos hlt])
        have hR := hG.rd
        clear hKx hK hT0 B0 B1 hG
        go_wp2_with fail
        refine (fail_any (w.heap.size + 1) s j 0 j 3 _ hR).mono ?_
        rintro e w2 ⟨rfl, hR2, hK2⟩
        have c3 := hR2.cellAt (i := 3) rfl
        have c4 := hR2.cellAt (i := 4) rfl
        have HK3 := hid (HKG.out.trans hK2 (fun k (hk : k = _) => .inr (by omega)))
        clear hR hR2 hK2
        go_wp2_with fail
        go_region_held3 (fun w' => w'.cell? ⟨w.heap.size + 1, 3, none⟩ = some (.int .i64 (j : Int)) ∧ w'.cell? ⟨w.heap.size + 1, 4, none⟩ = some (.int .i64 3)) (go_keep) (fail)
        all_goals (go_wp2_with fail)
        all_goals
          refine bodyPost_ret (v := .tuple #[.pointer (some ⟨w2.heap.size, 0, none⟩), .int .i64 (j : Int), .int .i64 3]) ?_ rfl ?_
          · simp [results, Try.results15, go_sem]
          · exact ⟨w2.heap.size, j, 3, rfl, by first | exact (HK3.out.alloc _).drew | exact (HK3.out.drew).alloc _ | exact HK3.out.alloc _ | exact (HK3.out.alloc _).drewN _, fun h => absurd h (by decide), fun _ => Hp2.out, by decide⟩
      · have Hp2 := hid (show parse s = .ok t j by rw [Hp.out]; show (if j < s.size then _ else _) = _; rw [if_neg hlt])
        have hfz := hG.tr.blk.frozen 1
        have hcz := hG.tr.blk.cellAt (i := 1) rfl
        have hto := hid (hG.tr.town (base := w.heap.size) (Nat.le_refl _) (fun k hk => (hG.own k hk).elim (fun h => by cases h) (fun h => by have := Hsz.out; omega)) (n : Int))
        have HKT := hid (HKG.out.setCell (p := ⟨w.heap.size, 1, none⟩) (.inr (Nat.le_refl _)) (.int .i64 (n : Int)))
        have HRep := hid hG.rep
        have hbd := hG.bd
        clear hKx hK hT0 B0 B1 hG
        go_wp2_with fail
        refine bodyPost_ret (v := .tuple #[.pointer (some ⟨w.heap.size, 0, none⟩), .int .i64 0, .int .i64 0]) ?_ rfl ?_
        · simp [results, Try.results15, go_sem]
        · exact ⟨w.heap.size, 0, 0, rfl, HKT.out, fun _ => ⟨rfl, t, j, n, nv, _, Hp2.out, hto.out, HRep.out, by rw [List.nil_append]; omega⟩, fun h => absurd rfl h, by decide⟩
end Ex
end Go.Proofs.Ytfgkcifkfokoiaa
