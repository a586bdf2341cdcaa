/- The walks through alt, all, item, atom, brackets of the parser of package expr, and all of them together: each does what reading in plain Lean at its level comes to, for every text of at most 256 bytes. -/
import Derived.Test.YtfgkcifkfokoiaaExW3
set_option linter.unusedVariables false
set_option linter.unusedSimpArgs false
namespace Go.Proofs.Ytfgkcifkfokoiaa
open Go.RowKit
namespace Ex

theorem lev_low {s : ByteArray} {F k i nest : Nat} {r : R ET} (hk : k < 3) (h : lev s F k i nest = some r) : ∃ F' rk, F = F' + 1 ∧ kids s F' k (if k = 2 then blanksEnd s i else i) nest = some rk ∧ r = levOf k rk := by
  cases F with
  | zero => simp [lev] at h
  | succ F' =>
    unfold lev at h
    rw [if_neg (by omega)] at h
    cases hk : kids s F' k (if k = 2 then blanksEnd s i else i) nest with
    | none => rw [hk] at h; cases h
    | some rk =>
      rw [hk] at h
      refine ⟨F', rk, rfl, hk, ?_⟩
      cases rk <;> exact (Option.some.inj h).symm

/-- What a call leaves in the world of its caller, a new variable in between. -/
theorem Post.under {w w1 : World} {p : Nat} {s : ByteArray} {nest : Nat} {r : R ET} {e : Ending} {w' : World} (h : PostE w1 p s nest r e w') (hK : Keep (· = p) w w1) : PostE w p s nest r e w' := by
  have hz := hK.size
  cases r with
  | bad a c => exact ⟨h.1, hK.trans' h.2⟩
  | ok t j =>
    obtain ⟨v, h1, h2, h3, h4⟩ := h
    exact ⟨v, h1, h2.mono (fun k _ hk => by omega), h3, hK.trans' h4⟩

set_option maxHeartbeats 400000 in
theorem alt_any (s : ByteArray) (hs : s.size ≤ 256) (F : Nat) (IH : ∀ F', F' < F → LevOK s F' (0 + 1)) (p i nest : Nat) (rk : R (List ET)) (w : World) (h : PAt w p s i nest) (hi : i ≤ s.size) (hn : nest ≤ 16)
    (hr : kids s F 0 i nest = some rk) :
    Calls Try.prog 74 #[.pointer (some ⟨p, 0, none⟩)] w fun e w' => PostE w p s nest (levOf 0 rk) e w' := by
  have hp := h.lt
  have Hr := hid hr
  clear hr
  go_enter Try.func74, Try.ntmps74
  go_wp2_with fail
  refine (join0_any s hs F IH p i nest rk _ (h.alloc _) hi hn Hr.out).mono ?_
  rintro e w1 h1
  have hK0 : Keep (· = p) w (w.alloc (.cells #[.int .i64 0, .string ⟨#[]⟩, .slice none 0 0] 25)) := (Keep.refl _ w).alloc _
  cases rk with
  | bad a c =>
    obtain ⟨rfl, hK⟩ := h1
    go_wp2_with fail
    exact ⟨rfl, rfl, hK0.trans' hK⟩
  | ok l j =>
    obtain ⟨v, rfl, hE, hP, hK⟩ := h1
    obtain ⟨k4, wd4, A4, m4, c4, rfl⟩ := hE.form
    have hres : Blk w1 w.heap.size 25 [.int .i64 0, .string ⟨#[]⟩, .slice none 0 0] := (Blk.new w _ _).keep hK (fun e => by omega)
    have g0 := hres.cellAt (i := 0) rfl
    have g1 := hres.cellAt (i := 1) rfl
    have g2 := hres.cellAt (i := 2) rfl
    have q0 := hres.frozen 0
    have q1 := hres.frozen 1
    have q2 := hres.frozen 2
    go_wp2_with fail
    obtain ⟨hres5, hK5⟩ := put3 hres (.int .i64 k4) (.string wd4) (.slice A4 m4 c4)
    have r0 := hres5.cellAt (i := 0) rfl
    have r1 := hres5.cellAt (i := 1) rfl
    have r2 := hres5.cellAt (i := 2) rfl
    refine bodyPost_ret (v := .agg #[.int .i64 k4, .string wd4, .slice A4 m4 c4]) (by simp [results, Try.results74, go_sem, r0, r1, r2]) rfl ?_
    refine ⟨_, rfl, ExAt.mono (ok := fun k => w.heap.size + 1 ≤ k) (fun k _ hk => by omega) (ExAt.keep hK5 (fun k hk e => by omega) (ExAt.mono (fun k _ hk => by simpa using hk) hE)), hP.keep hK5 (fun e => by omega), ?_⟩
    exact (hK0.trans' hK).trans hK5 (fun k hk => .inr (by omega))

set_option maxHeartbeats 400000 in
theorem all_any (s : ByteArray) (hs : s.size ≤ 256) (F : Nat) (IH : ∀ F', F' < F → LevOK s F' (1 + 1)) (p i nest : Nat) (rk : R (List ET)) (w : World) (h : PAt w p s i nest) (hi : i ≤ s.size) (hn : nest ≤ 16)
    (hr : kids s F 1 i nest = some rk) :
    Calls Try.prog 119 #[.pointer (some ⟨p, 0, none⟩)] w fun e w' => PostE w p s nest (levOf 1 rk) e w' := by
  have hp := h.lt
  have Hr := hid hr
  clear hr
  go_enter Try.func119, Try.ntmps119
  go_wp2_with fail
  refine (join1_any s hs F IH p i nest rk _ (h.alloc _) hi hn Hr.out).mono ?_
  rintro e w1 h1
  have hK0 : Keep (· = p) w (w.alloc (.cells #[.int .i64 0, .string ⟨#[]⟩, .slice none 0 0] 25)) := (Keep.refl _ w).alloc _
  cases rk with
  | bad a c =>
    obtain ⟨rfl, hK⟩ := h1
    go_wp2_with fail
    exact ⟨rfl, rfl, hK0.trans' hK⟩
  | ok l j =>
    obtain ⟨v, rfl, hE, hP, hK⟩ := h1
    obtain ⟨k4, wd4, A4, m4, c4, rfl⟩ := hE.form
    have hres : Blk w1 w.heap.size 25 [.int .i64 0, .string ⟨#[]⟩, .slice none 0 0] := (Blk.new w _ _).keep hK (fun e => by omega)
    have g0 := hres.cellAt (i := 0) rfl
    have g1 := hres.cellAt (i := 1) rfl
    have g2 := hres.cellAt (i := 2) rfl
    have q0 := hres.frozen 0
    have q1 := hres.frozen 1
    have q2 := hres.frozen 2
    go_wp2_with fail
    obtain ⟨hres5, hK5⟩ := put3 hres (.int .i64 k4) (.string wd4) (.slice A4 m4 c4)
    have r0 := hres5.cellAt (i := 0) rfl
    have r1 := hres5.cellAt (i := 1) rfl
    have r2 := hres5.cellAt (i := 2) rfl
    refine bodyPost_ret (v := .agg #[.int .i64 k4, .string wd4, .slice A4 m4 c4]) (by simp [results, Try.results119, go_sem, r0, r1, r2]) rfl ?_
    refine ⟨_, rfl, ExAt.mono (ok := fun k => w.heap.size + 1 ≤ k) (fun k _ hk => by omega) (ExAt.keep hK5 (fun k hk e => by omega) (ExAt.mono (fun k _ hk => by simpa using hk) hE)), hP.keep hK5 (fun e => by omega), ?_⟩
    exact (hK0.trans' hK).trans hK5 (fun k hk => .inr (by omega))


def idx (c : Nat) : Int := if c = 42 then 0 else if c = 43 then 1 else if c = 63 then 2 else -1
theorem idx_table : ∀ c : Nat, c < 256 → Lib.indexByte [42, 43, 63] ((c : Int).toNat.toUInt8) = idx c := by decide +kernel
theorem idx_any (c : Nat) (hc : c < 256) (w : World) : Calls Try.prog 168 #[.string ⟨#[42, 43, 63]⟩, .int .u8 (c : Nat)] w fun e w' => e = .returned (.int .i64 (idx c)) ∧ w = w' :=
  (Try.strings_IndexByte ⟨#[42, 43, 63]⟩ c w).mono fun e w' ⟨h1, h2⟩ => ⟨by rw [h1, ← idx_table c hc], h2.symm⟩
theorem idx_none {c : Nat} (h : star? c = 0) : idx c = -1 := by
  unfold star? at h
  unfold idx
  split at h
  · cases h
  · rename_i h1
    split at h
    · cases h
    · rename_i h2
      split at h
      · cases h
      · rename_i h3
        rw [if_neg h1, if_neg h2, if_neg h3]
theorem idx_some {c : Nat} (h : star? c ≠ 0) : ∃ k : Nat, idx c = k ∧ star? c = 7 + k ∧ k ≤ 2 ∧ c ≠ 0 := by
  unfold star? at h ⊢
  unfold idx
  split
  · rename_i h1; exact ⟨0, rfl, rfl, by omega, by omega⟩
  · split
    · rename_i h2; exact ⟨1, rfl, rfl, by omega, by omega⟩
    · split
      · rename_i h3; exact ⟨2, rfl, rfl, by omega, by omega⟩
      · rename_i h1 h2 h3
        rw [if_neg h1, if_neg h2, if_neg h3] at h
        exact absurd rfl h

/-- The function atom does what reading an atom with F rounds comes to. -/
def AtomOK (s : ByteArray) (F : Nat) : Prop := ∀ (p i nest : Nat) (r : R ET) (w : World), PAt w p s i nest → i ≤ s.size → nest ≤ 16 → atom s F i nest = some r →
  Calls Try.prog 167 #[.pointer (some ⟨p, 0, none⟩)] w fun e w' => PostE w p s nest r e w'

/-- What holds ahead of each sign behind an atom. -/
structure IInv (w : World) (B p : Nat) (s : ByteArray) (nest : Nat) (target : ET × Nat) (g j : Nat) (e : ET) (k : Int) (wd : ByteArray) (A : Option Addr) (n c : Nat) (wr : World) : Prop where
  blk : Blk wr B 25 [.int .i64 k, .string wd, .slice A n c]
  exp : ExAt wr (fun x => w.heap.size + 1 ≤ x ∧ x ≠ B) e (.agg #[.int .i64 k, .string wd, .slice A n c])
  res : Blk wr w.heap.size 25 [.int .i64 0, .string ⟨#[]⟩, .slice none 0 0]
  par : PAt wr p s j nest
  keep : Keep (· = p) w wr
  new : w.heap.size + 1 ≤ B
  top : j ≤ s.size
  fuel : s.size - j < g
  rest : stars s g e j = target

set_option maxHeartbeats 1000000 in
theorem item_any (s : ByteArray) (hs : s.size ≤ 256) (F : Nat) (IH : AtomOK s F) (p i nest : Nat) (r : R ET) (w : World) (h : PAt w p s i nest) (hi : i ≤ s.size) (hn : nest ≤ 16)
    (hr : lev s (F + 1) 3 i nest = some r) :
    Calls Try.prog 162 #[.pointer (some ⟨p, 0, none⟩)] w fun e w' => PostE w p s nest r e w' := by
  have hp := h.lt
  unfold lev at hr
  rw [if_pos rfl] at hr
  obtain ⟨r1, hr1⟩ : ∃ r1, atom s F i nest = some r1 := by
    cases ha : atom s F i nest with
    | none => rw [ha] at hr; cases hr
    | some r1 => exact ⟨r1, rfl⟩
  have Hr1 := hid hr1
  rw [hr1] at hr
  have Hr := hid hr
  clear hr hr1
  go_enter Try.func162, Try.ntmps162
  go_wp2_with fail
  refine (IH p i nest r1 _ (h.alloc _) hi hn Hr1.out).mono ?_
  rintro e w1 h1
  have hK0 : Keep (· = p) w (w.alloc (.cells #[.int .i64 0, .string ⟨#[]⟩, .slice none 0 0] 25)) := (Keep.refl _ w).alloc _
  cases r1 with
  | bad a c =>
    obtain ⟨rfl, hK⟩ := h1
    obtain rfl : .bad a c = r := Option.some.inj Hr.out
    go_wp2_with fail
    exact ⟨rfl, rfl, hK0.trans' hK⟩
  | ok e1 j1 =>
    obtain ⟨v, rfl, hE, hP, hK⟩ := h1
    obtain ⟨k4, wd4, A4, m4, c4, rfl⟩ := hE.form
    have hfw := (lev_forward s F).2.2 _ _ _ _ hi Hr1.out
    have hz1 := hK.size
    simp only [World.size_alloc] at hz1
    go_wp2_with fail
    refine (blanks_any p s j1 nest _ (hP.alloc _) (by omega) hfw.2.1).mono ?_
    rintro e w2 ⟨rfl, hP2, hK2⟩
    have hz2 := hK2.size
    simp only [World.size_alloc] at hz2
    have hble := blanksEnd_le s j1 hfw.2.1
    go_wp2_with fail
    refine (here_any p s (blanksEnd s j1) nest _ hP2 (by omega)).mono ?_
    rintro e w3 ⟨rfl, n3, rfl⟩
    go_wp2_with fail
    refine (idx_any _ (here_byte _ _) _).mono ?_
    rintro e w3 ⟨rfl, rfl⟩
    go_wp2_with fail
    have Hz := hid hz1
    go_loopg [4] (s.size - blanksEnd s j1 + 1) (fun g v wr => ∃ j e k wd A n c, v = .int .i64 (idx (here s j)) ∧ IInv w w1.heap.size p s nest (stars s (s.size - blanksEnd s j1 + 1) e1 (blanksEnd s j1)) g j e k wd A n c wr)
    case atStart =>
      refine ⟨blanksEnd s j1, e1, k4, wd4, A4, m4, c4, rfl, ?_⟩
      have hKa : Keep (fun _ => False) w1 (w1.alloc (.cells #[.int .i64 k4, .string wd4, .slice A4 m4 c4] 25)) := (Keep.refl _ w1).alloc _
      have hE1 := ExAt.mono (ok' := fun x => w.heap.size + 1 ≤ x ∧ x ≠ w1.heap.size) (fun k hk hk' => ⟨by simpa using hk', by omega⟩) hE
      refine { blk := ((Blk.new w1 _ [_, _, _]).keep hK2 (fun e => by omega)).drewN _, exp := ?_, res := ?_, par := Blk.drewN hP2 _, keep := (((hK0.trans' hK).alloc _).trans' hK2).drewN _, new := by omega, top := hble, fuel := by omega, rest := rfl }
      · exact ExAt.keep (S := fun _ => False) ((Keep.refl _ w2).drewN n3) (fun _ _ h => h) (ExAt.keep hK2 (fun k hk (e : k = p) => by omega) (ExAt.keep hKa (fun _ _ h => h) hE1))
      · exact ((((Blk.new w _ [_, _, _]).keep hK (fun e => by omega)).alloc _).keep hK2 (fun e => by omega)).drewN _
    case round =>
      obtain ⟨j, e, k, wd, A, n, c, rfl, I⟩ := hrel
      have g0 := I.blk.cellAt (i := 0) rfl
      have g1 := I.blk.cellAt (i := 1) rfl
      have g2 := I.blk.cellAt (i := 2) rfl
      by_cases hst : star? (here s j) = 0
      · rw [idx_none hst]
        have hdone : stars s gk e j = (e, j) := by
          have := I.fuel
          obtain ⟨m, hm⟩ : ∃ m, gk = m + 1 := ⟨gk - 1, by omega⟩
          rw [hm, stars, if_pos hst]
        have Hd := hid (I.rest.symm.trans hdone)
        clear hdone hst
        have u0 := I.res.cellAt (i := 0) rfl
        have u1 := I.res.cellAt (i := 1) rfl
        have u2 := I.res.cellAt (i := 2) rfl
        have q0 := I.res.frozen 0
        have q1 := I.res.frozen 1
        have q2 := I.res.frozen 2
        go_wp2_with fail
        obtain ⟨hres5, hK5⟩ := put3 I.res (.int .i64 k) (.string wd) (.slice A n c)
        have r0 := hres5.cellAt (i := 0) rfl
        have r1 := hres5.cellAt (i := 1) rfl
        have r2 := hres5.cellAt (i := 2) rfl
        refine bodyPost_ret (v := .agg #[.int .i64 k, .string wd, .slice A n c]) (by simp [results, Try.results162, go_sem, r0, r1, r2]) rfl ?_
        have hr := Hr.out
        rw [Hd.out] at hr
        obtain rfl : .ok e j = r := Option.some.inj hr
        refine ⟨_, rfl, ExAt.mono (fun k _ hk => by omega) (ExAt.keep hK5 (fun k hk e => by omega) I.exp), I.par.keep hK5 (fun e => by omega), ?_⟩
        exact I.keep.trans hK5 (fun k hk => .inr (by omega))
      · obtain ⟨kk, hk1, hk2, hk3, hk4⟩ := idx_some hst
        rw [hk1]
        have hlt : j < s.size := here_lt hk4
        have hst1 : stars s gk e j = stars s (gk - 1) (.node (7 + kk) ByteArray.empty [e]) (blanksEnd s (j + 1)) := by
          have := I.fuel
          obtain ⟨m, hm⟩ : ∃ m, gk = m + 1 := ⟨gk - 1, by omega⟩
          rw [hm, stars, if_neg hst, hk2]
          rfl
        have Hst := hid (I.rest.symm.trans hst1)
        have hne : (((here s j : Nat) : Int) != 0) = true := by simp; omega
        clear hst hk1 hk2 hst1
        go_wp2_with fail
        refine (here_any p s j nest _ I.par (by omega)).mono ?_
        rintro e' w4 ⟨rfl, n4, rfl⟩
        have hB := fun o => (I.blk.drewN n4).alloc o
        have x0 := fun o => (hB o).cellAt (i := 0) rfl
        have x1 := fun o => (hB o).cellAt (i := 1) rfl
        have x2 := fun o => (hB o).cellAt (i := 2) rfl
        have f0 := fun o => (hB o).frozen 0
        have f1 := fun o => (hB o).frozen 1
        have f2 := fun o => (hB o).frozen 2
        have hPo := fun o => Blk.alloc (Blk.drewN I.par n4) o
        have y1 := fun o => (hPo o).cellAt (i := 1) rfl
        have z1 := fun o => (hPo o).frozen 1
        have hpne : ¬ p = w1.heap.size := by have := I.new; omega
        have hpne' : ¬ w1.heap.size = p := by have := I.new; omega
        clear hB hPo
        go_wp2_with fail
        have hBlt := I.blk.lt
        have hsl := I.res.lt
        have hnew := I.new
        obtain ⟨Wa, hWa⟩ : ∃ Wa, Wa = (wr.drewN n4).alloc (.cells #[.int .i64 k, .string wd, .slice A n c] 25) := ⟨_, rfl⟩
        have hKa : Keep (fun _ => False) wr Wa := by rw [hWa]; exact ((Keep.refl _ wr).drewN n4).alloc _
        have hrow : Wa.ownsRow (w.heap.size + 1) 25 3 (.slice (some ⟨wr.heap.size, 0, none⟩) 1 1) 1 [.int .i64 k, .string wd, .slice A n c] := by
          rw [hWa]; exact Own.new (wr.drewN n4) _ _ 3 1 _ rfl (by simp; omega) (by decide)
        rw [← hWa]
        clear hWa x0 x1 x2 f0 f1 f2 y1 z1
        obtain ⟨hb5, hKb⟩ := put3 (I.blk.keep hKa (fun h => h)) (.int .i64 (7 + (kk : Int))) (.string ⟨#[]⟩) (.slice (some ⟨wr.heap.size, 0, none⟩) 1 1)
        obtain ⟨Wb, hWb⟩ : ∃ Wb, Wb = ((Wa.setCell ⟨w1.heap.size, 0, none⟩ (.int .i64 (7 + (kk : Int)))).setCell ⟨w1.heap.size, 1, none⟩ (.string ⟨#[]⟩)).setCell ⟨w1.heap.size, 2, none⟩ (.slice (some ⟨wr.heap.size, 0, none⟩) 1 1) := ⟨_, rfl⟩
        rw [← hWb] at hb5 hKb ⊢
        clear hWb
        have hP6 : PAt (Wb.setCell ⟨p, 1, none⟩ (.int .i64 ((j : Int) + 1))) p s (j + 1) nest := Blk.set (Blk.keep (Blk.keep I.par hKa (fun h => h)) hKb (fun e => hpne e)) 1 _
        have hKc : Keep (· = p) Wb (Wb.setCell ⟨p, 1, none⟩ (.int .i64 ((j : Int) + 1))) := (Keep.refl _ Wb).put 1 _
        refine (blanks_any p s (j + 1) nest _ hP6 (by omega) (by omega)).mono ?_
        rintro e' w6 ⟨rfl, hP7, hK7⟩
        go_wp2_with fail
        refine (here_any p s (blanksEnd s (j + 1)) nest _ hP7 (by omega)).mono ?_
        rintro e' w7 ⟨rfl, n7, rfl⟩
        go_wp2_with fail
        refine (idx_any _ (here_byte _ _) _).mono ?_
        rintro e' w7 ⟨rfl, rfl⟩
        go_wp2_with fail
        have hz8 := hKa.size
        have hz9 := hKb.size
        have hKd := hKc.trans' hK7
        have hfu := I.fuel
        have hbg := blanksEnd_ge s (j + 1)
        have hbl := blanksEnd_le s (j + 1) (by omega)
        go_roundg (gk - 1)
        case measure => omega
        case rel =>
          refine ⟨blanksEnd s (j + 1), .node (7 + kk) ByteArray.empty [e], 7 + kk, ⟨#[]⟩, some ⟨wr.heap.size, 0, none⟩, 1, 1, rfl, ?_⟩
          refine { blk := (hb5.keep hKd (fun e => hpne' e)).drewN _, exp := ?_, res := (((I.res.keep hKa (fun h => h)).keep hKb (fun e => by omega)).keep hKd (fun e => by omega)).drewN _, par := Blk.drewN hP7 _, keep := ?_, new := hnew, top := hbl, fuel := by omega, rest := Hst.out.symm }
          · refine ExAt.over (k := 7 + kk) (cs := [.int .i64 k, .string wd, .slice A n c]) ?_ ?_
            · exact Rd.keep (S := fun _ => False) (Rd.keep (Rd.keep (Own.rd hrow (fun x hx => ⟨by have := ob hx; omega, by have := ob hx; omega⟩)) hKb (fun x hx (e : x = _) => hx.2 e)) hKd (fun x hx (e : x = p) => by omega)) ((Keep.refl _ w6).drewN n7) (fun _ _ h => h)
            · exact KsAt.keep (S := fun _ => False) ((Keep.refl _ w6).drewN n7) (fun _ _ h => h) (KsAt.keep hKd (fun x hx (e : x = p) => by omega) (KsAt.keep hKb (fun x hx (e : x = _) => hx.2 e) (KsAt.keep hKa (fun _ _ h => h) (KsAt.one I.exp))))
          · exact (((I.keep.trans hKa (fun _ h => h.elim)).trans hKb (fun x (hx : x = _) => .inr (by omega))).trans' hKd).drewN _
end Ex
end Go.Proofs.Ytfgkcifkfokoiaa
