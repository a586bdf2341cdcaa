/- The walks through the loops of the parser of package expr: parts between a sign (join), items behind one another (seq). They come to what reading in plain Lean comes to, if their parts do. -/
import Derived.Test.YtfgkcifkfokoiaaExW2
set_option linter.unusedVariables false
set_option linter.unusedSimpArgs false
namespace Go.Proofs.Ytfgkcifkfokoiaa
open Go.RowKit
namespace Ex

abbrev PostE (w : World) (p : Nat) (s : ByteArray) (nest : Nat) : R ET → Ending → World → Prop := Post w p s nest (fun w' t v => ExAt w' (fun k => w.heap.size ≤ k) t v)
def fnOf (k : Nat) : Nat := if k = 0 then 74 else if k = 1 then 119 else if k = 2 then 150 else 162
/-- The function of level k does what reading at that level with F rounds comes to. -/
def LevOK (s : ByteArray) (F k : Nat) : Prop := ∀ (p i nest : Nat) (r : R ET) (w : World), PAt w p s i nest → i ≤ s.size → nest ≤ 16 → lev s F k i nest = some r →
  Calls Try.prog (fnOf k) #[.pointer (some ⟨p, 0, none⟩)] w fun e w' => PostE w p s nest r e w'
def levOf (k : Nat) : R (List ET) → R ET
  | .ok l j => .ok (row k l) j
  | .bad a c => .bad a c
def pre (l0 : List ET) : R (List ET) → R (List ET)
  | .ok l j => .ok (l0 ++ l) j
  | .bad a c => .bad a c
/-- What is still to come behind a part. -/
def ktail (s : ByteArray) (F k j nest : Nat) : Option (R (List ET)) := if more k (here s j) then kids s F k (if k = 2 then j else j + 1) nest else some (.ok [] j)
theorem pre_pre (a b : List ET) (r : R (List ET)) : pre a (pre b r) = pre (a ++ b) r := by cases r <;> simp [pre]
theorem kids_eq (s : ByteArray) (F k i nest : Nat) (rk : R (List ET)) (h : kids s F k i nest = some rk) :
    ∃ F' r1, F = F' + 1 ∧ lev s F' (k + 1) i nest = some r1 ∧ ((∃ e j, r1 = .ok e j ∧ (ktail s F' k j nest).map (pre [e]) = some rk) ∨ (∃ a c, r1 = .bad a c ∧ rk = .bad a c)) := by
  cases F with
  | zero => simp [kids] at h
  | succ F' =>
    unfold kids at h
    cases hl : lev s F' (k + 1) i nest with
    | none => rw [hl] at h; cases h
    | some r1 =>
      rw [hl] at h
      refine ⟨F', r1, rfl, hl, ?_⟩
      cases r1 with
      | bad a c =>
        simp only [Option.some.injEq] at h
        exact .inr ⟨a, c, rfl, h.symm⟩
      | ok e j =>
        refine .inl ⟨e, j, rfl, ?_⟩
        simp only at h
        unfold ktail
        split at h
        · rename_i hm
          rw [if_pos hm]
          cases hk : kids s F' k (if k = 2 then j else j + 1) nest with
          | none => rw [hk] at h; cases h
          | some r => rw [hk] at h; cases r <;> exact h
        · rename_i hm
          rw [if_neg hm]
          exact h
theorem ktail_stop {s : ByteArray} {F k j nest : Nat} {l0 : List ET} {rk : R (List ET)} (h : (ktail s F k j nest).map (pre l0) = some rk) (hm : more k (here s j) = false) : rk = .ok l0 j := by
  unfold ktail at h
  rw [if_neg (by simp [hm])] at h
  simp [pre] at h
  exact h.symm
/-- One more part. -/
theorem ktail_more {s : ByteArray} {F k j nest : Nat} {l0 : List ET} {rk : R (List ET)} (h : (ktail s F k j nest).map (pre l0) = some rk) (hm : more k (here s j) = true) :
    ∃ F' r1, F = F' + 1 ∧ lev s F' (k + 1) (if k = 2 then j else j + 1) nest = some r1 ∧ ((∃ e m, r1 = .ok e m ∧ (ktail s F' k m nest).map (pre (l0 ++ [e])) = some rk) ∨ (∃ a c, r1 = .bad a c ∧ rk = .bad a c)) := by
  unfold ktail at h
  rw [if_pos hm] at h
  obtain ⟨r2, h2, h3⟩ := Option.map_eq_some_iff.1 h
  obtain ⟨F', r1, e1, e2, e3⟩ := kids_eq _ _ _ _ _ _ h2
  refine ⟨F', r1, e1, e2, ?_⟩
  rcases e3 with ⟨e, m, e3, e4⟩ | ⟨a, c, e3, e4⟩
  · refine .inl ⟨e, m, e3, ?_⟩
    obtain ⟨r3, h4, h5⟩ := Option.map_eq_some_iff.1 e4
    rw [h4, ← h3, ← h5]
    simp [pre_pre]
  · refine .inr ⟨a, c, e3, ?_⟩
    rw [← h3, e4]
    rfl

theorem more_pos {s : ByteArray} {k j : Nat} (h : more k (here s j) = true) : j < s.size := by
  apply here_lt
  intro e
  rw [e] at h
  unfold more at h
  split at h
  · simp at h
  · split at h
    · simp at h
    · exact absurd h (by decide)

/-- What holds ahead of each round: the parts so far, where the parser stands, what is to come. -/
structure JInv (w : World) (B : Nat) (p : Nat) (s : ByteArray) (nest k : Nat) (rk : R (List ET)) (F j : Nat) (l0 : List ET) (cs : List Value) (n b cap : Nat) (wr : World) : Prop where
  own : wr.ownsRow B 25 3 (.slice (some ⟨b, 0, none⟩) n cap) n cs
  kids : KsAt wr (fun k => B ≤ k ∧ k ≠ b) l0 cs
  len : l0.length = n
  pos : 0 < n
  le : n ≤ j
  top : j ≤ s.size
  par : PAt wr p s j nest
  keep : Keep (· = p) w wr
  res : ∀ i, i < B → w.heap.size ≤ i → wr.heap[i]? = some (.cells #[.int .i64 0, .string ⟨#[]⟩, .slice none 0 0] 25 (0, 0))
  old : w.heap.size ≤ B
  rest : (ktail s F k j nest).map (pre l0) = some rk

set_option maxHeartbeats 1000000 in
theorem join0_any (s : ByteArray) (hs : s.size ≤ 256) (F : Nat) (IH : ∀ F', F' < F → LevOK s F' (0 + 1)) (p i nest : Nat) (rk : R (List ET)) (w : World) (h : PAt w p s i nest) (hi : i ≤ s.size) (hn : nest ≤ 16)
    (hr : kids s F 0 i nest = some rk) :
    Calls Try.prog 118 #[.pointer (some ⟨p, 0, none⟩), .int .i64 5, .int .u8 124, .func (.func 119) #[.pointer (some ⟨p, 0, none⟩)] #[]] w fun e w' => PostE w p s nest (levOf 0 rk) e w' := by
  have hp := h.lt
  obtain ⟨F', r1, rfl, hl, hc⟩ := kids_eq s F 0 i nest rk hr
  clear hr
  have Hc := hid hc
  have Hl := hid hl
  clear hc hl
  go_enter Try.func118, Try.ntmps118
  go_wp2_with fail
  refine (IH F' (by omega) p i nest r1 _ (h.alloc _) hi hn Hl.out).mono ?_
  rintro e w1 h1
  rcases Hc.out with ⟨e1, j1, rfl, hto⟩ | ⟨a, c, rfl, rfl⟩
  case inr =>
    obtain ⟨rfl, hK⟩ := h1
    go_wp2_with fail
    exact ⟨rfl, rfl, ((Keep.refl _ w).alloc _).trans' hK⟩
  obtain ⟨v, rfl, hE, hP1, hK1⟩ := h1
  obtain ⟨k0, wd, A0, n0, c0, rfl⟩ := hE.form
  have hfw := (lev_forward s F').1 _ _ _ _ _ hi Hl.out
  have Hto := hid hto
  clear hto
  have hz1 := hK1.size
  simp only [World.size_alloc] at hz1
  go_wp2_with fail
  go_loopg [9] F' (fun g v wr => g ≤ F' ∧ ∃ j l0 cs n b cap, v = .slice (some ⟨b, 0, none⟩) n cap ∧ JInv w (w.heap.size + 1) p s nest 0 rk g j l0 cs n b cap wr)
  case atStart =>
    refine ⟨Nat.le_refl _, j1, [e1], [.int .i64 k0, .string wd, .slice A0 n0 c0], 1, w1.heap.size, 1, rfl, ?_⟩
    refine { own := Own.new w1 _ _ 3 1 _ rfl (by omega) (by decide), kids := ?_, len := rfl, pos := by omega, le := by omega, top := hfw.2.1, par := hP1.alloc _, keep := (((Keep.refl _ w).alloc _).trans' hK1).alloc _, res := ?_, old := by omega, rest := Hto.out }
    · refine KsAt.one ?_
      refine (ExAt.keep (S := fun _ => False) ((Keep.refl _ w1).alloc _) (fun _ _ h => h) (ExAt.mono (ok' := fun k => w.heap.size + 1 ≤ k ∧ k ≠ w1.heap.size) (fun k hk hk' => ⟨by simpa using hk', by omega⟩) hE))
    · intro x h1 h2
      obtain rfl : x = w.heap.size := by omega
      rw [heap_alloc_lt _ _ (by omega), hK1.block _ (by simp) (by omega)]
      exact heap_alloc_at w _
  case round =>
    obtain ⟨hg, j, l0, cs, n, b, cap, rfl, J⟩ := hrel
    by_cases hm : more 0 (here s j) = true
    · obtain ⟨F2, r2, hF2, hl2, hc2⟩ := ktail_more J.rest hm
      have hlt := more_pos hm
      have HF2 := hid hF2
      have Hl2 := hid hl2
      have Hc2 := hid hc2
      have Hm := hid hm
      have hb1 : (((here s j : Nat) : Int) == 124) = true := by simp [more] at hm; simp; omega
      clear hF2 hl2 hc2 hm
      have hgk : F2 < gk := by have := HF2.out; omega
      go_wp2_with fail
      refine (here_any p s j nest _ J.par (by omega)).mono ?_
      rintro e w2 ⟨rfl, n2, rfl⟩
      have c1 := J.par.cellAt (i := 1) rfl
      have f1 := J.par.frozen 1
      go_wp2_with fail
      refine (IH F2 (by omega) p (j + 1) nest r2 _ ((Blk.drewN J.par n2).set 1 _) (by omega) hn Hl2.out).mono ?_
      rintro e w2 h2
      have hK0 : Keep (· = p) wr ((wr.drewN n2).setCell ⟨p, 1, none⟩ (.int .i64 ((j : Int) + 1))) := ((Keep.refl _ wr).drewN n2).put 1 _
      rcases Hc2.out with ⟨e2, j2, rfl, hto2⟩ | ⟨a, c, rfl, rfl⟩
      case inr =>
        obtain ⟨rfl, hK⟩ := h2
        go_wp2_with fail
        exact ⟨rfl, rfl, (J.keep.trans' hK0).trans' hK⟩
      obtain ⟨v, rfl, hE2, hP2, hK2⟩ := h2
      obtain ⟨k2, wd2, A2, m2, c2, rfl⟩ := hE2.form
      have hfw2 : j + 1 < j2 ∧ j2 ≤ s.size := by have := (lev_forward s F2).1 _ _ _ _ _ (show j + 1 ≤ s.size by omega) Hl2.out; exact ⟨this.1, this.2.1⟩
      have Hto2 := hid hto2
      clear hto2
      have hKw := hK0.trans' hK2
      have hown2 := Own.keep J.own hKw (fun k hk (e : k = p) => by have := ob hk; have := (Own.lt J.own b rfl).1; omega)
      have hn2 : n + 1 ≤ 257 := by have := J.le; have := J.top; omega
      have hB2 : w.heap.size + 1 ≤ w2.heap.size := by have := (Own.lt hown2 b rfl); omega
      go_wp2_with (at_builtin; refine append_one (w.heap.size + 1) rfl (.tmp 24) (.tmp 27) 23 25 _ 3 48 rfl Try.underlying23 expr_info rfl (by decide) (by decide) _ n cs [.int .i64 k2, .string wd2, .slice A2 m2 c2] rfl rfl rfl ?h1 hown2 hB2 ?hl ?next)
      case h1 => intro u hu; simp at hu; rcases hu with rfl | rfl | rfl <;> rfl
      case hl => omega
      case next =>
        intro b3 cap3 w3 hown3 hK3 hb3'
        have hb3 := hb3'.imp ob id
        clear hb3'
        go_wp2_with fail
        go_roundg F2
        case measure => exact hgk
        case rel =>
          refine ⟨by omega, j2, l0 ++ [e2], cs ++ [.int .i64 k2, .string wd2, .slice A2 m2 c2], n + 1, b3, cap3, rfl, ?_⟩
          have hfr : ∀ k, w.heap.size + 1 ≤ k ∧ k ≠ b → ¬ k = p := fun k hk e => by omega
          have hb0 := (Own.lt J.own b rfl)
          have hsz := hKw.size
          refine { own := hown3, kids := KsAt.snoc ?_ ?_, len := by simp [J.len], pos := by omega, le := by have := J.le; omega, top := hfw2.2, par := hP2.keep hK3 (fun hk => by have := ob hk; omega), keep := (J.keep.trans' hKw).trans hK3 (fun k hk => .inr (by have := ob hk; omega)), res := ?_, old := by omega, rest := Hto2.out }
          · refine ExAt.mono (ok := fun k => wr.heap.size ≤ k ∧ k < w2.heap.size) (fun k _ hk => ⟨by omega, by omega⟩) (ExAt.keep hK3 (fun k hk e => by have := ob e; omega) (ExAt.mono (fun k hk hk' => ⟨by simpa using hk', hk⟩) hE2))
          · refine KsAt.mono (ok := fun k => (w.heap.size + 1 ≤ k ∧ k ≠ b) ∧ k < wr.heap.size) (fun k _ hk => ⟨hk.1.1, by have := hKw.size; omega⟩) (KsAt.keep hK3 (fun k hk e => hk.1.2 (ob e).symm) (KsAt.keep hKw (fun k hk (e : k = p) => by omega) (KsAt.mono (fun k hk hk' => ⟨hk', hk⟩) J.kids)))
          · intro x hx hx2
            have hx3 : x < wr.heap.size := by have := (Own.lt J.own b rfl).2; omega
            rw [hK3.block _ (by have := hKw.size; omega) (fun e => by have := ob e; omega), hKw.block _ hx3 (by omega)]
            exact J.res x hx hx2
    · have hmf : more 0 (here s j) = false := by simpa using hm
      have Hst := hid (ktail_stop J.rest hmf)
      have hb1 : (((here s j : Nat) : Int) == 124) = false := by simp [more] at hmf; simp; omega
      clear hm hmf
      have hne : l0 ≠ [] := fun e => by have := J.len; have := J.pos; rw [e] at *; simp at *; omega
      go_wp2_with fail
      refine (here_any p s j nest _ J.par (by omega)).mono ?_
      rintro e w2 ⟨rfl, n2, rfl⟩
      go_wp2_with fail
      refine (row_any 0 (by decide) 5 rfl _ l0 cs (fun k => w.heap.size + 1 ≤ k) _ (Rd.keep (Own.rd J.own (fun k hk => (Own.lt J.own k hk).1)) (S := fun _ => False) ((Keep.refl _ wr).drewN n2) (fun _ _ h => h)) (KsAt.keep (S := fun _ => False) ((Keep.refl _ wr).drewN n2) (fun _ _ h => h) (KsAt.mono (fun k _ hk => hk.1) J.kids)) hne).mono ?_
      rintro e w4 ⟨v, rfl, hE4, hK4⟩
      obtain ⟨k4, wd4, A4, m4, c4, rfl⟩ := hE4.form
      have hlt4 : w.heap.size < wr.heap.size := by have := (Own.lt J.own b rfl); omega
      have hres : Blk w4 w.heap.size 25 [.int .i64 0, .string ⟨#[]⟩, .slice none 0 0] := (hK4.block _ hlt4 (fun h => h)).trans (J.res _ (by omega) (Nat.le_refl _))
      have g0 := hres.cellAt (i := 0) rfl
      have g1 := hres.cellAt (i := 1) rfl
      have g2 := hres.cellAt (i := 2) rfl
      have q0 := hres.frozen 0
      have q1 := hres.frozen 1
      have q2 := hres.frozen 2
      go_wp2_with fail
      have hK5 : ∀ a b c : Value, Keep (· = w.heap.size) w4 (((w4.setCell ⟨w.heap.size, 0, none⟩ a).setCell ⟨w.heap.size, 1, none⟩ b).setCell ⟨w.heap.size, 2, none⟩ c) := fun a b c =>
        (((Keep.refl _ w4).put 0 a).put 1 b).put 2 c
      have hres5 := ((hres.set 0 (.int .i64 k4)).set 1 (.string wd4)).set 2 (.slice A4 m4 c4)
      have r0 := hres5.cellAt (i := 0) rfl
      have r1 := hres5.cellAt (i := 1) rfl
      have r2 := hres5.cellAt (i := 2) rfl
      refine bodyPost_ret (v := .agg #[.int .i64 k4, .string wd4, .slice A4 m4 c4]) (by simp [results, Try.results118, go_sem, r0, r1, r2]) rfl ?_
      rw [Hst.out]
      refine ⟨_, rfl, ExAt.mono (fun k _ hk => by omega) (ExAt.keep (hK5 _ _ _) (fun k hk e => by omega) hE4), Blk.keep (Blk.keep (Blk.drewN J.par n2) hK4 (fun h => h)) (hK5 _ _ _) (fun e => by omega), ?_⟩
      exact ((J.keep.drewN n2).trans hK4 (fun _ h => h.elim)).trans (hK5 _ _ _) (fun k hk => .inr (by omega))

set_option maxHeartbeats 1000000 in
theorem join1_any (s : ByteArray) (hs : s.size ≤ 256) (F : Nat) (IH : ∀ F', F' < F → LevOK s F' (1 + 1)) (p i nest : Nat) (rk : R (List ET)) (w : World) (h : PAt w p s i nest) (hi : i ≤ s.size) (hn : nest ≤ 16)
    (hr : kids s F 1 i nest = some rk) :
    Calls Try.prog 118 #[.pointer (some ⟨p, 0, none⟩), .int .i64 6, .int .u8 38, .func (.func 150) #[.pointer (some ⟨p, 0, none⟩)] #[]] w fun e w' => PostE w p s nest (levOf 1 rk) e w' := by
  have hp := h.lt
  obtain ⟨F', r1, rfl, hl, hc⟩ := kids_eq s F 1 i nest rk hr
  clear hr
  have Hc := hid hc
  have Hl := hid hl
  clear hc hl
  go_enter Try.func118, Try.ntmps118
  go_wp2_with fail
  refine (IH F' (by omega) p i nest r1 _ (h.alloc _) hi hn Hl.out).mono ?_
  rintro e w1 h1
  rcases Hc.out with ⟨e1, j1, rfl, hto⟩ | ⟨a, c, rfl, rfl⟩
  case inr =>
    obtain ⟨rfl, hK⟩ := h1
    go_wp2_with fail
    exact ⟨rfl, rfl, ((Keep.refl _ w).alloc _).trans' hK⟩
  obtain ⟨v, rfl, hE, hP1, hK1⟩ := h1
  obtain ⟨k0, wd, A0, n0, c0, rfl⟩ := hE.form
  have hfw := (lev_forward s F').1 _ _ _ _ _ hi Hl.out
  have Hto := hid hto
  clear hto
  have hz1 := hK1.size
  simp only [World.size_alloc] at hz1
  go_wp2_with fail
  go_loopg [9] F' (fun g v wr => g ≤ F' ∧ ∃ j l0 cs n b cap, v = .slice (some ⟨b, 0, none⟩) n cap ∧ JInv w (w.heap.size + 1) p s nest 1 rk g j l0 cs n b cap wr)
  case atStart =>
    refine ⟨Nat.le_refl _, j1, [e1], [.int .i64 k0, .string wd, .slice A0 n0 c0], 1, w1.heap.size, 1, rfl, ?_⟩
    refine { own := Own.new w1 _ _ 3 1 _ rfl (by omega) (by decide), kids := ?_, len := rfl, pos := by omega, le := by omega, top := hfw.2.1, par := hP1.alloc _, keep := (((Keep.refl _ w).alloc _).trans' hK1).alloc _, res := ?_, old := by omega, rest := Hto.out }
    · refine KsAt.one ?_
      refine (ExAt.keep (S := fun _ => False) ((Keep.refl _ w1).alloc _) (fun _ _ h => h) (ExAt.mono (ok' := fun k => w.heap.size + 1 ≤ k ∧ k ≠ w1.heap.size) (fun k hk hk' => ⟨by simpa using hk', by omega⟩) hE))
    · intro x h1 h2
      obtain rfl : x = w.heap.size := by omega
      rw [heap_alloc_lt _ _ (by omega), hK1.block _ (by simp) (by omega)]
      exact heap_alloc_at w _
  case round =>
    obtain ⟨hg, j, l0, cs, n, b, cap, rfl, J⟩ := hrel
    by_cases hm : more 1 (here s j) = true
    · obtain ⟨F2, r2, hF2, hl2, hc2⟩ := ktail_more J.rest hm
      have hlt := more_pos hm
      have HF2 := hid hF2
      have Hl2 := hid hl2
      have Hc2 := hid hc2
      have Hm := hid hm
      have hb1 : (((here s j : Nat) : Int) == 38) = true := by simp [more] at hm; simp; omega
      clear hF2 hl2 hc2 hm
      have hgk : F2 < gk := by have := HF2.out; omega
      go_wp2_with fail
      refine (here_any p s j nest _ J.par (by omega)).mono ?_
      rintro e w2 ⟨rfl, n2, rfl⟩
      have c1 := J.par.cellAt (i := 1) rfl
      have f1 := J.par.frozen 1
      go_wp2_with fail
      refine (IH F2 (by omega) p (j + 1) nest r2 _ ((Blk.drewN J.par n2).set 1 _) (by omega) hn Hl2.out).mono ?_
      rintro e w2 h2
      have hK0 : Keep (· = p) wr ((wr.drewN n2).setCell ⟨p, 1, none⟩ (.int .i64 ((j : Int) + 1))) := ((Keep.refl _ wr).drewN n2).put 1 _
      rcases Hc2.out with ⟨e2, j2, rfl, hto2⟩ | ⟨a, c, rfl, rfl⟩
      case inr =>
        obtain ⟨rfl, hK⟩ := h2
        go_wp2_with fail
        exact ⟨rfl, rfl, (J.keep.trans' hK0).trans' hK⟩
      obtain ⟨v, rfl, hE2, hP2, hK2⟩ := h2
      obtain ⟨k2, wd2, A2, m2, c2, rfl⟩ := hE2.form
      have hfw2 : j + 1 < j2 ∧ j2 ≤ s.size := by have := (lev_forward s F2).1 _ _ _ _ _ (show j + 1 ≤ s.size by omega) Hl2.out; exact ⟨this.1, this.2.1⟩
      have Hto2 := hid hto2
      clear hto2
      have hKw := hK0.trans' hK2
      have hown2 := Own.keep J.own hKw (fun k hk (e : k = p) => by have := ob hk; have := (Own.lt J.own b rfl).1; omega)
      have hn2 : n + 1 ≤ 257 := by have := J.le; have := J.top; omega
      have hB2 : w.heap.size + 1 ≤ w2.heap.size := by have := (Own.lt hown2 b rfl); omega
      go_wp2_with (at_builtin; refine append_one (w.heap.size + 1) rfl (.tmp 24) (.tmp 27) 23 25 _ 3 48 rfl Try.underlying23 expr_info rfl (by decide) (by decide) _ n cs [.int .i64 k2, .string wd2, .slice A2 m2 c2] rfl rfl rfl ?h1 hown2 hB2 ?hl ?next)
      case h1 => intro u hu; simp at hu; rcases hu with rfl | rfl | rfl <;> rfl
      case hl => omega
      case next =>
        intro b3 cap3 w3 hown3 hK3 hb3'
        have hb3 := hb3'.imp ob id
        clear hb3'
        go_wp2_with fail
        go_roundg F2
        case measure => exact hgk
        case rel =>
          refine ⟨by omega, j2, l0 ++ [e2], cs ++ [.int .i64 k2, .string wd2, .slice A2 m2 c2], n + 1, b3, cap3, rfl, ?_⟩
          have hfr : ∀ k, w.heap.size + 1 ≤ k ∧ k ≠ b → ¬ k = p := fun k hk e => by omega
          have hb0 := (Own.lt J.own b rfl)
          have hsz := hKw.size
          refine { own := hown3, kids := KsAt.snoc ?_ ?_, len := by simp [J.len], pos := by omega, le := by have := J.le; omega, top := hfw2.2, par := hP2.keep hK3 (fun hk => by have := ob hk; omega), keep := (J.keep.trans' hKw).trans hK3 (fun k hk => .inr (by have := ob hk; omega)), res := ?_, old := by omega, rest := Hto2.out }
          · refine ExAt.mono (ok := fun k => wr.heap.size ≤ k ∧ k < w2.heap.size) (fun k _ hk => ⟨by omega, by omega⟩) (ExAt.keep hK3 (fun k hk e => by have := ob e; omega) (ExAt.mono (fun k hk hk' => ⟨by simpa using hk', hk⟩) hE2))
          · refine KsAt.mono (ok := fun k => (w.heap.size + 1 ≤ k ∧ k ≠ b) ∧ k < wr.heap.size) (fun k _ hk => ⟨hk.1.1, by have := hKw.size; omega⟩) (KsAt.keep hK3 (fun k hk e => hk.1.2 (ob e).symm) (KsAt.keep hKw (fun k hk (e : k = p) => by omega) (KsAt.mono (fun k hk hk' => ⟨hk', hk⟩) J.kids)))
          · intro x hx hx2
            have hx3 : x < wr.heap.size := by have := (Own.lt J.own b rfl).2; omega
            rw [hK3.block _ (by have := hKw.size; omega) (fun e => by have := ob e; omega), hKw.block _ hx3 (by omega)]
            exact J.res x hx hx2
    · have hmf : more 1 (here s j) = false := by simpa using hm
      have Hst := hid (ktail_stop J.rest hmf)
      have hb1 : (((here s j : Nat) : Int) == 38) = false := by simp [more] at hmf; simp; omega
      clear hm hmf
      have hne : l0 ≠ [] := fun e => by have := J.len; have := J.pos; rw [e] at *; simp at *; omega
      go_wp2_with fail
      refine (here_any p s j nest _ J.par (by omega)).mono ?_
      rintro e w2 ⟨rfl, n2, rfl⟩
      go_wp2_with fail
      refine (row_any 1 (by decide) 6 rfl _ l0 cs (fun k => w.heap.size + 1 ≤ k) _ (Rd.keep (Own.rd J.own (fun k hk => (Own.lt J.own k hk).1)) (S := fun _ => False) ((Keep.refl _ wr).drewN n2) (fun _ _ h => h)) (KsAt.keep (S := fun _ => False) ((Keep.refl _ wr).drewN n2) (fun _ _ h => h) (KsAt.mono (fun k _ hk => hk.1) J.kids)) hne).mono ?_
      rintro e w4 ⟨v, rfl, hE4, hK4⟩
      obtain ⟨k4, wd4, A4, m4, c4, rfl⟩ := hE4.form
      have hlt4 : w.heap.size < wr.heap.size := by have := (Own.lt J.own b rfl); omega
      have hres : Blk w4 w.heap.size 25 [.int .i64 0, .string ⟨#[]⟩, .slice none 0 0] := (hK4.block _ hlt4 (fun h => h)).trans (J.res _ (by omega) (Nat.le_refl _))
      have g0 := hres.cellAt (i := 0) rfl
      have g1 := hres.cellAt (i := 1) rfl
      have g2 := hres.cellAt (i := 2) rfl
      have q0 := hres.frozen 0
      have q1 := hres.frozen 1
      have q2 := hres.frozen 2
      go_wp2_with fail
      have hK5 : ∀ a b c : Value, Keep (· = w.heap.size) w4 (((w4.setCell ⟨w.heap.size, 0, none⟩ a).setCell ⟨w.heap.size, 1, none⟩ b).setCell ⟨w.heap.size, 2, none⟩ c) := fun a b c =>
        (((Keep.refl _ w4).put 0 a).put 1 b).put 2 c
      have hres5 := ((hres.set 0 (.int .i64 k4)).set 1 (.string wd4)).set 2 (.slice A4 m4 c4)
      have r0 := hres5.cellAt (i := 0) rfl
      have r1 := hres5.cellAt (i := 1) rfl
      have r2 := hres5.cellAt (i := 2) rfl
      refine bodyPost_ret (v := .agg #[.int .i64 k4, .string wd4, .slice A4 m4 c4]) (by simp [results, Try.results118, go_sem, r0, r1, r2]) rfl ?_
      rw [Hst.out]
      refine ⟨_, rfl, ExAt.mono (fun k _ hk => by omega) (ExAt.keep (hK5 _ _ _) (fun k hk e => by omega) hE4), Blk.keep (Blk.keep (Blk.drewN J.par n2) hK4 (fun h => h)) (hK5 _ _ _) (fun e => by omega), ?_⟩
      exact ((J.keep.drewN n2).trans hK4 (fun _ h => h.elim)).trans (hK5 _ _ _) (fun k hk => .inr (by omega))

set_option maxHeartbeats 1000000 in
theorem seq_any (s : ByteArray) (hs : s.size ≤ 256) (F : Nat) (IH : ∀ F', F' < F → LevOK s F' (2 + 1)) (p i0 nest : Nat) (rk : R (List ET)) (w : World) (h0 : PAt w p s i0 nest) (hi0 : i0 ≤ s.size) (hn : nest ≤ 16)
    (hr : kids s F 2 (blanksEnd s i0) nest = some rk) :
    Calls Try.prog 150 #[.pointer (some ⟨p, 0, none⟩)] w fun e w' => PostE w p s nest (levOf 2 rk) e w' := by
  have hp := h0.lt
  have hi := blanksEnd_le s i0 hi0
  have hge := blanksEnd_ge s i0
  generalize hgen : blanksEnd s i0 = i at *
  have Hgen := hid hgen
  clear hgen
  obtain ⟨F', r1, rfl, hl, hc⟩ := kids_eq s F 2 i nest rk hr
  clear hr
  have Hc := hid hc
  have Hl := hid hl
  clear hc hl
  go_enter Try.func150, Try.ntmps150
  go_wp2_with fail
  refine (blanks_any p s i0 nest _ (h0.alloc _) (by omega) hi0).mono ?_
  rintro e wb ⟨rfl, hPb, hKb⟩
  rw [Hgen.out] at hPb
  go_wp2_with fail
  refine (IH F' (by omega) p i nest r1 _ hPb hi hn Hl.out).mono ?_
  rintro e w1 h1
  rcases Hc.out with ⟨e1, j1, rfl, hto⟩ | ⟨a, c, rfl, rfl⟩
  case inr =>
    obtain ⟨rfl, hK⟩ := h1
    go_wp2_with fail
    exact ⟨rfl, rfl, (((Keep.refl _ w).alloc _).trans' hKb).trans' hK⟩
  obtain ⟨v, rfl, hE, hP1, hK1⟩ := h1
  obtain ⟨k0, wd, A0, n0, c0, rfl⟩ := hE.form
  have hfw := (lev_forward s F').1 _ _ _ _ _ hi Hl.out
  have Hto := hid hto
  clear hto
  have hz0 := hKb.size
  have hz1 := hK1.size
  simp only [World.size_alloc] at hz0
  go_wp2_with fail
  go_loopg [3] F' (fun g v wr => g ≤ F' ∧ ∃ j l0 cs n b cap, v = .slice (some ⟨b, 0, none⟩) n cap ∧ JInv w (w.heap.size + 1) p s nest 2 rk g j l0 cs n b cap wr)
  case atStart =>
    refine ⟨Nat.le_refl _, j1, [e1], [.int .i64 k0, .string wd, .slice A0 n0 c0], 1, w1.heap.size, 1, rfl, ?_⟩
    refine { own := Own.new w1 _ _ 3 1 _ rfl (by omega) (by decide), kids := ?_, len := rfl, pos := by omega, le := by omega, top := hfw.2.1, par := hP1.alloc _, keep := ((((Keep.refl _ w).alloc _).trans' hKb).trans' hK1).alloc _, res := ?_, old := by omega, rest := Hto.out }
    · refine KsAt.one ?_
      refine (ExAt.keep (S := fun _ => False) ((Keep.refl _ w1).alloc _) (fun _ _ h => h) (ExAt.mono (ok' := fun k => w.heap.size + 1 ≤ k ∧ k ≠ w1.heap.size) (fun k hk hk' => ⟨by omega, by omega⟩) hE))
    · intro x h1 h2
      obtain rfl : x = w.heap.size := by omega
      rw [heap_alloc_lt _ _ (by omega), hK1.block _ (by omega) (by omega), hKb.block _ (by simp) (by omega)]
      exact heap_alloc_at w _
  case round =>
    obtain ⟨hg, j, l0, cs, n, b, cap, rfl, J⟩ := hrel
    by_cases hm : more 2 (here s j) = true
    · obtain ⟨F2, r2, hF2, hl2, hc2⟩ := ktail_more J.rest hm
      have hlt := more_pos hm
      have HF2 := hid hF2
      have Hl2 := hid hl2
      have Hc2 := hid hc2
      have Hm := hid hm
      have hb1 : begins (here s j) = true := by simpa [more] using hm
      clear hF2 hl2 hc2 hm
      have hgk : F2 < gk := by have := HF2.out; omega
      go_wp2_with fail
      refine (here_any p s j nest _ J.par (by omega)).mono ?_
      rintro e w2 ⟨rfl, n2', rfl⟩
      go_wp2_with fail
      refine (begins_any (here s j) (here_byte s j) _).mono ?_
      rintro e w2 ⟨rfl, n3, rfl⟩
      rw [hb1]
      obtain ⟨n2, hn2⟩ : ∃ n2, (wr.drewN n2').drewN n3 = wr.drewN n2 := ⟨_, World.drewN_drewN ..⟩
      rw [hn2]
      clear hn2
      go_wp2_with fail
      refine (IH F2 (by omega) p j nest r2 _ (Blk.drewN J.par n2) (by omega) hn Hl2.out).mono ?_
      rintro e w2 h2
      have hK0 : Keep (· = p) wr (wr.drewN n2) := (Keep.refl _ wr).drewN n2
      rcases Hc2.out with ⟨e2, j2, rfl, hto2⟩ | ⟨a, c, rfl, rfl⟩
      case inr =>
        obtain ⟨rfl, hK⟩ := h2
        go_wp2_with fail
        exact ⟨rfl, rfl, (J.keep.trans' hK0).trans' hK⟩
      obtain ⟨v, rfl, hE2, hP2, hK2⟩ := h2
      obtain ⟨k2, wd2, A2, m2, c2, rfl⟩ := hE2.form
      have hfw2 : j < j2 ∧ j2 ≤ s.size := by have := (lev_forward s F2).1 _ _ _ _ _ (show j ≤ s.size by omega) Hl2.out; exact ⟨this.1, this.2.1⟩
      have Hto2 := hid hto2
      clear hto2
      have hKw := hK0.trans' hK2
      have hown2 := Own.keep J.own hKw (fun k hk (e : k = p) => by have := ob hk; have := (Own.lt J.own b rfl).1; omega)
      have hn2 : n + 1 ≤ 257 := by have := J.le; have := J.top; omega
      have hB2 : w.heap.size + 1 ≤ w2.heap.size := by have := (Own.lt hown2 b rfl); omega
      go_wp2_with (at_builtin; refine append_one (w.heap.size + 1) rfl (.tmp 12) (.tmp 15) 23 25 _ 3 48 rfl Try.underlying23 expr_info rfl (by decide) (by decide) _ n cs [.int .i64 k2, .string wd2, .slice A2 m2 c2] rfl rfl rfl ?h1 hown2 hB2 ?hl ?next)
      case h1 => intro u hu; simp at hu; rcases hu with rfl | rfl | rfl <;> rfl
      case hl => omega
      case next =>
        intro b3 cap3 w3 hown3 hK3 hb3'
        have hb3 := hb3'.imp ob id
        clear hb3'
        go_wp2_with fail
        go_roundg F2
        case measure => exact hgk
        case rel =>
          refine ⟨by omega, j2, l0 ++ [e2], cs ++ [.int .i64 k2, .string wd2, .slice A2 m2 c2], n + 1, b3, cap3, rfl, ?_⟩
          have hfr : ∀ k, w.heap.size + 1 ≤ k ∧ k ≠ b → ¬ k = p := fun k hk e => by omega
          have hb0 := (Own.lt J.own b rfl)
          have hsz := hKw.size
          refine { own := hown3, kids := KsAt.snoc ?_ ?_, len := by simp [J.len], pos := by omega, le := by have := J.le; omega, top := hfw2.2, par := hP2.keep hK3 (fun hk => by have := ob hk; omega), keep := (J.keep.trans' hKw).trans hK3 (fun k hk => .inr (by have := ob hk; omega)), res := ?_, old := by omega, rest := Hto2.out }
          · refine ExAt.mono (ok := fun k => wr.heap.size ≤ k ∧ k < w2.heap.size) (fun k _ hk => ⟨by omega, by omega⟩) (ExAt.keep hK3 (fun k hk e => by have := ob e; omega) (ExAt.mono (fun k hk hk' => ⟨by simpa using hk', hk⟩) hE2))
          · refine KsAt.mono (ok := fun k => (w.heap.size + 1 ≤ k ∧ k ≠ b) ∧ k < wr.heap.size) (fun k _ hk => ⟨hk.1.1, by have := hKw.size; omega⟩) (KsAt.keep hK3 (fun k hk e => hk.1.2 (ob e).symm) (KsAt.keep hKw (fun k hk (e : k = p) => by omega) (KsAt.mono (fun k hk hk' => ⟨hk', hk⟩) J.kids)))
          · intro x hx hx2
            have hx3 : x < wr.heap.size := by have := (Own.lt J.own b rfl).2; omega
            rw [hK3.block _ (by have := hKw.size; omega) (fun e => by have := ob e; omega), hKw.block _ hx3 (by omega)]
            exact J.res x hx hx2
    · have hmf : more 2 (here s j) = false := by simpa using hm
      have Hst := hid (ktail_stop J.rest hmf)
      have hb1 : begins (here s j) = false := by simpa [more] using hmf
      clear hm hmf
      have hne : l0 ≠ [] := fun e => by have := J.len; have := J.pos; rw [e] at *; simp at *; omega
      go_wp2_with fail
      refine (here_any p s j nest _ J.par (by omega)).mono ?_
      rintro e w2 ⟨rfl, n2', rfl⟩
      go_wp2_with fail
      refine (begins_any (here s j) (here_byte s j) _).mono ?_
      rintro e w2 ⟨rfl, n3, rfl⟩
      rw [hb1]
      obtain ⟨n2, hn2⟩ : ∃ n2, (wr.drewN n2').drewN n3 = wr.drewN n2 := ⟨_, World.drewN_drewN ..⟩
      rw [hn2]
      clear hn2
      go_wp2_with fail
      refine (row_any 2 (by decide) 4 rfl _ l0 cs (fun k => w.heap.size + 1 ≤ k) _ (Rd.keep (Own.rd J.own (fun k hk => (Own.lt J.own k hk).1)) (S := fun _ => False) ((Keep.refl _ wr).drewN n2) (fun _ _ h => h)) (KsAt.keep (S := fun _ => False) ((Keep.refl _ wr).drewN n2) (fun _ _ h => h) (KsAt.mono (fun k _ hk => hk.1) J.kids)) hne).mono ?_
      rintro e w4 ⟨v, rfl, hE4, hK4⟩
      obtain ⟨k4, wd4, A4, m4, c4, rfl⟩ := hE4.form
      have hlt4 : w.heap.size < wr.heap.size := by have := (Own.lt J.own b rfl); omega
      have hres : Blk w4 w.heap.size 25 [.int .i64 0, .string ⟨#[]⟩, .slice none 0 0] := (hK4.block _ hlt4 (fun h => h)).trans (J.res _ (by omega) (Nat.le_refl _))
      have g0 := hres.cellAt (i := 0) rfl
      have g1 := hres.cellAt (i := 1) rfl
      have g2 := hres.cellAt (i := 2) rfl
      have q0 := hres.frozen 0
      have q1 := hres.frozen 1
      have q2 := hres.frozen 2
      go_wp2_with fail
      have hK5 : ∀ a b c : Value, Keep (· = w.heap.size) w4 (((w4.setCell ⟨w.heap.size, 0, none⟩ a).setCell ⟨w.heap.size, 1, none⟩ b).setCell ⟨w.heap.size, 2, none⟩ c) := fun a b c =>
        (((Keep.refl _ w4).put 0 a).put 1 b).put 2 c
      have hres5 := ((hres.set 0 (.int .i64 k4)).set 1 (.string wd4)).set 2 (.slice A4 m4 c4)
      have r0 := hres5.cellAt (i := 0) rfl
      have r1 := hres5.cellAt (i := 1) rfl
      have r2 := hres5.cellAt (i := 2) rfl
      refine bodyPost_ret (v := .agg #[.int .i64 k4, .string wd4, .slice A4 m4 c4]) (by simp [results, Try.results150, go_sem, r0, r1, r2]) rfl ?_
      rw [Hst.out]
      refine ⟨_, rfl, ExAt.mono (fun k _ hk => by omega) (ExAt.keep (hK5 _ _ _) (fun k hk e => by omega) hE4), Blk.keep (Blk.keep (Blk.drewN J.par n2) hK4 (fun h => h)) (hK5 _ _ _) (fun e => by omega), ?_⟩
      exact ((J.keep.drewN n2).trans hK4 (fun _ h => h.elim)).trans (hK5 _ _ _) (fun k hk => .inr (by omega))
end Ex
end Go.Proofs.Ytfgkcifkfokoiaa
