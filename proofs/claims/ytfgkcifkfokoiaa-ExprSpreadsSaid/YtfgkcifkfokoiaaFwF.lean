/- The walk through Spread of package expr. -/
import Derived.Test.YtfgkcifkfokoiaaFwE
set_option linter.unusedVariables false
set_option linter.unusedSimpArgs false
namespace Go.Proofs.Ytfgkcifkfokoiaa
open Go.RowKit
namespace Ex
/-- A row of expressions of its own, grown kid by kid; P: the blocks that may be met. -/
structure KR (B : Nat) (P : Nat → Prop) (wr : World) (kv : Value) (l : List ET) (cs : List Value) : Prop where
  row : wr.ownsRow B 25 3 kv l.length cs
  rowP : ∀ q, kv.ownBlock = some q → P q
  kids : KsAt wr (fun q => P q ∧ ¬ kv.ownBlock = some q) l cs
theorem KR.nil (B : Nat) (P : Nat → Prop) (w : World) : KR B P w (.slice none 0 0) [] [] := ⟨World.ownsRow_nil _ _ _ _, fun q h => (by cases h), rfl⟩
theorem KR.keep {B : Nat} {P S : Nat → Prop} {w w' : World} {kv : Value} {l : List ET} {cs : List Value} (h : KR B P w kv l cs) (hK : Keep S w w') (hS : ∀ q, P q → ¬ S q) : KR B P w' kv l cs :=
  ⟨Own.keep h.row hK (fun k hk => hS k (h.rowP k hk)), h.rowP, KsAt.keep hK (fun k hk => hS k hk.1) h.kids⟩
theorem KR.snoc {B : Nat} {P : Nat → Prop} {w w' : World} {kv kv' a b c : Value} {l : List ET} {cs : List Value} {x : ET} (h : KR B P w kv l cs) (hx : ExAt w (fun q => P q ∧ ¬ kv.ownBlock = some q) x (.agg #[a, b, c])) (hown : w'.ownsRow B 25 3 kv' (l.length + 1) (cs ++ [a, b, c]))
    (hK : Keep (fun q => kv.ownBlock = some q) w w') (hb : ∀ q, kv'.ownBlock = some q → kv.ownBlock = some q ∨ w.heap.size ≤ q) (hP : ∀ q, w.heap.size ≤ q → P q) : KR B P w' kv' (l ++ [x]) (cs ++ [a, b, c]) := by
  have key : ∀ q, q < w'.heap.size → (P q ∧ ¬ kv.ownBlock = some q) ∧ q < w.heap.size → P q ∧ ¬ kv'.ownBlock = some q := fun q _ hq => ⟨hq.1.1, fun e => (hb q e).elim hq.1.2 (fun h => by omega)⟩
  refine ⟨by rw [List.length_append]; exact hown, fun q hq => (hb q hq).elim (h.rowP q) (hP q), KsAt.snoc (ExAt.mono key (ExAt.keep hK (fun q hq e => hq.1.2 e) (ExAt.mono (fun q hlt hq => ⟨hq, hlt⟩) hx))) (KsAt.mono key (KsAt.keep hK (fun q hq e => hq.1.2 e) (KsAt.mono (fun q hlt hq => ⟨hq, hlt⟩) h.kids)))⟩
theorem KR.rd {B : Nat} {P : Nat → Prop} {w : World} {kv : Value} {l : List ET} {cs : List Value} (h : KR B P w kv l cs) : Rd w P kv 3 cs ∧ KsAt w P l cs := ⟨Own.rd h.row h.rowP, KsAt.mono (fun q _ hq => hq.1) h.kids⟩
def PPost (w : World) : Option ET → Ending → World → Prop
  | some x, e, w' => ∃ k wd A n c, e = .returned (.tuple #[.agg #[.int .i64 k, .string wd, .slice A n c], .int .i64 0]) ∧ ExAt w' (fun q => w.heap.size ≤ q) x (.agg #[.int .i64 k, .string wd, .slice A n c]) ∧ Keep (fun _ => False) w w'
  | none, e, w' => e = .returned (.tuple #[.agg #[.int .i64 0, .string ⟨#[]⟩, .slice none 0 0], .int .i64 6]) ∧ Keep (fun _ => False) w w'
/-- Spread does what plain Lean says. -/
def SpdOK (e : ET) : Prop := ∀ (w : World) (ok : Nat → Prop) (v : Value), ExAt w ok e v → cnt e ≤ 36000 → Calls Try.prog 71 #[v] w fun r w' => PPost w (spd e) r w'
set_option maxRecDepth 100000 in
set_option maxHeartbeats 4000000 in
theorem Spread_node (ke : Nat) (wde : ByteArray) (l : List ET) (hwf : WF (.node ke wde l)) (IH : ∀ e, e ∈ l → SpdOK e) : SpdOK (.node ke wde l) := by
  intro w ok v h hw
  obtain ⟨i0, hi0, hz⟩ := Option.map_eq_some_iff.1 expr_info
  simp only [Prod.mk.injEq] at hz
  obtain ⟨hz0, hz1, hz2⟩ := hz
  simp only [ExAt] at h
  obtain ⟨kv', ce, rfl, hr, hl⟩ := h
  obtain ⟨A, m, c, rfl, hlen, hnc, hm, hcells⟩ := id hr
  have hl3 := hl.length
  obtain rfl : m = l.length := by omega
  have hcnt : cnt (.node ke wde l) = 1 + cntL l := by simp only [cnt]
  rw [hcnt] at hw
  have hll := cntL_length l
  clear hlen hl3 hcnt
  go_enter Try.func71, Try.ntmps71
  go_wp2_with fail
  go_loopg [23] l.length (fun g i wr => ∃ k kv cs l0, k ≤ l.length ∧ g = l.length - k ∧ i = .int .i64 (k : Int) ∧ spdL (l.take k) = some l0 ∧ l0.length = k ∧ Blk wr w.heap.size 25 [.int .i64 (ke : Int), .string wde, .slice A l.length c] ∧ Blk wr (w.heap.size + 1) 25 [.int .i64 0, .string ⟨#[]⟩, .slice none 0 0] ∧
    Blk wr (w.heap.size + 1 + 1) 25 [.int .i64 (ke : Int), .string wde, kv] ∧ KR (w.heap.size + 3) (fun q => w.heap.size + 3 ≤ q) wr kv l0 cs ∧ Keep (fun _ => False) w wr)
  case atStart =>
    exact ⟨0, _, [], [], Nat.zero_le _, rfl, rfl, rfl, rfl, Blk.alloc (Blk.alloc (Blk.new w _ [_, _, _]) _) _, Blk.alloc (newAt (by simp) _ [_, _, _]) _, newAt (by simp) _ [_, _, _], KR.nil _ _ _, (((Keep.refl _ w).alloc _).alloc _).alloc _⟩
  case round =>
    obtain ⟨k, kv, cs, l0, hkn, hg, rfl, hsp, hkk, hB0, hB1, hB2, hKR, hK⟩ := hrel
    have Hg := hid hg
    have Hsp := hid hsp
    have Hkk := hid hkk
    have hz := hB2.lt
    clear hg hsp hkk
    by_cases hlt : k < l.length
    · obtain ⟨a0, a1, a2, q1, q2, q3, hE⟩ := hl.nth k l[k] (by simp [hlt])
      obtain ⟨wd1, A1, n1, c1, hv⟩ := hE.kind
      simp at hv
      obtain ⟨rfl, rfl, rfl⟩ := hv
      obtain ⟨Bk, off, rfl, hok, hcell⟩ := hcells (by omega)
      have d0 := hK.cell (hcell _ _ q1) (fun h => h)
      have d1 := hK.cell (hcell _ _ q2) (fun h => h)
      have d2 := hK.cell (hcell _ _ q3) (fun h => h)
      rw [← Nat.add_assoc] at d1 d2
      have hK1 := (Keep.refl (fun _ => False) wr).alloc (.cells #[.int .i64 (kindE l[k] : Int), .string wd1, .slice A1 n1 c1] 25)
      have hE1 := ExAt.keep (hK.trans' hK1) (fun _ _ h => h) hE
      have hsx := spdL_take l k l[k] l0 (by simp [hlt]) Hsp.out
      have hce := cntL_mem (List.getElem_mem hlt)
      have hcl := IH _ (List.getElem_mem hlt) _ ok _ hE1 (by omega)
      clear hcell q1 q2 q3
      cases hx : spd l[k] with
      | none =>
        rw [hx] at hcl hsx
        have hend := hid (show spd (.node ke wde l) = none by rw [spd, spdL_none l (k + 1) (by rw [hsx]; rfl)])
        clear hx hsx
        go_wp2_with fail
        refine hcl.mono ?_
        rintro r w2 ⟨rfl, hK2⟩
        have hB1x := hB1.keep (hK1.trans' hK2) (fun h => h)
        have hPo := fun o => Blk.alloc hB1x o
        have g0 := fun o => (hPo o).cellAt (i := 0) rfl
        have g1 := fun o => (hPo o).cellAt (i := 1) rfl
        have g2 := fun o => (hPo o).cellAt (i := 2) rfl
        have f0 := fun o => (hPo o).frozen 0
        have f1 := fun o => (hPo o).frozen 1
        have f2 := fun o => (hPo o).frozen 2
        clear hcl
        go_wp2_with fail
        obtain ⟨hres, hKs⟩ := put3 (hPo (.cells #[.int .i64 0, .string ⟨#[]⟩, .slice none 0 0] 25)) (.int .i64 0) (.string ⟨#[]⟩) (.slice none 0 0)
        have r0 := hres.cellAt (i := 0) rfl
        have r1 := hres.cellAt (i := 1) rfl
        have r2 := hres.cellAt (i := 2) rfl
        refine bodyPost_ret (v := .tuple #[.agg #[.int .i64 0, .string ⟨#[]⟩, .slice none 0 0], .int .i64 6]) (by simp [results, Try.results71, go_sem, r0, r1, r2]) rfl ?_
        rw [hend.out]
        exact ⟨rfl, (((hK.trans' hK1).trans' hK2).alloc _).trans hKs (fun q hq => .inr (by omega))⟩
      | some x =>
        rw [hx] at hcl hsx
        have hsx := hid (show spdL (l.take (k + 1)) = some (l0 ++ [x]) from hsx)
        have hce2 : l0.length ≤ 36000 := by have := Hkk.out; omega
        clear hx
        go_wp2_with fail
        refine hcl.mono ?_
        rintro r w2 ⟨kx, wdx, Ax, nx, cx, rfl, hEx, hK2⟩
        have hK3 := (hK1.trans' hK2).alloc (.cells #[.int .i64 kx, .string wdx, .slice Ax nx cx] 25)
        have hB0x := hB0.keep hK3 (fun h => h)
        have hB1x := hB1.keep hK3 (fun h => h)
        have hB2x := hB2.keep hK3 (fun h => h)
        have hB7 : Blk (w2.alloc (.cells #[.int .i64 kx, .string wdx, .slice Ax nx cx] 25)) w2.heap.size 25 [.int .i64 kx, .string wdx, .slice Ax nx cx] := Blk.new w2 _ [_, _, _]
        have hKRx := hKR.keep hK3 (fun _ _ h => h)
        have hsz2 := (hK1.trans' hK2).size
        have hEx2 : ExAt (w2.alloc (.cells #[.int .i64 kx, .string wdx, .slice Ax nx cx] 25)) (fun q => w.heap.size + 3 ≤ q ∧ ¬ kv.ownBlock = some q) x (.agg #[.int .i64 kx, .string wdx, .slice Ax nx cx]) :=
          ExAt.keep (S := fun _ => False) ((Keep.refl _ w2).alloc _) (fun _ _ h => h) (ExAt.mono (fun q _ hq => ⟨by simp at hq; omega, fun e => by have := (hKR.row.lt q e).2; simp at hq; omega⟩) hEx)
        obtain ⟨W7, hW7⟩ : ∃ W7, W7 = w2.alloc (.cells #[.int .i64 kx, .string wdx, .slice Ax nx cx] 25) := ⟨_, rfl⟩
        rw [← hW7] at hK3 hB0x hB1x hB2x hB7 hKRx hEx2
        have g2 := hB2x.cellAt (i := 2) rfl
        have k0 := hB7.cellAt (i := 0) rfl
        have k1 := hB7.cellAt (i := 1) rfl
        have k2 := hB7.cellAt (i := 2) rfl
        go_upto_region 8 with fail
        rw [← hW7]
        have hz7 : w.heap.size + 3 ≤ W7.heap.size := by have := hB2x.lt; omega
        clear hW7 hB0 hB1 hB2 hKR hB7 hK1 hK2 hEx hcl
        go_wp2_with (at_builtin; refine append_one (w.heap.size + 3) rfl (.tmp 37) (.tmp 39) 23 25 _ 3 48 rfl Try.underlying23 expr_info rfl (by decide) (by decide) _ l0.length cs [.int .i64 kx, .string wdx, .slice Ax nx cx] rfl rfl rfl ?h1a hKRx.row hz7 ?hla ?nexta)
        case h1a => intro u hu; simp at hu; rcases hu with rfl | rfl | rfl <;> rfl
        case hla => omega
        case nexta =>
          intro b5 cap5 w5 hown5 hK5 hb5
          have hkvb : ∀ q, kv.ownBlock = some q → w.heap.size + 3 ≤ q := fun q e => (hKRx.row.lt q e).1
          have hb5' : ∀ q, (Value.slice (some ⟨b5, 0, none⟩) (l0.length + 1) cap5).ownBlock = some q → kv.ownBlock = some q ∨ W7.heap.size ≤ q := fun q hq => by have := ob hq; subst this; exact hb5
          have hB2y := hB2x.keep hK5 (fun e => by have := hkvb _ e; omega)
          have hKp := (Keep.refl (· = w.heap.size + 1 + 1) w5).put 2 (.slice (some ⟨b5, 0, none⟩) (l0.length + 1) cap5)
          have HB0 := hid ((hB0x.keep hK5 (fun e => by have := hkvb _ e; omega)).keep hKp (fun e => by omega))
          have HB1 := hid ((hB1x.keep hK5 (fun e => by have := hkvb _ e; omega)).keep hKp (fun e => by omega))
          have HB2 := hid (hB2y.set 2 (.slice (some ⟨b5, 0, none⟩) (l0.length + 1) cap5))
          have HKR := hid ((hKRx.snoc hEx2 hown5 hK5 hb5' (fun q hq => by omega)).keep hKp (fun q hq e => by omega))
          have HK9 := hid (((hK.trans' hK3).trans hK5 (fun q hq => .inr (by have := hkvb _ hq; omega))).trans hKp (fun q hq => .inr (by omega)))
          have y2 := hB2y.cellAt (i := 2) rfl
          have z2 := hB2y.frozen 2
          clear hB0x hB1x hB2x hKRx hEx2 hown5 hK5 hb5 hb5' hK3 hB2y hKp
          go_wp2_with fail
          go_roundg (l.length - (k + 1))
          case measure => have := Hg.out; omega
          case rel => exact ⟨k + 1, _, _, _, by omega, rfl, rfl, hsx.out, by rw [List.length_append, Hkk.out]; rfl, HB0.out, HB1.out, HB2.out, HKR.out, HK9.out⟩
    · obtain rfl : k = l.length := by omega
      have hspl := Hsp.out
      rw [List.take_length] at hspl
      have hll0 : l0.length = l.length := (spdL_cnt hspl).1
      have hcc := (spdL_cnt hspl).2
      have hspd : spd (.node ke wde l) = spdK ke wde l0 := by rw [spd, hspl]
      have Hspd := hid hspd
      obtain ⟨hrd, hks⟩ := hKR.rd
      obtain ⟨A3, n3, c3, hkv, hn3, hnc3, hnm3, hcell3⟩ := id hrd
      subst hkv
      obtain rfl : n3 = l.length := by have := hks.length; omega
      have b0 := hB0.cellAt (i := 0) rfl
      have b2 := hB0.cellAt (i := 2) rfl
      have o0 := hB2.cellAt (i := 0) rfl
      have o1 := hB2.cellAt (i := 1) rfl
      have o2 := hB2.cellAt (i := 2) rfl
      clear hspl hspd Hsp
      by_cases h6 : ke = 6
      · have t6 : (((ke : Nat) : Int) == 6) = true := by simp [h6]
        have hsk := hid (show spd (.node ke wde l) = if 4 < l0.length then none else chk (allOf l0) by rw [Hspd.out]; unfold spdK; rw [if_pos h6])
        have hl2 : 2 ≤ l.length := by
          simp only [WF] at hwf
          rcases hwf with ⟨h, -⟩ | ⟨h, -⟩ | ⟨-, -, h, -⟩ | ⟨h, -⟩
          · omega
          · omega
          · exact h
          · omega
        clear h6
        by_cases h4 : 4 < l.length
        · have hres := hid (show spd (.node ke wde l) = none by rw [hsk.out, if_pos (by omega)])
          have g0 := hB1.cellAt (i := 0) rfl
          have g1 := hB1.cellAt (i := 1) rfl
          have g2 := hB1.cellAt (i := 2) rfl
          have f0 := hB1.frozen 0
          have f1 := hB1.frozen 1
          have f2 := hB1.frozen 2
          go_wp2_with fail
          obtain ⟨hres2, hKs⟩ := put3 hB1 (.int .i64 0) (.string ⟨#[]⟩) (.slice none 0 0)
          have r0 := hres2.cellAt (i := 0) rfl
          have r1 := hres2.cellAt (i := 1) rfl
          have r2 := hres2.cellAt (i := 2) rfl
          refine bodyPost_ret (v := .tuple #[.agg #[.int .i64 0, .string ⟨#[]⟩, .slice none 0 0], .int .i64 6]) (by simp [results, Try.results71, go_sem, r0, r1, r2]) rfl ?_
          rw [hres.out]
          exact ⟨rfl, hK.trans hKs (fun q hq => .inr (by omega))⟩
        · have hsl := hid (show spd (.node ke wde l) = chk (allOf l0) by rw [hsk.out, if_neg (by omega)])
          have hn4 : l.length ≤ 4 := by omega
          obtain ⟨h24, hsm⟩ := ord_small l.length hn4
          obtain ⟨W3, rfl⟩ : ∃ W3, W3 = wr := ⟨wr, rfl⟩
          have hKa := (Keep.refl (fun _ => False) W3).alloc (.cells #[.int .i64 5, .string ⟨#[]⟩, .slice none 0 0] 25)
          have hD : Blk (W3.alloc (.cells #[.int .i64 5, .string ⟨#[]⟩, .slice none 0 0] 25)) W3.heap.size 25 [.int .i64 5, .string ⟨#[]⟩, .slice none 0 0] := Blk.new W3 _ [_, _, _]
          obtain ⟨W4, hW4⟩ : ∃ W4, W4 = W3.alloc (.cells #[.int .i64 5, .string ⟨#[]⟩, .slice none 0 0] 25) := ⟨_, rfl⟩
          have hz4 : W4.heap.size = W3.heap.size + 1 := by rw [hW4]; simp
          have Hz4 := hid hz4
          have hx0 := fun o => (Blk.alloc hB2 o).cellAt (i := 2) rfl
          rw [← hW4] at hKa hD
          clear h4 hz4
          go_upto_region 14 with fail
          rw [← hW4]
          have o2' := hKa.cell o2 (fun h => h)
          clear hW4 hx0
          go_wp2_with fail
          refine (orders_any l.length hn4 W4).mono ?_
          rintro e W5 ⟨A5, m5, c5, ys, rfl, hrd5, hll5, hK5⟩
          obtain ⟨A', m', c', hv, hyl, hmc, hmm, hcell5⟩ := id hrd5
          simp only [Value.slice.injEq] at hv
          obtain ⟨rfl, rfl, rfl⟩ := hv
          have hml : m5 = (ord l.length).length := by have := hll5.length; omega
          subst hml
          have hD5 := hD.keep hK5 (fun h => h)
          have hz45 := hK5.size
          have hz4 := Hz4.out
          have hK35 := hKa.trans' hK5
          have hks3 : KsAt W3 (fun q => w.heap.size + 3 ≤ q ∧ q < W3.heap.size) l0 cs := KsAt.mono (fun q hlt hq => ⟨hq, hlt⟩) hks
          obtain ⟨b3, off3, rfl, hok3, hcell3⟩ := hcell3 (by omega)
          have hb3 : b3 < W3.heap.size := by
            obtain ⟨u, hu⟩ : ∃ u, cs[0]? = some u := ⟨_, List.getElem?_eq_getElem (by have := hks.length; omega)⟩
            exact World.block_lt_of_cell? W3 _ (hcell3 0 u hu)
          have HKs := hid (show ∀ wr, Keep (· = W3.heap.size) W5 wr → KsAt wr (fun q => w.heap.size + 3 ≤ q ∧ q < W3.heap.size) l0 cs ∧ ∀ j u, cs[j]? = some u → wr.cell? ⟨b3, off3 + j, none⟩ = some u from fun wr hwr =>
            ⟨KsAt.keep hwr (fun q hq e => by omega) (KsAt.keep hK35 (fun _ _ h => h) hks3), fun j u hj => hwr.cell (hK35.cell (hcell3 j u hj) (fun h => h)) (fun (e : b3 = _) => by omega)⟩)
          have HBs := hid (show ∀ wr, Keep (· = W3.heap.size) W5 wr → Blk wr (w.heap.size + 1) 25 [.int .i64 0, .string ⟨#[]⟩, .slice none 0 0] ∧ Blk wr (w.heap.size + 1 + 1) 25 [.int .i64 (ke : Int), .string wde, .slice (some ⟨b3, off3, none⟩) l.length c3] from fun wr hwr =>
            ⟨(hB1.keep hK35 (fun h => h)).keep hwr (fun e => by omega), (hB2.keep hK35 (fun h => h)).keep hwr (fun e => by omega)⟩)
          have HC := hid (show ∀ wr, Keep (· = W3.heap.size) W5 wr → ∀ (j : Nat) (u : Value), ys[j]? = some u → ∃ b off, A5 = some ⟨b, off, none⟩ ∧ wr.cell? ⟨b, off + j, none⟩ = some u from fun wr hwr j u hj => by
            obtain ⟨b, off, rfl, hok, hc⟩ := hcell5 (by have h1 := (List.getElem?_eq_some_iff.1 hj).1; have h2 := hll5.length; omega)
            exact ⟨b, off, rfl, hwr.cell (hc j u hj) (fun (e : b = _) => by have h2 : W4.heap.size ≤ b := hok; omega)⟩)
          have HR := hid (show ∀ wr, Keep (· = W3.heap.size) W5 wr → ∀ (j : Nat) (r : List Nat), (ord l.length)[j]? = some r → ∃ v, ys[j]? = some v ∧ Rd wr (okR W4.heap.size wr) v 1 (ints r) from fun wr hwr j r hj => by
            obtain ⟨v, h1, h2⟩ := hll5.nth j r hj
            exact ⟨v, h1, rdR_step h2 hwr (fun k hk e => by have := hk.1; omega)⟩)
          have HK35 := hid (hK.trans' hK35)
          have HP0 := hid (KR.nil (w.heap.size + 3) (fun q => w.heap.size + 3 ≤ q ∧ ¬ q = W3.heap.size) W5)
          clear hcell5 hrd5 hll5 hyl hks hks3 hrd hcell3 hB0 hB1 hB2 hKR hK35 hK5 hKa hD o0 o1 o2 o2' b2 hK hcells hr hl
          go_wp2_with fail
          go_loopg [57] (ord l.length).length (fun g i wr => ∃ j av cs2, j ≤ (ord l.length).length ∧ g = (ord l.length).length - j ∧ i = .int .i64 (j : Int) ∧ Blk wr W3.heap.size 25 [.int .i64 5, .string ⟨#[]⟩, av] ∧ KR (w.heap.size + 3) (fun q => w.heap.size + 3 ≤ q ∧ ¬ q = W3.heap.size) wr av (((ord l.length).take j).map fun o => ET.node 4 ByteArray.empty (sel l0 o)) cs2 ∧
            (∀ q, av.ownBlock = some q → W5.heap.size ≤ q) ∧ Keep (· = W3.heap.size) W5 wr)
          case atStart => exact ⟨0, _, [], Nat.zero_le _, rfl, rfl, hD5, HP0.out, fun q h => (by cases h), Keep.refl _ _⟩
          case round =>
            clear hD5 HP0
            obtain ⟨j, av, cs2, hj, hg, rfl, hBD, hKR, hav, hK⟩ := hrel
            have Hg2 := hid hg
            clear hg
            have hzw := hK.size
            by_cases hlt2 : j < (ord l.length).length
            · obtain ⟨Wr, rfl⟩ : ∃ Wr, Wr = wr := ⟨wr, rfl⟩
              obtain ⟨o, ho⟩ : ∃ o, (ord l.length)[j]? = some o := ⟨_, List.getElem?_eq_getElem hlt2⟩
              obtain ⟨v, hv, hrv⟩ := HR.out Wr hK j o ho
              obtain ⟨b0, off0, rfl, y0⟩ := HC.out Wr hK j v hv
              obtain ⟨A2, m2, c2, rfl, hl2', hc2, hm2, hcl2⟩ := hrv
              obtain ⟨hol, hok⟩ := hsm o (List.mem_of_getElem? ho)
              obtain rfl : m2 = o.length := by simpa [ints] using hl2'.symm
              obtain ⟨b4, off4, rfl, hokb4, hcell4⟩ := hcl2 (by omega)
              have hrows : (((ord l.length).take (j + 1)).map fun o => ET.node 4 ByteArray.empty (sel l0 o)) = (((ord l.length).take j).map fun o => ET.node 4 ByteArray.empty (sel l0 o)) ++ [.node 4 ByteArray.empty (sel l0 o)] := by rw [List.take_add_one, ho]; simp
              have Hrows := hid hrows
              have hE0 : Blk (Wr.alloc (.cells #[.int .i64 4, .string ⟨#[]⟩, .slice none 0 0] 25)) Wr.heap.size 25 [.int .i64 4, .string ⟨#[]⟩, .slice none 0 0] := Blk.new Wr _ [_, _, _]
              have hK6 := (Keep.refl (fun _ => False) Wr).alloc (.cells #[.int .i64 4, .string ⟨#[]⟩, .slice none 0 0] 25)
              obtain ⟨W6, hW6⟩ : ∃ W6, W6 = Wr.alloc (.cells #[.int .i64 4, .string ⟨#[]⟩, .slice none 0 0] 25) := ⟨_, rfl⟩
              have hz6 : W6.heap.size = Wr.heap.size + 1 := by rw [hW6]; simp
              have Hz6 := hid hz6
              rw [← hW6] at hE0 hK6
              have HP0 := hid (KR.nil (w.heap.size + 3) (fun z => (w.heap.size + 3 ≤ z ∧ z < W3.heap.size) ∨ W6.heap.size ≤ z) W6)
              have Hhv := hid hv
              have hjl : ((ord l.length).take j).length ≤ 24 := by rw [List.length_take]; omega
              clear ho hv hl2' hrows hz6
              go_wp2_with fail
              rw [← hW6]
              clear hW6
              go_loopg [64] o.length (fun g i wx => ∃ q sv cs3, q ≤ o.length ∧ g = o.length - q ∧ i = .int .i64 (q : Int) ∧ Blk wx Wr.heap.size 25 [.int .i64 4, .string ⟨#[]⟩, sv] ∧ KR (w.heap.size + 3) (fun z => (w.heap.size + 3 ≤ z ∧ z < W3.heap.size) ∨ W6.heap.size ≤ z) wx sv (sel l0 (o.take q)) cs3 ∧
                (∀ z, sv.ownBlock = some z → W6.heap.size ≤ z) ∧ Keep (· = Wr.heap.size) W6 wx)
              case atStart => exact ⟨0, _, [], Nat.zero_le _, rfl, rfl, hE0, HP0.out, fun q h => (by cases h), Keep.refl _ _⟩
              case round =>
                clear hE0 HP0 y0
                obtain ⟨q, sv, cs3, hq, hg, rfl, hBE, hKS, hsv, hKv⟩ := hrel
                have Hg3 := hid hg
                clear hg
                have hz6 := Hz6.out
                have hKx : Keep (fun _ => False) Wr wr := hK6.trans hKv (fun z hz => .inr (by omega))
                have hKy : Keep (· = W3.heap.size) W5 wr := hK.trans' (hKx.mono (fun _ _ h => h.elim))
                obtain ⟨hkids, hkc⟩ := HKs.out wr hKy
                obtain ⟨-, hBo⟩ := HBs.out wr hKy
                have hzx := hKx.size
                have hzv := hKv.size
                by_cases hlt3 : q < o.length
                · obtain ⟨k, hk⟩ : ∃ k, o[q]? = some k := ⟨_, List.getElem?_eq_getElem hlt3⟩
                  have hkn : k < l.length := hok k (List.mem_of_getElem? hk)
                  obtain ⟨a0, a1, a2, q1, q2, q3, hE⟩ := hkids.nth k (l0[k]'(by omega)) (by simp)
                  obtain ⟨wd1, A1, n1, c1, hv⟩ := hE.kind
                  simp at hv
                  obtain ⟨rfl, rfl, rfl⟩ := hv
                  have d0 := hkc _ _ q1
                  have d1 := hkc _ _ q2
                  have d2 := hkc _ _ q3
                  rw [← Nat.add_assoc] at d1 d2
                  have d4 := hKx.cell (hcell4 q (.int .i64 (k : Int)) (by simp [ints, hk])) (fun h => h)
                  have d5 := hBE.cellAt (i := 2) rfl
                  have d6 := hBo.cellAt (i := 2) rfl
                  have hsel := sel_snoc l0 (o.take q) k _ (List.getElem?_eq_getElem (by omega : k < l0.length))
                  rw [show o.take q ++ [k] = o.take (q + 1) from by rw [List.take_add_one, hk]; rfl] at hsel
                  have Hsel := hid hsel
                  have hsl4 : (sel l0 (o.take q)).length ≤ 4 := by
                    have h1 : (sel l0 (o.take q)).length ≤ (o.take q).length := List.length_filterMap_le _ _
                    rw [List.length_take] at h1
                    omega
                  clear hk q1 q2 q3 hkc hkids hsel
                  go_upto_region 21 with fail
                  have hrowD := hKS.row
                  have e5 := fun o => (Blk.alloc hBE o).cellAt (i := 2) rfl
                  have hsvE : ∀ z, sv.ownBlock = some z → ¬ Wr.heap.size = z := fun z hz e => by have := hsv z hz; omega
                  have hnews : (wr.drew.alloc (.cells #[.int .i64 (kindE (l0[k]'(by omega)) : Int), .string wd1, .slice A1 n1 c1] 25)).heap[wr.heap.size]? = some (.cells #[.int .i64 (kindE (l0[k]'(by omega)) : Int), .string wd1, .slice A1 n1 c1] 25 (0, 0)) := heap_alloc_at wr.drew _
                  go_region_law
                    ((refine step_append_lies _ (by rfl) _ _ _ (by rfl) (w.heap.size + 3) 25 i0 _ 3 48 Try.underlying23 hi0 hz0 hz1 hz2 rfl (by omega) sv (sel l0 (o.take q)).length cs3 (by rfl) ((hrowD.drew).alloc _)
                        ⟨wr.heap.size, 0, none⟩ 1 1 [.int .i64 (kindE (l0[k]'(by omega)) : Int), .string wd1, .slice A1 n1 c1] (by rfl) (by rfl) (World.news_of_block (cs := #[.int .i64 (kindE (l0[k]'(by omega)) : Int), .string wd1, .slice A1 n1 c1]) (t := 25) (fr := (0, 0)) hnews) (by simp [Value.oneCell'])
                        (by omega) (by simp only [maxLen]; omega) (by omega) (by simp; omega) (wr.heap.size + 1) (by simp) ?_; intro gg cap w1 hown1 hgrow hat hlt; have hBg : Blk w1 Wr.heap.size 25 [.int .i64 4, .string ⟨#[]⟩, sv] := (hgrow.block Wr.heap.size (by simp; omega) (fun e => hsvE _ e.symm rfl)).trans ((hBE.drew).alloc _); have f2 := hBg.frozen 2; have g2 := hBg.cellAt (i := 2) rfl))
                  all_goals
                    have hKg : Keep (fun z => sv.ownBlock = some z) wr w1 := by
                      first
                        | exact (((Keep.refl _ wr).drew).alloc _).grown hgrow (fun z hz => .inl hz)
                        | exact (((Keep.refl _ wr).alloc _).drew).grown hgrow (fun z hz => .inl hz)
                        | exact ((Keep.refl _ wr).alloc _).grown hgrow (fun z hz => .inl hz)
                    have hEl : ExAt wr (fun z => ((w.heap.size + 3 ≤ z ∧ z < W3.heap.size) ∨ W6.heap.size ≤ z) ∧ ¬ sv.ownBlock = some z) (l0[k]'(by omega)) (.agg #[.int .i64 (kindE (l0[k]'(by omega)) : Int), .string wd1, .slice A1 n1 c1]) := ExAt.mono (fun z _ hz => ⟨.inl hz, fun e => by have := hsv z e; omega⟩) hE
                    have hbz : ∀ z, (Value.slice (some ⟨gg, 0, none⟩) ((sel l0 (o.take q)).length + 1) cap).ownBlock = some z → sv.ownBlock = some z ∨ wr.heap.size ≤ z := fun z hz => by
                      have := ob hz
                      subst this
                      rcases hat with h | h
                      · exact .inl h
                      · exact .inr (by omega)
                    have HS := hid (show KR (w.heap.size + 3) (fun z => (w.heap.size + 3 ≤ z ∧ z < W3.heap.size) ∨ W6.heap.size ≤ z) (w1.setCell ⟨Wr.heap.size, 2, none⟩ (.slice (some ⟨gg, 0, none⟩) ((sel l0 (o.take q)).length + 1) cap)) (.slice (some ⟨gg, 0, none⟩) ((sel l0 (o.take q)).length + 1) cap) (sel l0 (o.take (q + 1))) (cs3 ++ [.int .i64 (kindE (l0[k]'(by omega)) : Int), .string wd1, .slice A1 n1 c1]) by
                      rw [Hsel.out]
                      exact (hKS.snoc hEl hown1 hKg hbz (fun z hz => .inr (by omega))).keep ((Keep.refl (· = Wr.heap.size) w1).put 2 _) (fun z hz e => by omega))
                    have HB := hid (hBg.set 2 (.slice (some ⟨gg, 0, none⟩) ((sel l0 (o.take q)).length + 1) cap))
                    have Hsv := hid (show ∀ z, (Value.slice (some ⟨gg, 0, none⟩) ((sel l0 (o.take q)).length + 1) cap).ownBlock = some z → W6.heap.size ≤ z from fun z hz => (hbz z hz).elim (hsv z) (fun h => by omega))
                    have HK := hid ((hKv.trans hKg (fun z hz => .inr (hsv z hz))).put 2 (.slice (some ⟨gg, 0, none⟩) ((sel l0 (o.take q)).length + 1) cap))
                    clear hown1 hgrow hat hlt hBg hKg hEl hbz hKS hBE hsv hKv hE hBo hKx hKy f2 g2
                    go_wp2_with fail
                    go_roundg (o.length - (q + 1))
                    case measure => have := Hg3.out; omega
                    case rel => exact ⟨q + 1, _, _, by omega, rfl, rfl, HB.out, HS.out, Hsv.out, HK.out⟩
                · obtain rfl : q = o.length := by omega
                  rw [List.take_length] at hKS
                  obtain ⟨hrdS, hksS⟩ := hKS.rd
                  obtain ⟨A6, n6, c6, hsvv⟩ : ∃ A n c, sv = .slice A n c := by obtain ⟨A, n, c, h, -⟩ := hrdS; exact ⟨A, n, c, h⟩
                  subst hsvv
                  have hKRx := hKR.keep hKx (fun _ _ h => h)
                  have hBDx := hBD.keep hKx (fun h => h)
                  have havW : ∀ z, av.ownBlock = some z → z < Wr.heap.size := fun z hz => (hKR.row.lt z hz).2
                  have hEx4 : ExAt wr (fun z => (w.heap.size + 3 ≤ z ∧ ¬ z = W3.heap.size) ∧ ¬ av.ownBlock = some z) (.node 4 ByteArray.empty (sel l0 o)) (.agg #[.int .i64 4, .string ⟨#[]⟩, .slice A6 n6 c6]) :=
                    ExAt.mono (fun z _ hz => by
                      rcases hz with hz | hz
                      · exact ⟨⟨hz.1, by omega⟩, fun e => by have := hav z e; omega⟩
                      · exact ⟨⟨by omega, by omega⟩, fun e => by have := havW z e; omega⟩) (ExAt.over (k := 4) (wd := ByteArray.empty) hrdS hksS)
                  have e0 := hBE.cellAt (i := 0) rfl
                  have e1 := hBE.cellAt (i := 1) rfl
                  have e2 := hBE.cellAt (i := 2) rfl
                  have a2 := hBDx.cellAt (i := 2) rfl
                  have hzB : w.heap.size + 3 ≤ wr.heap.size := by omega
                  have hlen2 : (((ord l.length).take j).map fun o => ET.node 4 ByteArray.empty (sel l0 o)).length ≤ 24 := by rw [List.length_map]; exact hjl
                  have hrowA := hKRx.row
                  clear hKS hrdS hksS hKR hBD hBE hsv hKv hkids hkc hBo
                  generalize hT : (((ord l.length).take j).map fun o => ET.node 4 ByteArray.empty (sel l0 o)) = T at *
                  have HT := hid hT
                  clear hT
                  go_wp2_with (at_builtin; refine append_one (w.heap.size + 3) rfl (.tmp 80) (.tmp 82) 23 25 _ 3 48 rfl Try.underlying23 expr_info rfl (by decide) (by decide) _ T.length cs2 [.int .i64 4, .string ⟨#[]⟩, .slice A6 n6 c6] rfl rfl rfl ?h1b hrowA hzB ?hlb ?nextb)
                  case h1b => intro u hu; simp at hu; rcases hu with rfl | rfl | rfl <;> rfl
                  case hlb => omega
                  case nextb =>
                    intro b5 cap5 w5 hown5 hK7 hb5
                    have hb5' : ∀ q, (Value.slice (some ⟨b5, 0, none⟩) (T.length + 1) cap5).ownBlock = some q → av.ownBlock = some q ∨ wr.heap.size ≤ q := fun q hq => by have := ob hq; subst this; exact hb5
                    have hBDy := hBDx.keep hK7 (fun e => by have := hav _ e; omega)
                    have hKp := (Keep.refl (· = W3.heap.size) w5).put 2 (.slice (some ⟨b5, 0, none⟩) (T.length + 1) cap5)
                    have HB := hid (hBDy.set 2 (.slice (some ⟨b5, 0, none⟩) (T.length + 1) cap5))
                    have HS := hid (show KR (w.heap.size + 3) (fun q => w.heap.size + 3 ≤ q ∧ ¬ q = W3.heap.size) (w5.setCell ⟨W3.heap.size, 2, none⟩ (.slice (some ⟨b5, 0, none⟩) (T.length + 1) cap5)) (.slice (some ⟨b5, 0, none⟩) (T.length + 1) cap5) (((ord l.length).take (j + 1)).map fun o => ET.node 4 ByteArray.empty (sel l0 o)) (cs2 ++ [.int .i64 4, .string ⟨#[]⟩, .slice A6 n6 c6]) by
                      rw [Hrows.out]
                      exact (hKRx.snoc hEx4 hown5 hK7 hb5' (fun q hq => ⟨by omega, by omega⟩)).keep hKp (fun q hq e => hq.2 e))
                    have Hav := hid (show ∀ q, (Value.slice (some ⟨b5, 0, none⟩) (T.length + 1) cap5).ownBlock = some q → W5.heap.size ≤ q from fun q hq => (hb5' q hq).elim (hav q) (fun h => by omega))
                    have HK := hid (((hKy.trans hK7 (fun q hq => .inr (hav q hq)))).put 2 (.slice (some ⟨b5, 0, none⟩) (T.length + 1) cap5))
                    have y2 := hBDy.cellAt (i := 2) rfl
                    have z2 := hBDy.frozen 2
                    clear hown5 hK7 hb5 hb5' hBDy hKp hEx4 hKRx hBDx hav havW hKx hKy hrowA
                    go_wp2_with fail
                    go_roundg ((ord l.length).length - (j + 1))
                    case measure => have := Hg2.out; omega
                    case rel => exact ⟨j + 1, _, _, by omega, rfl, rfl, HB.out, HS.out, Hav.out, HK.out⟩
            · obtain rfl : j = (ord l.length).length := by omega
              rw [List.take_length] at hKR
              obtain ⟨hB1, hB2⟩ := HBs.out wr hK
              have hgt : ET.node 5 ByteArray.empty ((ord l.length).map fun o => ET.node 4 ByteArray.empty (sel l0 o)) = allOf l0 := by unfold allOf; rw [hll0]
              have hac := all_cnt (ks := l0) (by omega) (B := 147456000) (fun e he => by have := cntL_mem he; omega)
              rw [← hgt] at hac
              obtain ⟨hrdS, hksS⟩ := hKR.rd
              obtain ⟨A6, n6, c6, hsvv⟩ : ∃ A n c, av = .slice A n c := by obtain ⟨A, n, c, h, -⟩ := hrdS; exact ⟨A, n, c, h⟩
              subst hsvv
              have hEx0 := ExAt.over (k := 5) (wd := ByteArray.empty) hrdS hksS
              have e0 := hBD.cellAt (i := 0) rfl
              have e1 := hBD.cellAt (i := 1) rfl
              have e2 := hBD.cellAt (i := 2) rfl
              have o0 := hB2.cellAt (i := 0) rfl
              have o1 := hB2.cellAt (i := 1) rfl
              have o2 := hB2.cellAt (i := 2) rfl
              have q0 := hB2.frozen 0
              have q1 := hB2.frozen 1
              have q2 := hB2.frozen 2
              have hK : Keep (fun _ => False) w wr := HK35.out.trans hK (fun z hz => .inr (by omega))
              obtain ⟨hB2', hKq⟩ := put3 hB2 (.int .i64 5) (.string ⟨#[]⟩) (.slice A6 n6 c6)
              have hB1 := hB1.keep hKq (fun e => by omega)
              have hEx := ExAt.keep hKq (fun z hz e => by omega) hEx0
              have hK := hK.trans hKq (fun z hz => .inr (by omega))
              have x0 := hB2'.cellAt (i := 0) rfl
              have x1 := hB2'.cellAt (i := 1) rfl
              have x2 := hB2'.cellAt (i := 2) rfl
              generalize hT : ((ord l.length).map fun o => ET.node 4 ByteArray.empty (sel l0 o)) = T at *
              have hEx : ExAt _ _ (.node 5 ByteArray.empty T) (.agg #[.int .i64 5, .string ⟨#[]⟩, .slice A6 n6 c6]) := hEx
              have hsz := Size_any _ _ _ _ hEx (by omega)
              have hres0 : spd (.node ke wde l) = chk (.node 5 ByteArray.empty T) := by rw [hsl.out, ← hgt]
              have Hres0 := hid hres0
              have hB2 := hB2'
              clear hres0 hgt hT hKR hrdS hksS hEx0 hBD hB2' hKq
              go_wp2_with fail
              refine hsz.mono ?_
              rintro r w6 ⟨rfl, hK6⟩
              clear hsz x0 x1 x2
              have hB1z := hB1.keep hK6 (fun h => h)
              have hB2z := hB2.keep hK6 (fun h => h)
              have g0 := hB1z.cellAt (i := 0) rfl
              have g1 := hB1z.cellAt (i := 1) rfl
              have g2 := hB1z.cellAt (i := 2) rfl
              have f0 := hB1z.frozen 0
              have f1 := hB1z.frozen 1
              have f2 := hB1z.frozen 2
              have p0 := hB2z.cellAt (i := 0) rfl
              have p1 := hB2z.cellAt (i := 1) rfl
              have p2 := hB2z.cellAt (i := 2) rfl
              by_cases hbig : 4096 < cnt (.node 5 ByteArray.empty T)
              · have hres := hid (show spd (.node ke wde l) = none by rw [Hres0.out]; unfold chk; rw [if_pos hbig])
                go_wp2_with fail
                obtain ⟨hres2, hKs⟩ := put3 hB1z (.int .i64 0) (.string ⟨#[]⟩) (.slice none 0 0)
                have r0 := hres2.cellAt (i := 0) rfl
                have r1 := hres2.cellAt (i := 1) rfl
                have r2 := hres2.cellAt (i := 2) rfl
                refine bodyPost_ret (v := .tuple #[.agg #[.int .i64 0, .string ⟨#[]⟩, .slice none 0 0], .int .i64 6]) (by simp [results, Try.results71, go_sem, r0, r1, r2]) rfl ?_
                rw [hres.out]
                exact ⟨rfl, (hK.trans' hK6).trans hKs (fun q hq => .inr (by omega))⟩
              · have hres := hid (show spd (.node ke wde l) = some (.node 5 ByteArray.empty T) by rw [Hres0.out]; unfold chk; rw [if_neg hbig])
                go_wp2_with fail
                obtain ⟨hres2, hKs⟩ := put3 hB1z (.int .i64 5) (.string ⟨#[]⟩) ((.slice A6 n6 c6))
                have r0 := hres2.cellAt (i := 0) rfl
                have r1 := hres2.cellAt (i := 1) rfl
                have r2 := hres2.cellAt (i := 2) rfl
                refine bodyPost_ret (v := .tuple #[.agg #[.int .i64 5, .string ⟨#[]⟩, (.slice A6 n6 c6)], .int .i64 0]) (by simp [results, Try.results71, go_sem, r0, r1, r2]) rfl ?_
                rw [hres.out]
                exact ⟨_, _, _, _, _, rfl, ExAt.mono (fun q _ hq => by omega) (ExAt.keep hKs (fun q hq e => by omega) (ExAt.keep hK6 (fun _ _ h => h) hEx)), (hK.trans' hK6).trans hKs (fun q hq => .inr (by omega))⟩
      · have t6 : (((ke : Nat) : Int) == 6) = false := by simp; omega
        have hsk := hid (show spd (.node ke wde l) = chk (.node ke wde l0) by rw [Hspd.out]; unfold spdK; rw [if_neg h6])
        have hcx : cnt (.node ke wde l0) ≤ 1099511627776 := by simp only [cnt]; omega
        have hEx : ExAt wr (fun q => w.heap.size + 3 ≤ q) (.node ke wde l0) (.agg #[.int .i64 (ke : Int), .string wde, .slice A3 l.length c3]) := ExAt.over hrd hks
        have hsz := Size_any _ wr _ _ hEx hcx
        clear h6
        go_wp2_with fail
        refine hsz.mono ?_
        rintro r w6 ⟨rfl, hK6⟩
        clear hsz
        have hB1z := hB1.keep hK6 (fun h => h)
        have hB2z := hB2.keep hK6 (fun h => h)
        have g0 := hB1z.cellAt (i := 0) rfl
        have g1 := hB1z.cellAt (i := 1) rfl
        have g2 := hB1z.cellAt (i := 2) rfl
        have f0 := hB1z.frozen 0
        have f1 := hB1z.frozen 1
        have f2 := hB1z.frozen 2
        have p0 := hB2z.cellAt (i := 0) rfl
        have p1 := hB2z.cellAt (i := 1) rfl
        have p2 := hB2z.cellAt (i := 2) rfl
        by_cases hbig : 4096 < cnt (.node ke wde l0)
        · have hres := hid (show spd (.node ke wde l) = none by rw [hsk.out]; unfold chk; rw [if_pos hbig])
          go_wp2_with fail
          obtain ⟨hres2, hKs⟩ := put3 hB1z (.int .i64 0) (.string ⟨#[]⟩) (.slice none 0 0)
          have r0 := hres2.cellAt (i := 0) rfl
          have r1 := hres2.cellAt (i := 1) rfl
          have r2 := hres2.cellAt (i := 2) rfl
          refine bodyPost_ret (v := .tuple #[.agg #[.int .i64 0, .string ⟨#[]⟩, .slice none 0 0], .int .i64 6]) (by simp [results, Try.results71, go_sem, r0, r1, r2]) rfl ?_
          rw [hres.out]
          exact ⟨rfl, (hK.trans' hK6).trans hKs (fun q hq => .inr (by omega))⟩
        · have hres := hid (show spd (.node ke wde l) = some (.node ke wde l0) by rw [hsk.out]; unfold chk; rw [if_neg hbig])
          go_wp2_with fail
          obtain ⟨hres2, hKs⟩ := put3 hB1z (.int .i64 (ke : Int)) (.string wde) ((.slice A3 l.length c3))
          have r0 := hres2.cellAt (i := 0) rfl
          have r1 := hres2.cellAt (i := 1) rfl
          have r2 := hres2.cellAt (i := 2) rfl
          refine bodyPost_ret (v := .tuple #[.agg #[.int .i64 (ke : Int), .string wde, (.slice A3 l.length c3)], .int .i64 0]) (by simp [results, Try.results71, go_sem, r0, r1, r2]) rfl ?_
          rw [hres.out]
          exact ⟨_, _, _, _, _, rfl, ExAt.mono (fun q _ hq => by omega) (ExAt.keep hKs (fun q hq e => by omega) (ExAt.keep hK6 (fun _ _ h => h) hEx)), (hK.trans' hK6).trans hKs (fun q hq => .inr (by omega))⟩
mutual
theorem Spread_any : ∀ e : ET, WF e → SpdOK e
  | .node k wd l, h => Spread_node k wd l h (Spread_anyL l (by
      simp only [WF] at h
      rcases h with ⟨-, -, h⟩ | ⟨-, -, h⟩ | ⟨-, -, -, h⟩ | ⟨-, -, -, h⟩
      · rw [h]; trivial
      · rw [h]; trivial
      · exact h
      · exact h))
theorem Spread_anyL : ∀ l : List ET, WFL l → ∀ e, e ∈ l → SpdOK e
  | [], _, e, h => absurd h (by simp)
  | x :: l, hw, e, h => by
    simp only [WFL] at hw
    rcases List.mem_cons.1 h with h | h
    · rw [h]; exact Spread_any x hw.1
    · exact Spread_anyL l hw.2 e h
end
end Ex
end Go.Proofs.Ytfgkcifkfokoiaa
