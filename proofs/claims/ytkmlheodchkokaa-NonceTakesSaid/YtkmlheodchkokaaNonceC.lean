/- Walks of Counter.Bytes, Counter.Take and the reference's Take. -/
import Derived.Test.YtkmlheodchkokaaNonceB
namespace Go.Proofs.Ytkmlheodchkokaa
open Go.RowKit

def RetS (bs : List UInt8) (w : World) (e : Ending) (w' : World) : Prop :=
  ∃ A c, e = .returned (.slice A bs.length c) ∧ bs.length ≤ c ∧ At w' (fun b => b < w'.heap.size ∧ w.heap.size ≤ b) A (bvs bs) ∧ Below w.heap.size w w'

set_option maxHeartbeats 400000 in
theorem bytes_yes (e n : Nat) (w : World) (he : e ≤ 64) (hn : n ≤ 1099511627776) :
    Calls Try.prog 9 #[.agg #[.int .i64 (e : Int), .int .i64 (n : Int)]] w (RetS (nb e n) w) := by
  go_enter Try.func9, Try.ntmps9
  go_wp2_with fail
  refine (of_yes e n _ he hn).mono ?_
  rintro e1 w1 ⟨A, c, rfl, hc, hat, hb⟩
  go_wp2_with fail
  go_ret
  refine ⟨A, c, rfl, hc, hat.more fun b h => ⟨h.1, by have := h.2; simp at this; omega⟩, ((Below.refl _ _).alloc (Nat.le_refl _) _).trans (hb.mono (by simp))⟩

/-- Blocks of the call's own that the row v does not lie in. -/
def Nn (B : Nat) (w : World) (v : Value) : Nat → Prop := fun b => b < w.heap.size ∧ B ≤ b ∧ some b ≠ v.ownBlock

theorem slbs_step {wr w1 w2 : World} {B E k : Nat} {out v' u : Value} {xs : List Value} {l : List (List UInt8)} {bs : List UInt8} (hown : wr.ownsRow B E 1 out k xs) (hS : SlBs wr (Nn B wr out) xs l)
    (hb1 : Below wr.heap.size wr w1) (hu : SlB w1 (fun b => b < w1.heap.size ∧ wr.heap.size ≤ b) u bs) (hB : B ≤ wr.heap.size) (hg : w1.grownBy w2 out.ownBlock)
    (hat : v'.ownBlock = out.ownBlock ∨ v'.ownBlock = some (w1.heap.size + 1)) : SlBs w2 (Nn B w2 v') (xs ++ [u]) (l ++ [bs]) := by
  have hs1 := hb1.size
  have hs2 := hg.size
  have hlt : ∀ g, out.ownBlock = some g → g < wr.heap.size := fun g h => (hown.lt g h).2
  refine SlBs.snoc ?_ ?_
  · refine ((hS.keep (w' := w2) fun p hp => ?_)).more fun b hb => ?_
    · exact (hg.cell_far p (by have := hp.1; omega) hp.2.2).trans (hb1.cell hp.1)
    · refine ⟨by have := hb.1; omega, hb.2.1, ?_⟩
      rcases hat with h | h
      · rw [h]; exact hb.2.2
      · rw [h]; intro e; injection e with e; have := hb.1; omega
  · refine (hu.keep (w' := w2) fun p hp => hg.cell_far p hp.1 ?_).more fun b hb => ⟨by have := hb.1; omega, by have := hb.2; omega, ?_⟩
    · intro e; have := hlt _ e.symm; have := hp.2; omega
    · rcases hat with h | h
      · intro e; rw [h] at e; have := hlt _ e.symm; have := hb.2; omega
      · rw [h]; intro e; injection e with e; have := hb.1; omega

theorem slbs_set {wr : World} {B : Nat} {out : Value} {xs : List Value} {l : List (List UInt8)} (hS : SlBs wr (Nn B wr out) xs l) {p : Addr} (hp : p.block < B) (u : Value) : SlBs (wr.setCell p u) (Nn B (wr.setCell p u) out) xs l :=
  (hS.keep fun q hq => World.cell?_setCell_other wr p q u (fun e => by subst e; have := hq.2.1; omega)).more fun b h => ⟨by simpa using h.1, h.2⟩

theorem infoSl2 : (Try.prog.info? 30).map (fun i => (i.zero, i.size, i.bytes)) = some (some (.slice none 0 0), 1, 24) := by kernel_rfl

theorem nbs_succ (e l k : Nat) : nbs e l (k + 1) = nbs e l k ++ [nb e (l + k + 1)] := rfl

/-- What a Take hands back where it may: the nonces (the second and the third result: r1, r2). -/
def RetTake (E : TypeId) (e l n : Nat) (r1 r2 : Value) (w : World) (r : Ending) (w' : World) : Prop :=
  ∃ A c xs, r = .returned (.tuple #[.slice A n c, r1, r2]) ∧ w'.ownsRow w.heap.size E 1 (.slice A n c) n xs ∧ SlBs w' (fun b => b < w'.heap.size) xs (nbs e l n) ∧ Below w.heap.size w w'

set_option maxHeartbeats 1000000 in
theorem refTake_yes (e l n : Nat) (w : World) (he : e ≤ 64) (hn : n ≤ 4096) (hl : l + n ≤ 1099511627776) :
    Calls Try.prog 5 #[.int .i64 (e : Int), .int .i64 (l : Int), .int .i64 (n : Int)] w (RetTake 30 e l n (.int .i64 ((l + n : Nat) : Int)) (.int .i64 0) w) := by
  obtain ⟨i0, hi0, hz0, hz1, hz2⟩ := info_parts infoSl2
  have hr : rightB e l = true := by unfold rightB; exact decide_eq_true (by omega)
  go_enter Try.func5, Try.ntmps5
  go_wp2_with fail
  refine (refRight_any _ _ _).mono ?_
  rintro e1 w1 ⟨rfl, rfl⟩
  rw [hr]
  go_wp2_with fail
  go_loopw [9, 10] (fun v i wr => ∃ (k : Nat) (xs : List Value), k ≤ n ∧ i = .int .i64 ((k : Int) + 1) ∧ wr.ownsRow w.heap.size 30 1 v k xs ∧ SlBs wr (Nn w.heap.size wr v) xs (nbs e l k) ∧ Below w.heap.size w wr) (fun _ i _ => (n + 1 - (intOf i).toNat))
  case atStart => exact ⟨0, [], Nat.zero_le _, rfl, World.ownsRow_nil _ _ _ _, SlBs.nil_, Below.refl _ _⟩
  case round =>
    obtain ⟨k, xs, hk, rfl, hown, hS, hb⟩ := hrel
    by_cases hlt : k < n
    · go_wp2_with fail
      have hc := refOf_yes e (l + k + 1) wr he (by omega)
      rw [show ((l + k + 1 : Nat) : Int) = (l : Int) + ((k : Int) + 1) from by omega] at hc
      refine hc.mono ?_
      rintro e1 w1 ⟨A1, c1, rfl, hc1, hat1, hb1⟩
      rw [nb_length] at hc1 ⊢
      have hown1 := own_below hown hb1
      have hz : w.heap.size ≤ w1.heap.size := Nat.le_trans hb.size hb1.size
      go_wp2_with (at_builtin; refine wpList_app1 rfl _ _ 24 rfl w.heap.size 30 i0 _ 24 Try.underlying24 hi0 hz0 hz1 hz2 rfl _ _ _ rfl hown1 (.slice A1 12 c1) _ rfl rfl (by omega) (by omega) hz ?_; intro v' w2 hown2 hg2 hat2)
      have hu : SlB w1 (fun b => b < w1.heap.size ∧ wr.heap.size ≤ b) (.slice A1 12 c1) (nb e (l + k + 1)) := ⟨A1, c1, by rw [nb_length], hat1⟩
      have hS2 := slbs_step hown hS hb1 hu hb.size hg2 hat2
      have hb2 := below_app (hb.trans (hb1.mono hb.size)) hg2 hz (own_base hown)
      clear hown hown1 hS hu hat1 hat2 hc
      go_roundw
      case rel => exact ⟨k + 1, _, by omega, by go_num, hown2, hS2, hb2⟩
      case measure => simp [intOf]; omega
    · obtain rfl : k = n := by omega
      obtain ⟨A, c, rfl, hc⟩ := own_form hown
      go_wp2
      go_ret3
      exact ⟨A, c, xs, rfl, hown, hS.more fun b h => h.1, hb⟩

set_option maxHeartbeats 1000000 in
theorem take_yes (e l n : Nat) (w : World) (he : e ≤ 64) (hn : n ≤ 4096) (hl : l + n ≤ 1099511627776) :
    Calls Try.prog 4 #[.agg #[.int .i64 (e : Int), .int .i64 (l : Int)], .int .i64 (n : Int)] w (RetTake 30 e l n (.agg #[.int .i64 (e : Int), .int .i64 ((l + n : Nat) : Int)]) (.int .i64 0) w) := by
  obtain ⟨i0, hi0, hz0, hz1, hz2⟩ := info_parts infoSl2
  have hr : rightB e l = true := by unfold rightB; exact decide_eq_true (by omega)
  have hd1 : decide ((n : Int) < 0) = false := by simp
  have hd2 : decide (4096 < (n : Int)) = false := by simp; omega
  go_enter Try.func4, Try.ntmps4
  go_wp2_with fail
  refine (right_any _ _ _).mono ?_
  rintro e1 w1 ⟨rfl, hb1⟩
  rw [hr]
  obtain ⟨g0, g1, hb, hsz⟩ := new2 hb1
  clear hb1
  have c0 := blk_cell g0 0 _ rfl
  have c1 := blk_cell g0 1 _ rfl
  go_wp2_with fail
  clear c0 c1 hd1 hd2
  go_loopw [7, 27] (fun v i wr => ∃ (k : Nat) (xs : List Value), k ≤ n ∧ i = .int .i64 (k : Int) ∧ wr.ownsRow (w.heap.size + 2) 30 1 v k xs ∧ SlBs wr (Nn (w.heap.size + 2) wr v) xs (nbs e l k) ∧
    wr.heap[w.heap.size]? = some (.cells #[.int .i64 (e : Int), .int .i64 ((l : Int) + k)] 23 (0, 0)) ∧ wr.heap[w.heap.size + 1]? = some (.cells #[.int .i64 0, .int .i64 0] 23 (0, 0)) ∧ Below w.heap.size w wr ∧ w.heap.size + 2 ≤ wr.heap.size) (fun _ i _ => (n - (intOf i).toNat))
  case atStart => exact ⟨0, [], Nat.zero_le _, rfl, World.ownsRow_nil _ _ _ _, SlBs.nil_, by simpa using g0, g1, hb, hsz⟩
  case round =>
    obtain ⟨k, xs, hk, rfl, hown, hS, g0, g1, hb, hsz⟩ := hrel
    have c0 := blk_cell g0 0 _ rfl
    have d1 := blk_cell g0 1 _ rfl
    have f1 := blk_free g0 1
    by_cases hlt : k < n
    · go_wp2_with fail
      have hc := bytes_yes e (l + k + 1) (wr.setCell ⟨w.heap.size, 1, none⟩ (.int .i64 ((l : Int) + k + 1))) he (by omega)
      rw [show ((l + k + 1 : Nat) : Int) = (l : Int) + k + 1 from by omega] at hc
      refine hc.mono ?_
      rintro e1 w1 ⟨A1, c1, rfl, hc1, hat1, hb1⟩
      rw [nb_length] at hc1 ⊢
      have hownS := ownsRow_setCell_below hown (a := ⟨w.heap.size, 1, none⟩) (by simp) (.int .i64 ((l : Int) + k + 1))
      have hSS := slbs_set hS (p := ⟨w.heap.size, 1, none⟩) (by simp) (.int .i64 ((l : Int) + k + 1))
      have hbS := hb.setCell (p := ⟨w.heap.size, 1, none⟩) (Nat.le_refl _) (.int .i64 ((l : Int) + k + 1))
      have gS0 := blk_below (blk_set g0 1 (.int .i64 ((l : Int) + k + 1))) hb1 (by simp; omega)
      have gS1 := blk_below (blk_far g1 (p := ⟨w.heap.size, 1, none⟩) (by simp) (.int .i64 ((l : Int) + k + 1))) hb1 (by simp; omega)
      have hown1 := own_below hownS hb1
      have hz : w.heap.size + 2 ≤ w1.heap.size := Nat.le_trans (by simpa using hsz) hb1.size
      clear c0 d1 f1 g0 g1 hc
      go_wp2_with (at_builtin; refine wpList_app1 rfl _ _ 24 rfl (w.heap.size + 2) 30 i0 _ 24 Try.underlying24 hi0 hz0 hz1 hz2 rfl _ _ _ rfl hown1 (.slice A1 12 c1) _ rfl rfl (by omega) (by omega) hz ?_; intro v' w2 hown2 hg2 hat2)
      have hu : SlB w1 (fun b => b < w1.heap.size ∧ (wr.setCell ⟨w.heap.size, 1, none⟩ (.int .i64 ((l : Int) + k + 1))).heap.size ≤ b) (.slice A1 12 c1) (nb e (l + k + 1)) := ⟨A1, c1, by rw [nb_length], hat1⟩
      have hS2 := slbs_step hownS hSS hb1 hu (by simpa using hsz) hg2 hat2
      have hb2 := below_app (hbS.trans (hb1.mono hbS.size)) hg2 (by omega) (fun g hg => by have := own_base hown g hg; omega)
      have e0 : some w.heap.size ≠ u7.ownBlock := fun h => by have := own_base hown _ h.symm; omega
      have e1 : some (w.heap.size + 1) ≠ u7.ownBlock := fun h => by have := own_base hown _ h.symm; omega
      have gT0 := blk_grown gS0 hg2 e0
      have gT1 := blk_grown gS1 hg2 e1
      have hsz2 : w.heap.size + 2 ≤ w2.heap.size := Nat.le_trans hz hg2.size
      clear hown hown1 hS hu hat1 hat2 gS0 gS1 hownS hSS hbS
      go_roundw
      case rel => exact ⟨k + 1, _, by omega, by go_num, hown2, hS2, by rw [gT0]; simp; omega, gT1, hb2, hsz2⟩
      case measure => simp [intOf]; omega
    · obtain rfl : k = n := by omega
      obtain ⟨A, c, rfl, hc⟩ := own_form hown
      have h0 := blk_cell g1 0 _ rfl
      have h1 := blk_cell g1 1 _ rfl
      have k0 := blk_free g1 0
      have k1 := blk_free g1 1
      go_wp2
      go_region
      all_goals
        go_wp2
        have gF := blk_set (blk_set g1 0 (.int .i64 (e : Int))) 1 (.int .i64 ((l : Int) + k))
        have q0 := blk_cell gF 0 (.int .i64 (e : Int)) rfl
        have q1 := blk_cell gF 1 (.int .i64 ((l : Int) + k)) rfl
        have ho := ownsRow_setCell_below (ownsRow_setCell_below hown (a := ⟨w.heap.size + 1, 0, none⟩) (by simp) (.int .i64 (e : Int))) (a := ⟨w.heap.size + 1, 1, none⟩) (by simp) (.int .i64 ((l : Int) + k))
        have hs := slbs_set (slbs_set hS (p := ⟨w.heap.size + 1, 0, none⟩) (by simp) (.int .i64 (e : Int))) (p := ⟨w.heap.size + 1, 1, none⟩) (by simp) (.int .i64 ((l : Int) + k))
        have hB := (hb.setCell (p := ⟨w.heap.size + 1, 0, none⟩) (by simp) (.int .i64 (e : Int))).setCell (p := ⟨w.heap.size + 1, 1, none⟩) (by simp) (.int .i64 ((l : Int) + k))
        refine bodyPost_ret (v := .tuple #[.slice A k c, .agg #[.int .i64 (e : Int), .int .i64 ((l : Int) + k)], .int .i64 0]) (by simp [results, Try.results4, go_sem, q0, q1]) rfl ?_
        exact ⟨A, c, xs, by simp, own_low ho.drew (by omega), (hs.more fun b h => h.1), hB.drew⟩

set_option maxHeartbeats 400000 in
theorem take_no (e l n : Int) (err : Int) (w : World) (h : ((rightB e l = false ∨ n < 0 ∨ 4096 < n) ∧ err = 1) ∨ (rightB e l = true ∧ 0 ≤ n ∧ n ≤ 4096 ∧ 1099511627776 < l + n ∧ err = 10)) :
    Calls Try.prog 4 #[.agg #[.int .i64 e, .int .i64 l], .int .i64 n] w fun r w' => r = .returned (.tuple #[.slice none 0 0, .agg #[.int .i64 0, .int .i64 0], .int .i64 err]) ∧ Below w.heap.size w w' := by
  have hr : rightB e l = true → 0 ≤ l ∧ l ≤ 1099511627776 := fun h => by unfold rightB at h; have := of_decide_eq_true h; omega
  have HR := Lib.hid hr
  clear hr
  have H := Lib.hid h
  clear h
  go_enter Try.func4, Try.ntmps4
  go_wp2_with fail
  refine (right_any _ _ _).mono ?_
  rintro e1 w1 ⟨rfl, hb1⟩
  obtain ⟨g0, g1, hb, hsz⟩ := new2 hb1
  have h0 := blk_cell g1 0 _ rfl
  have h1 := blk_cell g1 1 _ rfl
  have k0 := blk_free g1 0
  have k1 := blk_free g1 1
  have i1 := blk_cell g0 1 _ rfl
  have gF := blk_set (blk_set g1 0 (.int .i64 0)) 1 (.int .i64 0)
  have q0 := blk_cell gF 0 (.int .i64 0) rfl
  have q1 := blk_cell gF 1 (.int .i64 0) rfl
  have hB := (hb.setCell (p := ⟨w.heap.size + 1, 0, none⟩) (by simp) (.int .i64 0)).setCell (p := ⟨w.heap.size + 1, 1, none⟩) (by simp) (.int .i64 0)
  have HG := Lib.hid gF
  clear gF g0 g1
  have fin : ∀ (b : Bool), rightB e l = b → (b = false ∧ err = 1) ∨ (b = true ∧ (n < 0 ∨ 4096 < n) ∧ err = 1) ∨ (b = true ∧ 0 ≤ n ∧ n ≤ 4096 ∧ 1099511627776 < l + n ∧ 0 ≤ l ∧ l ≤ 1099511627776 ∧ err = 10) := by
    intro b hb
    have h := H.out
    rw [hb] at h
    cases b
    · left; rcases h with h | h
      · exact ⟨rfl, h.2⟩
      · exact absurd h.1 (by simp)
    · right; have hh := HR.out hb; rcases h with h | h
      · left; exact ⟨rfl, by rcases h.1 with h | h; exact absurd h (by simp); exact h, h.2⟩
      · right; exact ⟨rfl, h.2.1, h.2.2.1, h.2.2.2.1, hh.1, hh.2, h.2.2.2.2⟩
  obtain ⟨b, hb0⟩ : ∃ b, rightB e l = b := ⟨_, rfl⟩
  have F := fin b hb0
  rw [hb0]
  clear fin hb0 HR H
  rcases F with ⟨rfl, rfl⟩ | ⟨rfl, hn | hn, rfl⟩ | ⟨rfl, a1, a2, a3, a4, a5, rfl⟩
  all_goals
    go_wp2
    all_goals (try go_region)
    all_goals go_wp2
    all_goals
      first
        | exact bodyPost_ret (v := .tuple #[.slice none 0 0, .agg #[.int .i64 0, .int .i64 0], .int .i64 1]) (by simp [results, Try.results4, go_sem, q0, q1]) rfl ⟨rfl, hB⟩
        | exact bodyPost_ret (v := .tuple #[.slice none 0 0, .agg #[.int .i64 0, .int .i64 0], .int .i64 10]) (by simp [results, Try.results4, go_sem, q0, q1]) rfl ⟨rfl, hB⟩

set_option maxHeartbeats 400000 in
theorem refTake_no (e l n : Int) (err : Int) (w : World) (h : ((rightB e l = false ∨ n < 0 ∨ 4096 < n) ∧ err = 1) ∨ (rightB e l = true ∧ 0 ≤ n ∧ n ≤ 4096 ∧ 1099511627776 < l + n ∧ err = 10)) :
    Calls Try.prog 5 #[.int .i64 e, .int .i64 l, .int .i64 n] w fun r w' => r = .returned (.tuple #[.slice none 0 0, .int .i64 0, .int .i64 err]) ∧ Below w.heap.size w w' := by
  have hr : rightB e l = true → 0 ≤ l ∧ l ≤ 1099511627776 := fun h => by unfold rightB at h; have := of_decide_eq_true h; omega
  have HR := Lib.hid hr
  clear hr
  have H := Lib.hid h
  clear h
  go_enter Try.func5, Try.ntmps5
  go_wp2_with fail
  refine (refRight_any _ _ _).mono ?_
  rintro e1 w1 ⟨rfl, rfl⟩
  have fin : ∀ (b : Bool), rightB e l = b → (b = false ∧ err = 1) ∨ (b = true ∧ (n < 0 ∨ 4096 < n) ∧ err = 1) ∨ (b = true ∧ 0 ≤ n ∧ n ≤ 4096 ∧ 1099511627776 < l + n ∧ 0 ≤ l ∧ l ≤ 1099511627776 ∧ err = 10) := by
    intro b hb
    have h := H.out
    rw [hb] at h
    cases b
    · left; rcases h with h | h
      · exact ⟨rfl, h.2⟩
      · exact absurd h.1 (by simp)
    · right; have hh := HR.out hb; rcases h with h | h
      · left; exact ⟨rfl, by rcases h.1 with h | h; exact absurd h (by simp); exact h, h.2⟩
      · right; exact ⟨rfl, h.2.1, h.2.2.1, h.2.2.2.1, hh.1, hh.2, h.2.2.2.2⟩
  obtain ⟨b, hb0⟩ : ∃ b, rightB e l = b := ⟨_, rfl⟩
  have F := fin b hb0
  rw [hb0]
  clear fin hb0 HR H
  rcases F with ⟨rfl, rfl⟩ | ⟨rfl, hn | hn, rfl⟩ | ⟨rfl, a1, a2, a3, a4, a5, rfl⟩
  all_goals
    go_wp2
    go_ret3
    exact ⟨rfl, Below.refl _ _⟩

end Go.Proofs.Ytkmlheodchkokaa
