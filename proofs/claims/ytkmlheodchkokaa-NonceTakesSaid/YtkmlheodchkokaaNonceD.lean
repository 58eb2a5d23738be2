/- Walks of awake and of NonceTakes. -/
import Derived.Test.YtkmlheodchkokaaNonceC
import Derived.Deep.QuietTactic
import Derived.Deep.RegionHeld3
import Derived.BigQuiet
import Derived.Laws.IdiomStrings
namespace Go.Proofs.Ytkmlheodchkokaa
open Go.RowKit

theorem slbs_at {w : World} {N : Nat → Prop} {xs : List Value} {l : List (List UInt8)} (h : SlBs w N xs l) {i : Nat} {bs : List UInt8} (hi : l[i]? = some bs) (hb : bs ≠ []) :
    ∃ ad c, xs[i]? = some (.slice (some ad) bs.length c) ∧ N ad.block ∧ ∀ j (hj : j < bs.length), w.cell? (ad.add j) = some (bv bs[j]) := by
  have hlt : i < l.length := (List.getElem?_eq_some_iff.1 hi).1
  have hx : xs[i]? = some (xs[i]'(by rw [h.1]; exact hlt)) := List.getElem?_eq_getElem _
  obtain ⟨A, c, e, hat⟩ := h.2 i _ bs hx hi
  rcases hat with h0 | ⟨ad, rfl, hN, hc⟩
  · exfalso; apply hb; simpa [bvs] using h0
  · exact ⟨ad, c, by rw [hx, e], hN, fun j hj => hc j _ (bvs_get hj)⟩

set_option maxHeartbeats 1000000 in
theorem awake_any (w : World) : Calls Try.prog 8 #[] w fun r w' => r = .returned (.bool true) ∧ Below w.heap.size w w' := by
  go_enter Try.func8, Try.ntmps8
  go_wp2_with fail
  refine (take_yes 1 5 2 _ (by omega) (by omega) (by omega)).mono ?_
  rintro e1 w1 ⟨A, c, xs, rfl, hown, hS, hb⟩
  obtain ⟨g, cap, hv, _, hg⟩ := hown.form (by omega)
  obtain ⟨rfl, rfl⟩ : A = some ⟨g, 0, none⟩ ∧ c = cap := by injection hv with h1 h2 h3; exact ⟨h1, h3⟩
  obtain ⟨ad, c1, hx, had, hc⟩ := slbs_at hS (i := 1) (bs := nb 1 7) rfl (by decide)
  have hc0 := hown.cellAt 1 (by omega)
  rw [hx, nb_length] at hc0
  have h3 := hc 3 (by rw [nb_length]; omega)
  have h11 := hc 11 (by rw [nb_length]; omega)
  have b3 : w1.cell? ⟨ad.block, ad.off + 3, none⟩ = some (.int .u8 1) := h3
  have b11 : w1.cell? ⟨ad.block, ad.off + 11, none⟩ = some (.int .u8 7) := h11
  clear hown hS hx hc hv h3 h11
  go_wp2
  go_ret
  exact ⟨rfl, hb.alloc hb.size _⟩

theorem nbs_get (e l : Nat) : ∀ (n k : Nat), k < n → ∃ bs, (nbs e l n)[k]? = some bs ∧ bs.length = 12
  | n + 1, k, h => by
    rw [nbs_succ]
    rcases Nat.lt_or_ge k n with h1 | h1
    · obtain ⟨bs, h2, h3⟩ := nbs_get e l n k h1
      exact ⟨bs, by rw [List.getElem?_append_left (by rw [nbs_length]; exact h1)]; exact h2, h3⟩
    · obtain rfl : k = n := by omega
      exact ⟨_, by rw [List.getElem?_append_right (by rw [nbs_length]; exact Nat.le_refl _), nbs_length, Nat.sub_self]; rfl, nb_length _ _⟩

def strOf (bs : List UInt8) : ByteArray := ⟨bs.toArray⟩

/-- What the last line of the law reads. -/
abbrev Held (g : Nat) (a b : Value) (w w' : World) : Prop := w'.cell? ⟨g, 0, none⟩ = some a ∧ w'.cell? ⟨g, 1, none⟩ = some b ∧ Below w.heap.size w w' ∧ g < w'.heap.size
theorem Held.below {g : Nat} {a b : Value} {w w' w2 : World} (h : Held g a b w w') (hb : Below w'.heap.size w' w2) : Held g a b w w2 :=
  ⟨(hb.cell (p := ⟨g, 0, none⟩) h.2.2.2).trans h.1, (hb.cell (p := ⟨g, 1, none⟩) h.2.2.2).trans h.2.1, h.2.2.1.trans (hb.mono h.2.2.1.size), Nat.lt_of_lt_of_le h.2.2.2 hb.size⟩

theorem Held.drew {g : Nat} {a b : Value} {w w' : World} (h : Held g a b w w') : Held g a b w w'.drew := ⟨h.1, h.2.1, h.2.2.1.drew, by simpa using h.2.2.2⟩

set_option maxHeartbeats 2000000 in
theorem law_yes (e l n : Nat) (w : World) (he : e ≤ 64) (hn : n ≤ 4096) (hl : l + n ≤ 1099511627776) :
    Calls Try.prog 3 #[.agg #[.int .i64 (e : Int), .int .i64 (l : Int)], .int .i64 (n : Int)] w fun r w' => r = .returned (.bool true) ∧ Below w.heap.size w w' := by
  go_enter Try.func3, Try.ntmps3
  go_wp2_with fail
  refine (take_yes e l n _ he hn hl).mono ?_
  rintro e1 w1 ⟨A, c, xs, rfl, hown, hS, hb0⟩
  obtain ⟨g0, hb, hsz⟩ := new1 hb0
  have c0 := blk_cell g0 0 _ rfl
  have c1 := blk_cell g0 1 _ rfl
  have hlt : w.heap.size < w1.heap.size := hsz
  go_wp2_with fail
  refine (refTake_yes e l n _ he hn hl).mono ?_
  rintro e2 w2 ⟨A2, d2, ys, rfl, hown2, hS2, hb2'⟩
  obtain ⟨g1, hb2, hsz2⟩ := new1 hb2'
  have hlt2 : w1.heap.size < w2.heap.size := hsz2
  have hlt3 : w.heap.size < w2.heap.size := by omega
  have hb3 := hb.trans (hb2.mono (by omega))
  have g0' := blk_below g0 hb2 hlt
  have hown' := own_below hown hb2
  have hS' := hS.keep (w' := w2) fun p hp => hb2.cell hp
  clear c0 c1 hown hS hb0 g0 hb2' hb
  have c0 := blk_cell g0' 0 _ rfl
  have c1 := blk_cell g0' 1 _ rfl
  have k0 := blk_cell g1 0 _ rfl
  have k1 := blk_cell g1 1 _ rfl
  go_wp2_with fail
  clear k0 k1 c0 c1
  go_loopw [62] (fun i wr => ∃ k m : Nat, k ≤ n ∧ i = .int .i64 (k : Int) ∧ wr = w2.drewN m) (fun i _ => (n - (intOf i).toNat))
  case atStart => exact ⟨0, 0, Nat.zero_le _, rfl, rfl⟩
  case round =>
    obtain ⟨k, m, hk, rfl, rfl⟩ := hrel
    by_cases hkn : k < n
    · obtain ⟨g, cap, hv, _, hg⟩ := hown'.form (by omega)
      obtain ⟨rfl, rfl⟩ : A = some ⟨g, 0, none⟩ ∧ c = cap := by injection hv with h1 h2 h3; exact ⟨h1, h3⟩
      obtain ⟨g', cap', hv', _, hg'⟩ := hown2.form (by omega)
      obtain ⟨rfl, rfl⟩ : A2 = some ⟨g', 0, none⟩ ∧ d2 = cap' := by injection hv' with h1 h2 h3; exact ⟨h1, h3⟩
      obtain ⟨bs, hbs, hbl⟩ : ∃ bs, (nbs e l n)[k]? = some bs ∧ bs.length = 12 := nbs_get e l n k hkn
      have hne : bs ≠ [] := by intro h; rw [h] at hbl; simp at hbl
      obtain ⟨ad, c1, hx, had, hc⟩ := slbs_at hS' hbs hne
      obtain ⟨ad', c1', hx', had', hc'⟩ := slbs_at hS2 hbs hne
      have q := hown'.cellAt k (by omega)
      have q' := hown2.cellAt k (by omega)
      rw [hx, hbl] at q
      rw [hx', hbl] at q'
      have hcv : ∀ a, (convert 30 9 (.slice (some ad) 12 c1)).run Try.prog (w2.drewN a) = .ok (.string (strOf bs)) (w2.drewN a) := fun a => by
        have := run_convert_bytes_back (P := Try.prog) (w2.drewN a) 30 9 5 ad c1 bs Try.underlying30 Try.underlying5 Try.underlying9 (fun j hj => hc j hj)
        rw [hbl] at this
        exact this
      have hcv' : ∀ a, (convert 30 9 (.slice (some ad') 12 c1')).run Try.prog (w2.drewN a) = .ok (.string (strOf bs)) (w2.drewN a) := fun a => by
        have := run_convert_bytes_back (P := Try.prog) (w2.drewN a) 30 9 5 ad' c1' bs Try.underlying30 Try.underlying5 Try.underlying9 (fun j hj => hc' j hj)
        rw [hbl] at this
        exact this
      clear hc hc' hx hx' hne hv hv'
      go_wp2_with fail
      go_quiet (fail)
      go_wp2_with fail
      go_round
      case rel => exact ⟨k + 1, m + nq, by omega, by go_num, by simp⟩
      case measure => simp [intOf]; omega
    · obtain rfl : k = n := by omega
      have hH : Held (w.heap.size) (.int .i64 (e : Int)) (.int .i64 (l : Int)) w (w2.drewN m) := ⟨blk_cell g0' 0 _ rfl, blk_cell g0' 1 _ rfl, below_drewN hb3 m, by simpa using hlt3⟩
      have hr : rightB e l = true := by unfold rightB; exact decide_eq_true (by omega)
      clear hown' hown2 hS' hS2 g0' g1 hb2 hb3
      go_wp2_with fail
      go_region_held3 (fun w' => w'.cell? ⟨w.heap.size, 0, none⟩ = some (.int .i64 (e : Int)) ∧ w'.cell? ⟨w.heap.size, 1, none⟩ = some (.int .i64 (l : Int)) ∧ Below w.heap.size w w' ∧ w.heap.size < w'.heap.size) (first | assumption | exact Held.drew (by assumption) | exact Held.below (by assumption) (by assumption)) (first | (go_at_call 6; refine (right_any _ _ _).mono ?_; rintro e3 w3 ⟨rfl, hbb⟩; rw [hr]) | (go_at_call 7; refine (refRight_any _ _ _).mono ?_; rintro e3 w3 ⟨rfl, rfl⟩; rw [hr]) | (go_at_call 8; refine (awake_any _).mono ?_; rintro e3 w3 ⟨rfl, hbb⟩))
      all_goals
        go_wp2_with fail
        go_ret
        have hfin : Held w.heap.size (.int .i64 (e : Int)) (.int .i64 (l : Int)) w w3 := by assumption
        exact ⟨rfl, hfin.2.2.1⟩

set_option maxHeartbeats 2000000 in
theorem law_no (e l n : Int) (err : Int) (w : World) (h : ((rightB e l = false ∨ n < 0 ∨ 4096 < n) ∧ err = 1) ∨ (rightB e l = true ∧ 0 ≤ n ∧ n ≤ 4096 ∧ 1099511627776 < l + n ∧ err = 10)) :
    Calls Try.prog 3 #[.agg #[.int .i64 e, .int .i64 l], .int .i64 n] w fun r w' => r = .returned (.bool true) ∧ Below w.heap.size w w' := by
  have ht := fun W => take_no e l n err W h
  have ht' := fun W => refTake_no e l n err W h
  have he : (err == 0) = false := by rcases h with h | h <;> simp [h.2] <;> simp [h.2.2.2.2]
  have he' : (err != 0) = true := by rcases h with h | h <;> simp [h.2] <;> simp [h.2.2.2.2]
  have H1 := Lib.hid ht
  have H2 := Lib.hid ht'
  clear ht ht' h
  go_enter Try.func3, Try.ntmps3
  go_wp2_with fail
  refine (H1.out _).mono ?_
  rintro e1 w1 ⟨rfl, hb0⟩
  obtain ⟨g0, hb, hsz⟩ := new1 hb0
  have c0 := blk_cell g0 0 _ rfl
  have c1 := blk_cell g0 1 _ rfl
  have hlt : w.heap.size < w1.heap.size := hsz
  go_wp2_with fail
  refine (H2.out _).mono ?_
  rintro e2 w2 ⟨rfl, hb2'⟩
  obtain ⟨g1, hb2, hsz2⟩ := new1 hb2'
  have hlt2 : w1.heap.size < w2.heap.size := hsz2
  have hlt3 : w.heap.size < w2.heap.size := by omega
  have hb3 := hb.trans (hb2.mono (by omega))
  have g0' := blk_below g0 hb2 hlt
  clear c0 c1 hb0 g0 hb2' hb
  have c0 := blk_cell g0' 0 _ rfl
  have c1 := blk_cell g0' 1 _ rfl
  have k0 := blk_cell g1 0 _ rfl
  have k1 := blk_cell g1 1 _ rfl
  go_wp2_with fail
  refine wp_loop_rounds 1 ?_
  rw [rounds_succ]
  go_wp2_with fail
  have hH : Held (w.heap.size) (.int .i64 e) (.int .i64 l) w w2 := ⟨blk_cell g0' 0 _ rfl, blk_cell g0' 1 _ rfl, hb3, hlt3⟩
  clear c0 c1 k0 k1 g0' g1 hb2 hb3
  obtain ⟨b, hr⟩ : ∃ b, rightB e l = b := ⟨_, rfl⟩
  have HR := Lib.hid hr
  clear hr
  cases b
  all_goals
    go_region_held3 (fun w' => w'.cell? ⟨w.heap.size, 0, none⟩ = some (.int .i64 e) ∧ w'.cell? ⟨w.heap.size, 1, none⟩ = some (.int .i64 l) ∧ Below w.heap.size w w' ∧ w.heap.size < w'.heap.size) (first | assumption | exact Held.drew (by assumption) | exact Held.below (by assumption) (by assumption)) (first | (go_at_call 6; refine (right_any _ _ _).mono ?_; rintro e3 w3 ⟨rfl, hbb⟩; rw [HR.out]) | (go_at_call 7; refine (refRight_any _ _ _).mono ?_; rintro e3 w3 ⟨rfl, rfl⟩; rw [HR.out]) | (go_at_call 8; refine (awake_any _).mono ?_; rintro e3 w3 ⟨rfl, hbb⟩))
    all_goals
      go_wp2_with fail
      go_ret
      have hfin : Held w.heap.size (.int .i64 e) (.int .i64 l) w w3 := by assumption
      exact ⟨rfl, hfin.2.2.1⟩

theorem law_any (e l n : Int) (w : World) :
    Calls Try.prog 3 #[.agg #[.int .i64 e, .int .i64 l], .int .i64 n] w fun r w' => r = .returned (.bool true) ∧ Below w.heap.size w w' := by
  by_cases h1 : rightB e l = false ∨ n < 0 ∨ 4096 < n
  · exact law_no e l n 1 w (.inl ⟨h1, rfl⟩)
  · have hr : rightB e l = true := by cases h : rightB e l; exact absurd (.inl h) h1; rfl
    have hr' : 0 ≤ e ∧ e ≤ 64 ∧ 0 ≤ l ∧ l ≤ 1099511627776 := by unfold rightB at hr; exact of_decide_eq_true hr
    by_cases h2 : 1099511627776 < l + n
    · exact law_no e l n 10 w (.inr ⟨hr, by omega, by omega, h2, rfl⟩)
    · obtain ⟨a, rfl⟩ := Int.eq_ofNat_of_zero_le hr'.1
      obtain ⟨b, rfl⟩ := Int.eq_ofNat_of_zero_le hr'.2.2.1
      obtain ⟨c, rfl⟩ := Int.eq_ofNat_of_zero_le (show 0 ≤ n by omega)
      exact law_yes a b c w (by omega) (by omega) (by omega)
end Go.Proofs.Ytkmlheodchkokaa
