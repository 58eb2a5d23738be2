/- Walks of the functions below NonceTakes: word.Store, word.Tell. -/
import Derived.Test.YtkmlheodchkokaaRows
import Derived.Test.YtkmlheodchkokaaLaws
import Derived.Test.YtkmlheodchkokaaPlain10
import Derived.Handy
namespace Go.Proofs.Ytkmlheodchkokaa
open Go.RowKit

theorem infoU8 : (Try.prog.info? 5).map (fun i => (i.zero, i.size, i.bytes)) = some (some (.int .u8 0), 1, 1) := by kernel_rfl

theorem bv_ofNat (k : Nat) : bv (UInt8.ofNat k) = .int .u8 ((k : Int) % 256) := by
  simp [bv]

theorem bvs_told4 (n : Nat) : bvs (told n 4) = [.int .u8 ((n : Int) / 16777216 % 256), .int .u8 ((n : Int) / 65536 % 256), .int .u8 ((n : Int) / 256 % 256), .int .u8 ((n : Int) % 256)] := by
  simp [told, lowb, bvs, bv]
theorem bvs_told8 (n : Nat) : bvs (told n 8) = [.int .u8 ((n : Int) / 72057594037927936 % 256), .int .u8 ((n : Int) / 281474976710656 % 256), .int .u8 ((n : Int) / 1099511627776 % 256), .int .u8 ((n : Int) / 4294967296 % 256),
    .int .u8 ((n : Int) / 16777216 % 256), .int .u8 ((n : Int) / 65536 % 256), .int .u8 ((n : Int) / 256 % 256), .int .u8 ((n : Int) % 256)] := by
  simp [told, lowb, bvs, bv]

theorem own_new (w : World) (base : Nat) (E : TypeId) (l : List Value) (hb : base ≤ w.heap.size) (hl : l.length ≤ maxLen) :
    (w.alloc (.cells l.toArray E)).ownsRow base E 1 (.slice (some ⟨w.heap.size, 0, none⟩) l.length l.length) l.length l :=
  ⟨by simp, .inr ⟨w.heap.size, l.length, l.toArray, rfl, hb, heap_alloc_new w _, Nat.le_refl _, hl, by simp, by simp⟩⟩

theorem retB_new {E : TypeId} {bs : List UInt8} {w : World} {k : Nat} {C : Array Value} (hk : k = bs.length) (hC : C = (bvs bs).toArray) (hl : bs.length ≤ maxLen) :
    RetB E bs w (.returned (.slice (some ⟨w.heap.size, 0, none⟩) k k)) (w.alloc (.cells C E)) := by
  subst hk; subst hC
  refine ⟨_, _, rfl, ?_, (Below.refl _ _).alloc (Nat.le_refl _) _⟩
  have h := own_new w w.heap.size E (bvs bs) (Nat.le_refl _) (by rw [bvs_length]; exact hl)
  rw [bvs_length] at h
  exact h

theorem ret_bool {a b : Bool} (h : a = b) : Ending.returned (.bool a) = .returned (.bool b) := by rw [h]

set_option maxHeartbeats 400000 in
theorem store_high (n : Nat) (w : World) (hn : n < 4294967296) :
    Calls Try.prog 13 #[.int .u32 (n : Int), .bool false] w (RetB 5 (told n 4) w) := by
  have hmk : ∀ w, (Instr.makeSlice 30 (.int .i64 4) (.int .i64 4)).run Try.prog w = .ok (.slice (some ⟨w.heap.size, 0, none⟩) 4 4) (w.alloc (.cells #[.int .u8 0, .int .u8 0, .int .u8 0, .int .u8 0] 5)) := fun _ => by kernel_rfl
  go_enter Try.func13, Try.ntmps13
  go_wp2
  go_rounds 5
  go_ret
  exact retB_new (by simp [told_length]) (by rw [bvs_told4, show (n : Int) / 16777216 % 256 = (n : Int) / 16777216 from by omega]) (by simp [told_length, maxLen])

set_option maxHeartbeats 400000 in
theorem tell_any (n : Nat) (w : World) (hn : n < 18446744073709551616) :
    Calls Try.prog 14 #[.int .u64 (n : Int)] w (RetB 5 (told n 8) w) := by
  have hmk : ∀ w, (Instr.makeSlice 30 (.int .i64 8) (.int .i64 8)).run Try.prog w = .ok (.slice (some ⟨w.heap.size, 0, none⟩) 8 8) (w.alloc (.cells #[.int .u8 0, .int .u8 0, .int .u8 0, .int .u8 0, .int .u8 0, .int .u8 0, .int .u8 0, .int .u8 0] 5)) := fun _ => by kernel_rfl
  go_enter Try.func14, Try.ntmps14
  go_wp2
  go_rounds 9
  go_ret
  exact retB_new (by simp [told_length]) (by rw [bvs_told8, show (n : Int) / 72057594037927936 % 256 = (n : Int) / 72057594037927936 from by omega]) (by simp [told_length, maxLen])

/-- A counter may be: the test. -/
def rightB (e l : Int) : Bool := decide (0 ≤ e ∧ e ≤ 64 ∧ 0 ≤ l ∧ l ≤ 1099511627776)

set_option maxHeartbeats 400000 in
theorem right_any (e l : Int) (w : World) :
    Calls Try.prog 6 #[.agg #[.int .i64 e, .int .i64 l]] w fun r w' => r = .returned (.bool (rightB e l)) ∧ Below w.heap.size w w' := by
  go_enter Try.func6, Try.ntmps6
  go_wp2
  all_goals
    go_ret
    refine ⟨ret_bool ?_, (Below.refl _ _).alloc (Nat.le_refl _) _⟩
    unfold rightB
    first | (rw [decide_eq_decide]; omega) | exact (decide_eq_false (by omega)).symm
set_option maxHeartbeats 400000 in
theorem refRight_any (e l : Int) (w : World) :
    Calls Try.prog 7 #[.int .i64 e, .int .i64 l] w fun r w' => r = .returned (.bool (rightB e l)) ∧ w = w' := by
  go_enter Try.func7, Try.ntmps7
  go_wp2
  all_goals
    go_ret
    refine ⟨ret_bool ?_, rfl⟩
    unfold rightB
    first | (rw [decide_eq_decide]; omega) | exact (decide_eq_false (by omega)).symm

theorem lowb_succ (n k : Nat) : lowb n (k + 1) = lowb n k ++ [UInt8.ofNat (n / 256 ^ k % 256)] := rfl

set_option maxHeartbeats 800000 in
theorem back_any (A : Option Addr) (c : Nat) (l : List UInt8) (w : World) (h : At w (· < w.heap.size) A (bvs l)) (hl : l.length ≤ 1048576) :
    Calls Try.prog 15 #[.slice A l.length c] w (RetB 5 l.reverse w) := by
  obtain ⟨i0, hi0, hz0, hz1, hz2⟩ := info_parts infoU8
  obtain ⟨n, hn⟩ : ∃ n, l.length = n := ⟨_, rfl⟩
  rw [hn] at hl ⊢
  have HN : Hid (l.length = n) := hn
  clear hn
  go_enter Try.func15, Try.ntmps15
  go_wp2
  go_loopw [3, 4] (fun v i wr => ∃ k : Nat, k ≤ n ∧ i = .int .i64 ((n : Int) - 1 - k) ∧ wr.ownsRow w.heap.size 5 1 v k (bvs (l.drop (n - k)).reverse) ∧ Below w.heap.size w wr) (fun _ i _ => (intOf i + 1).toNat)
  case atStart => exact ⟨0, Nat.zero_le _, by simp, by rw [List.drop_of_length_le (by rw [HN.out]; omega)]; exact World.ownsRow_nil _ _ _ _, Below.refl _ _⟩
  case round =>
    obtain ⟨k, hk, rfl, hown, hb⟩ := hrel
    by_cases hlt : k < n
    · obtain ⟨ad, rfl, hN, hc⟩ := (h.below hb (fun _ h => h)).get (k := n - 1 - k) (by rw [bvs_length, HN.out]; omega)
      have hg : n - 1 - k < l.length := by rw [HN.out]; omega
      have HC : wr.cell? (ad.add (n - 1 - k)) = some (.int .u8 (l[n - 1 - k].toNat : Int)) := by rw [hc]; simp [bvs, bv]
      clear hc
      go_wp2_with (at_builtin; refine wpList_app1 rfl _ _ 30 rfl w.heap.size 5 i0 _ 1 Try.underlying30 hi0 hz0 hz1 hz2 rfl _ _ _ rfl hown (.int .u8 (l[n - 1 - k].toNat : Int)) _ rfl rfl (by omega) (by omega) hb.size ?_; intro v' w1 hown1 hg1 hat1)
      have hb1 := below_app hb hg1 hb.size (own_base hown)
      have HO : w1.ownsRow w.heap.size 5 1 v' (k + 1) (bvs (l.drop (n - (k + 1))).reverse) := by
        have e : l.drop (n - (k + 1)) = l[n - 1 - k] :: l.drop (n - k) := by
          have e2 : n - (k + 1) = n - 1 - k := by omega
          rw [e2, List.drop_eq_getElem_cons hg]
          congr 2
          omega
        rw [e, List.reverse_cons, bvs_append]
        exact hown1
      clear hown1 hown hb HC
      go_roundw
      case rel => exact ⟨k + 1, by omega, by go_num, HO, hb1⟩
      case measure => simp [intOf]; omega
    · obtain rfl : k = n := by omega
      go_wp2
      go_ret
      rw [Nat.sub_self, List.drop_zero] at hown
      exact retB_of hown hb

set_option maxHeartbeats 800000 in
theorem told_any (N size : Nat) (w : World) (hN : N < 18446744073709551616) (hs : size ≤ 1048576) :
    Calls Try.prog 12 #[.int .u64 (N : Int), .int .i64 (size : Int)] w (RetB 5 (told N size) w) := by
  obtain ⟨i0, hi0, hz0, hz1, hz2⟩ := info_parts infoU8
  go_enter Try.func12, Try.ntmps12
  go_wp2
  go_loopw [0, 5, 6] (fun n v i wr => ∃ k : Nat, k ≤ size ∧ i = .int .i64 k ∧ n = .int .u64 ((N / 256 ^ k : Nat) : Int) ∧ wr.ownsRow w.heap.size 5 1 v k (bvs (lowb N k)) ∧ Below w.heap.size w wr) (fun _ _ i _ => size - (intOf i).toNat)
  case atStart => exact ⟨0, Nat.zero_le _, rfl, by simp, World.ownsRow_nil _ _ _ _, Below.refl _ _⟩
  case round =>
    obtain ⟨k, hk, rfl, rfl, hown, hb⟩ := hrel
    obtain ⟨m, hm⟩ : ∃ m, N / 256 ^ k = m := ⟨_, rfl⟩
    have hmN : m ≤ N := by rw [← hm]; exact Nat.div_le_self _ _
    have hsucc : N / 256 ^ (k + 1) = m / 256 := by rw [← hm, Nat.pow_succ, Nat.div_div_eq_div_mul]
    have hlow : bvs (lowb N (k + 1)) = bvs (lowb N k) ++ [.int .u8 ((m : Int) % 256)] := by
      rw [lowb_succ, bvs_append, hm]
      simp [bvs, bv]
    rw [hm]
    have HS := Lib.hid hsucc
    have HL := Lib.hid hlow
    clear hm hsucc hlow
    by_cases hlt : k < size
    · go_wp2_with (at_builtin; refine wpList_app1 rfl _ _ 30 rfl w.heap.size 5 i0 _ 1 Try.underlying30 hi0 hz0 hz1 hz2 rfl _ _ _ rfl hown (.int .u8 ((m : Int) % 256)) _ rfl rfl (by omega) (by omega) hb.size ?_; intro v' w1 hown1 hg1 hat1)
      have hb1 := below_app hb hg1 hb.size (own_base hown)
      rw [← HL.out] at hown1
      clear hown hb
      go_roundw
      case rel => exact ⟨k + 1, by omega, by go_num, by rw [HS.out]; go_num, hown1, hb1⟩
      case measure => simp [intOf]; omega
    · obtain rfl : k = size := by omega
      obtain ⟨A, c, rfl, _⟩ := own_form hown
      go_wp2_with fail
      have hat := At.of_own hown
      have hl := lowb_length N k
      have hcall := back_any A c (lowb N k) wr (hat.more fun b h => h.1) (by omega)
      rw [hl] at hcall
      refine hcall.mono ?_
      rintro e w' ⟨A', c', rfl, hown', hb'⟩
      go_wp2_with fail
      go_ret
      exact RetB.lift hb ⟨A', c', ret_slice (told_length N k).symm, hown', hb'⟩

theorem infoSl : (Try.prog.info? 30).map (fun i => (i.zero, i.size, i.bytes)) = some (some (.slice none 0 0), 1, 24) := by kernel_rfl

/-- What Of hands back where the counter may be. -/
def RetOf (bs : List UInt8) (w : World) (e : Ending) (w' : World) : Prop :=
  ∃ A c, e = .returned (.tuple #[.slice A bs.length c, .int .i64 0]) ∧ bs.length ≤ c ∧ At w' (fun b => b < w'.heap.size ∧ w.heap.size ≤ b) A (bvs bs) ∧ Below w.heap.size w w'

set_option maxHeartbeats 800000 in
theorem refOf_yes (e n : Nat) (w : World) (he : e ≤ 64) (hn : n ≤ 1099511627776) :
    Calls Try.prog 10 #[.int .i64 (e : Int), .int .i64 (n : Int)] w (RetOf (nb e n) w) := by
  obtain ⟨i0, hi0, hz0, hz1, hz2⟩ := info_parts infoU8
  have hr : rightB e n = true := by unfold rightB; exact decide_eq_true (by omega)
  go_enter Try.func10, Try.ntmps10
  go_wp2_with fail
  refine (refRight_any _ _ _).mono ?_
  rintro e1 w1 ⟨rfl, rfl⟩
  rw [hr]
  go_wp2_with fail
  refine (told_any e 4 _ (by omega) (by omega)).mono ?_
  rintro e1 w1 ⟨A1, c1, rfl, hown1, hb1⟩
  rw [told_length] at hown1 ⊢
  go_wp2_with fail
  refine (told_any n 8 _ (by omega) (by omega)).mono ?_
  rintro e2 w2 ⟨A2, c2, rfl, hown2, hb2⟩
  rw [told_length] at hown2 ⊢
  have hown1' := own_below hown1 hb2
  have hat2 := At.of_own hown2
  have hz2' : w.heap.size ≤ w2.heap.size := Nat.le_trans hb1.size hb2.size
  go_wp2_with (at_builtin; refine wpList_apps rfl _ _ 30 rfl w.heap.size 5 i0 _ 1 1 Try.underlying30 hi0 hz0 hz1 hz2 rfl (by omega) _ _ _ rfl hown1' _ A2 8 c2 (bvs (told n 8)) rfl (by simp [bvs_length, told_length]) hat2 (bvs_one _) (by simp [maxLen]) (by omega) hz2' ?_; intro v' w3 hown3 hg3 hat3)
  rw [← bvs_append] at hown3
  obtain ⟨A3, c3, rfl, hc3⟩ := own_form hown3
  go_ret2
  exact ⟨A3, c3, by rw [nb_length]; rfl, by rw [nb_length]; exact hc3, (At.of_own hown3).more fun b h => ⟨h.1, h.2.1⟩, (hb1.trans (hb2.mono hb1.size)).grown hg3 hz2' (own_base hown1)⟩

end Go.Proofs.Ytkmlheodchkokaa
