/- The walk of nonce.Of: an array that is filled by two copies, and cut. -/
import Derived.Test.YtkmlheodchkokaaNonceA
import Derived.Laws.CopyOwn
import Derived.Deep.RegionLaw
import Derived.Deep.RegionHeld3
import Derived.Deep.RegionWith
import Derived.Deep.DeepCutAuto
namespace Go.Proofs.Ytkmlheodchkokaa
open Go.RowKit

theorem sizeU8 : (Try.prog.info? 5).map (·.size) = some 1 := by kernel_rfl

theorem new_kept {w w1 w2 : World} {o : Obj} (hb1 : Below w.heap.size w w1) (hb2 : Below (w1.alloc o).drew.heap.size (w1.alloc o).drew w2) :
    w2.heap[w1.heap.size]? = some o ∧ Below w.heap.size w w2 ∧ w1.heap.size < w2.heap.size := by
  have hs := hb1.size
  refine ⟨(hb2.block _ (by simp)).trans (heap_alloc_new _ _), ((hb1.alloc hb1.size o).drew).trans (hb2.mono (by simp; omega)), ?_⟩
  have := hb2.size
  simp at this
  omega
theorem old_kept {w w1 w2 : World} {g : Nat} {o : Obj} (hb1 : Below w.heap.size w w1) (hb2 : Below w1.drew.heap.size w1.drew w2) (hg : w1.heap[g]? = some o) (hlt : g < w1.heap.size) :
    w2.heap[g]? = some o ∧ Below w.heap.size w w2 ∧ g < w2.heap.size := by
  have hs := hb1.size
  refine ⟨(hb2.block _ (by simpa using hlt)).trans hg, (hb1.drew).trans (hb2.mono (by simp; omega)), ?_⟩
  have := hb2.size
  simp at this
  omega
def zeros (k : Nat) : List UInt8 := List.replicate k 0
theorem splice0 (xs : List UInt8) (n : Nat) : splice (bvs (zeros n)) 0 (bvs xs) = bvs (xs ++ zeros (n - xs.length)) := by
  simp [splice, bvs, zeros]
theorem splice_at (xs ys : List UInt8) (n off : Nat) (h : off = xs.length) : splice (bvs (xs ++ zeros n)) off (bvs ys) = bvs (xs ++ (ys ++ zeros (n - ys.length))) := by
  subst h
  simp [splice, bvs, zeros, List.drop_append]
theorem heap_lt {w : World} {g : Nat} {o : Obj} (h : w.heap[g]? = some o) : g < w.heap.size := by
  rcases Nat.lt_or_ge g w.heap.size with h0 | h0
  · exact h0
  · rw [Array.getElem?_eq_none h0] at h; cases h

set_option maxHeartbeats 800000 in
theorem of_yes (e n : Nat) (w : World) (he : e ≤ 64) (hn : n ≤ 1099511627776) :
    Calls Try.prog 11 #[.int .i64 (e : Int), .int .i64 (n : Int)] w (RetOf (nb e n) w) := by
  have hr : rightB e n = true := by unfold rightB; exact decide_eq_true (by omega)
  have L4 : (bvs (told e 4)).length = Nat.min 4 4 := by simp [bvs_length, told_length]
  have F4 : 0 + (bvs (told e 4)).length ≤ (bvs (zeros 12)).length := by simp [bvs_length, told_length, zeros]
  have L8 : (bvs (told n 8)).length = Nat.min 8 8 := by simp [bvs_length, told_length]
  have F8 : 4 + (bvs (told n 8)).length ≤ (bvs (told e 4 ++ zeros 8)).length := by simp [bvs_length, told_length, zeros]
  have HL4 := Lib.hid L4
  have HF4 := Lib.hid F4
  have HL8 := Lib.hid L8
  have HF8 := Lib.hid F8
  clear L4 F4 L8 F8
  go_enter Try.func11, Try.ntmps11
  go_wp2_with fail
  refine (right_any _ _ _).mono ?_
  rintro e1 w1 ⟨rfl, hb1⟩
  rw [hr]
  have e32 : IntKind.u32.wrap (e : Int) = e := IntWalk.u32_in _ (by omega)
  have n64 : IntKind.u64.wrap (n : Int) = n := IntWalk.u64_in _ (by omega)
  go_upto_region 4 with fail
  go_cut [16] (fun _ wx => wx.heap[w1.heap.size]? = some (.cells (bvs (told e 4 ++ zeros 8)).toArray 39 (0, 0)) ∧ Below w.heap.size w wx)
  case first =>
    have hstore := fun W => store_high e W (by omega)
    go_region_held3 (fun _ => True) (exact trivial) (first | (go_at_call 13; refine (hstore _).mono ?_; rintro e2 w2 ⟨A2, c2, rfl, hown2, hb2⟩; rw [told_length] at hown2 ⊢; obtain ⟨hG, hW, hz2⟩ := new_kept hb1 hb2) | (refine step_copy_splice rfl (.tmp 12) (.tmp 15) 30 30 rfl 5 Try.underlying30 sizeU8 (some ⟨w1.heap.size, 0, none⟩) A2 4 12 4 c2 rfl rfl w1.heap.size 0 (bvs (zeros 12)) 39 hG (bvs (told e 4)) HL4.out (fun h => ⟨rfl, (At.of_own hown2).src h⟩) HF4.out (bvs_one _) w.heap.size w hW hb1.size ?_; intro w4 hg4 hb4))
    all_goals
      go_wp2_with fail
      go_meet
      exact ⟨by have := hg4.out; rw [splice0, told_length] at this; exact this, hb4⟩
  case rest =>
    obtain ⟨hG, hW⟩ := hcut
    have hlt := heap_lt hG
    go_upto_region 5 with fail
    go_cut [21] (fun _ wx => wx.heap[w1.heap.size]? = some (.cells (bvs (nb e n)).toArray 39 (0, 0)) ∧ Below w.heap.size w wx)
    case first =>
      have htell := fun W => tell_any n W (by omega)
      go_region_held3 (fun _ => True) (exact trivial) (first | (go_at_call 14; refine (htell _).mono ?_; rintro e2 w2 ⟨A2, c2, rfl, hown2, hb2⟩; rw [told_length] at hown2 ⊢; obtain ⟨hG2, hW2, hz2⟩ := old_kept hW hb2 hG hlt) | (refine step_copy_splice rfl (.tmp 17) (.tmp 20) 30 30 rfl 5 Try.underlying30 sizeU8 (some ⟨w1.heap.size, 4, none⟩) A2 8 8 8 c2 rfl rfl w1.heap.size 4 (bvs (told e 4 ++ zeros 8)) 39 hG2 (bvs (told n 8)) HL8.out (fun h => ⟨rfl, (At.of_own hown2).src h⟩) HF8.out (bvs_one _) w.heap.size w hW2 hb1.size ?_; intro w4 hg4 hb4))
      all_goals
        go_wp2_with fail
        go_meet
        refine ⟨?_, hb4⟩
        have := hg4.out
        rw [splice_at _ _ _ _ (told_length _ _).symm, told_length] at this
        simpa [zeros, nb] using this
    case rest =>
      obtain ⟨hG2, hW2⟩ := hcut
      go_wp2_with fail
      go_ret2
      refine ⟨some ⟨w1.heap.size, 0, none⟩, 12, by rw [nb_length]; rfl, by rw [nb_length]; exact Nat.le_refl _, at_block hG2 ⟨heap_lt hG2, hb1.size⟩, hW2⟩
end Go.Proofs.Ytkmlheodchkokaa
