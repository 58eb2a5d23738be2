/- Words for memory, without any program: byte values, cells that lie at an address, slices of bytes and lists of them, what a call hands back in new memory. -/
import Derived.WalkKit
import Derived.WalkSpells
import Derived.WalkLawsBesides
import Derived.Lib.Hide
import Derived.Laws.OwnMore
import Derived.Deep.AppendLies
import Derived.Deep.Draws
import Derived.Maps.AppendAt
namespace Go.Proofs.Ytkmlheodchkokaa
open Go.RowKit

/-- A byte as Go's value. -/
def bv (b : UInt8) : Value := .int .u8 (b.toNat : Int)
def bvs (l : List UInt8) : List Value := l.map bv

theorem bvs_length (l : List UInt8) : (bvs l).length = l.length := by simp [bvs]
theorem bvs_append (a b : List UInt8) : bvs (a ++ b) = bvs a ++ bvs b := by simp [bvs]
theorem bvs_one (l : List UInt8) : ∀ u ∈ bvs l, u.oneCell' = true := by
  intro u hu
  simp only [bvs, List.mem_map] at hu
  obtain ⟨b, _, rfl⟩ := hu
  rfl
theorem bvs_get {l : List UInt8} {j : Nat} (h : j < l.length) : (bvs l)[j]? = some (bv l[j]) := by simp [bvs, h]

theorem addr_block (a : Addr) (n : Nat) : (a.add n).block = a.block := by unfold Addr.add; split <;> rfl
theorem addr_add (a : Addr) (i j : Nat) : (a.add i).add j = a.add (i + j) := by
  unfold Addr.add
  by_cases hi : i = 0 <;> by_cases hj : j = 0 <;> simp [hi, hj, Nat.add_assoc]

/-- The cells xs lie at A, in a block that N allows. -/
def At (w : World) (N : Nat → Prop) (A : Option Addr) (xs : List Value) : Prop :=
  xs = [] ∨ ∃ ad, A = some ad ∧ N ad.block ∧ ∀ j u, xs[j]? = some u → w.cell? (ad.add j) = some u

section
variable {w w' : World} {N N' : Nat → Prop} {A : Option Addr} {xs : List Value}
theorem At.nil_ : At w N A [] := .inl rfl
theorem At.get (h : At w N A xs) {k : Nat} (hk : k < xs.length) : ∃ ad, A = some ad ∧ N ad.block ∧ w.cell? (ad.add k) = some xs[k] := by
  rcases h with rfl | ⟨ad, e, hb, hc⟩
  · simp at hk
  · exact ⟨ad, e, hb, hc k _ (List.getElem?_eq_getElem hk)⟩
theorem At.src (h : At w N A xs) (h0 : 0 < xs.length) : ∃ ad, A = some ad ∧ ∀ j v, xs[j]? = some v → w.cell? (ad.add j) = some v := by
  rcases h with rfl | ⟨ad, e, _, hc⟩
  · simp at h0
  · exact ⟨ad, e, hc⟩
theorem At.keep (h : At w N A xs) (hk : ∀ p : Addr, N p.block → w'.cell? p = w.cell? p) : At w' N A xs := by
  rcases h with rfl | ⟨ad, e, hb, hc⟩
  · exact .inl rfl
  · exact .inr ⟨ad, e, hb, fun j u hu => (hk _ (by rw [addr_block]; exact hb)).trans (hc j u hu)⟩
theorem At.more (h : At w N A xs) (hN : ∀ b, N b → N' b) : At w N' A xs := by
  rcases h with rfl | ⟨ad, e, hb, hc⟩
  · exact .inl rfl
  · exact .inr ⟨ad, e, hN _ hb, hc⟩
theorem At.below {B : Nat} (h : At w N A xs) (hb : Below B w w') (hN : ∀ b, N b → b < B) : At w' N A xs := h.keep fun _ hp => hb.cell (hN _ hp)
theorem At.grown (h : At w N A xs) {row : Option Nat} (hg : w.grownBy w' row) (hN : ∀ b, N b → b < w.heap.size ∧ some b ≠ row) : At w' N A xs :=
  h.keep fun p hp => World.cell?_of_block (hg.block p.block (hN _ hp).1 (hN _ hp).2)
theorem At.alloc (h : At w N A xs) (hN : ∀ b, N b → b < w.heap.size) (o : Obj) : At (w.alloc o) N A xs := h.keep fun p hp => World.cell?_alloc_lt w o p (hN _ hp)
theorem At.setCell (h : At w N A xs) {p : Addr} (hN : ¬ N p.block) (u : Value) : At (w.setCell p u) N A xs :=
  h.keep fun q hq => World.cell?_setCell_other w p q u (fun e => by subst e; exact hN hq)
theorem At.drew (h : At w N A xs) : At w.drew N A xs := h
theorem At.drewN (h : At w N A xs) (n : Nat) : At (w.drewN n) N A xs := h
theorem At.drop (h : At w N A xs) {k cap : Nat} (hc : xs.length ≤ cap) : At w N (if cap = k then A else A.map (·.add k)) (xs.drop k) := by
  rcases Nat.lt_or_ge k xs.length with hlt | hge
  · rcases h with rfl | ⟨ad, rfl, hb, hcell⟩
    · left; simp
    · right
      rw [if_neg (by omega)]
      refine ⟨ad.add k, rfl, by rw [addr_block]; exact hb, fun j u hu => ?_⟩
      rw [addr_add]
      exact hcell _ u (by rw [← hu, List.getElem?_drop])
  · left; exact List.drop_of_length_le hge
theorem At.take (h : At w N A xs) (k : Nat) : At w N A (xs.take k) := by
  rcases h with rfl | ⟨ad, rfl, hb, hcell⟩
  · left; simp
  · exact .inr ⟨ad, rfl, hb, fun j u hu => hcell j u (by
      rw [List.getElem?_take] at hu
      split at hu
      · exact hu
      · cases hu)⟩
theorem At.of_own {base : Nat} {e : TypeId} {n c size : Nat} (h : w.ownsRow base e size (.slice A n c) n xs) :
    At w (fun b => b < w.heap.size ∧ base ≤ b ∧ some b = (Value.slice A n c).ownBlock) A xs := by
  rcases Nat.eq_zero_or_pos n with h0 | hn
  · left; exact List.eq_nil_of_length_eq_zero (by rw [h.1, h0, Nat.zero_mul])
  · obtain ⟨g, cap, hv, hb, hlt⟩ := h.form hn
    have hA : A = some ⟨g, 0, none⟩ := by injection hv
    subst hA
    exact .inr ⟨_, rfl, ⟨hlt, hb, rfl⟩, h.cells (g := g) rfl⟩
end

theorem at_block {w : World} {N : Nat → Prop} {g : Nat} {E : TypeId} {fr : Nat × Nat} {xs : List Value} (h : w.heap[g]? = some (.cells xs.toArray E fr)) (hN : N g) : At w N (some ⟨g, 0, none⟩) xs := by
  refine .inr ⟨_, rfl, hN, fun j u hu => ?_⟩
  unfold Addr.add
  by_cases hj : j = 0
  · subst hj; simp [World.cell?, h, hu]
  · simp [hj, World.cell?, h, hu]

/-- A slice of bytes, as a value. -/
def SlB (w : World) (N : Nat → Prop) (v : Value) (bs : List UInt8) : Prop := ∃ A c, v = .slice A bs.length c ∧ At w N A (bvs bs)
/-- The values of a slice of slices of bytes. -/
def SlBs (w : World) (N : Nat → Prop) (xs : List Value) (l : List (List UInt8)) : Prop := xs.length = l.length ∧ ∀ (i : Nat) (v : Value) (bs : List UInt8), xs[i]? = some v → l[i]? = some bs → SlB w N v bs

section
variable {w w' : World} {N N' : Nat → Prop} {v : Value} {bs : List UInt8} {xs : List Value} {l : List (List UInt8)}
theorem SlB.keep (h : SlB w N v bs) (hk : ∀ p : Addr, N p.block → w'.cell? p = w.cell? p) : SlB w' N v bs := by
  obtain ⟨A, c, e, h⟩ := h; exact ⟨A, c, e, h.keep hk⟩
theorem SlB.more (h : SlB w N v bs) (hN : ∀ b, N b → N' b) : SlB w N' v bs := by obtain ⟨A, c, e, h⟩ := h; exact ⟨A, c, e, h.more hN⟩
theorem SlBs.nil_ : SlBs w N [] [] := ⟨rfl, fun i v bs h _ => by simp at h⟩
theorem SlBs.keep (h : SlBs w N xs l) (hk : ∀ p : Addr, N p.block → w'.cell? p = w.cell? p) : SlBs w' N xs l := ⟨h.1, fun i v bs hv hb => (h.2 i v bs hv hb).keep hk⟩
theorem SlBs.more (h : SlBs w N xs l) (hN : ∀ b, N b → N' b) : SlBs w N' xs l := ⟨h.1, fun i v bs hv hb => (h.2 i v bs hv hb).more hN⟩
theorem SlBs.snoc (h : SlBs w N xs l) (hv : SlB w N v bs) : SlBs w N (xs ++ [v]) (l ++ [bs]) := by
  refine ⟨by simp [h.1], fun i u b hu hb => ?_⟩
  rcases Nat.lt_or_ge i xs.length with hlt | hge
  · rw [List.getElem?_append_left hlt] at hu
    rw [List.getElem?_append_left (by rw [← h.1]; exact hlt)] at hb
    exact h.2 i u b hu hb
  · rw [List.getElem?_append_right hge] at hu
    rw [List.getElem?_append_right (by rw [← h.1]; exact hge)] at hb
    rw [h.1] at hu
    rcases Nat.eq_zero_or_pos (i - l.length) with h0 | h0
    · rw [h0] at hu hb
      simp at hu hb
      subst hu; subst hb
      exact hv
    · have hz : [bs][i - l.length]? = none := List.getElem?_eq_none (by simp; omega)
      rw [hz] at hb
      cases hb
theorem SlBs.one (h : SlBs w N xs l) : ∀ u ∈ xs, u.oneCell' = true := by
  intro u hu
  obtain ⟨i, hi, rfl⟩ := List.getElem_of_mem hu
  obtain ⟨A, c, e, _⟩ := h.2 i _ _ (List.getElem?_eq_getElem hi) (List.getElem?_eq_getElem (by rw [← h.1]; exact hi))
  rw [e]
  rfl
end

/-- What a function that makes bytes hands back: a slice in new memory, at whose end more may be appended. -/
def RetB (E : TypeId) (bs : List UInt8) (w : World) (e : Ending) (w' : World) : Prop :=
  ∃ A c, e = .returned (.slice A bs.length c) ∧ w'.ownsRow w.heap.size E 1 (.slice A bs.length c) bs.length (bvs bs) ∧ Below w.heap.size w w'

theorem own_form {w : World} {base : Nat} {e : TypeId} {size : Nat} {v : Value} {n : Nat} {xs : List Value} (h : w.ownsRow base e size v n xs) : ∃ A c, v = .slice A n c ∧ n ≤ c := by
  rcases h.2 with ⟨rfl, rfl⟩ | ⟨g, cap, cur, rfl, _, _, hc, _⟩
  · exact ⟨none, 0, rfl, Nat.le_refl _⟩
  · exact ⟨_, _, rfl, hc⟩
theorem retB_of {E : TypeId} {bs : List UInt8} {w w' : World} {v : Value} {n : Nat} (h : w'.ownsRow w.heap.size E 1 v n (bvs bs)) (hb : Below w.heap.size w w') : RetB E bs w (.returned v) w' := by
  have hn : n = bs.length := by have := h.1; rw [bvs_length] at this; omega
  subst hn
  obtain ⟨A, c, rfl, _⟩ := own_form h
  exact ⟨A, c, rfl, h, hb⟩

theorem own_low {w : World} {base base' : Nat} {e : TypeId} {size : Nat} {v : Value} {n : Nat} {xs : List Value} (h : w.ownsRow base e size v n xs) (hb : base' ≤ base) : w.ownsRow base' e size v n xs := by
  refine ⟨h.1, ?_⟩
  rcases h.2 with h0 | ⟨g, cap, cur, e1, e2, e3⟩
  · exact .inl h0
  · exact .inr ⟨g, cap, cur, e1, by omega, e3⟩
theorem RetB.lift {E : TypeId} {bs : List UInt8} {w w1 w' : World} {e : Ending} (hb : Below w.heap.size w w1) (h : RetB E bs w1 e w') : RetB E bs w e w' := by
  obtain ⟨A, c, e1, e2, e3⟩ := h
  exact ⟨A, c, e1, own_low e2 hb.size, hb.trans (e3.mono hb.size)⟩
theorem ret_slice {A : Option Addr} {n m c : Nat} (h : n = m) : Ending.returned (.slice A n c) = .returned (.slice A m c) := by rw [h]

theorem own_below {w w' : World} {base : Nat} {e : TypeId} {size : Nat} {v : Value} {n : Nat} {xs : List Value} (h : w.ownsRow base e size v n xs) (hb : Below w.heap.size w w') : w'.ownsRow base e size v n xs := by
  refine ⟨h.1, ?_⟩
  have hl := h.lt
  rcases h.2 with h0 | ⟨g, cap, cur, e1, e2, e3, e4⟩
  · exact .inl h0
  · have hlt := (hl g (by rw [e1]; rfl)).2
    exact .inr ⟨g, cap, cur, e1, e2, (hb.block g hlt).trans e3, e4⟩

theorem blk_cell {w : World} {g : Nat} {E : TypeId} {fr : Nat × Nat} {cs : Array Value} (h : w.heap[g]? = some (.cells cs E fr)) (i : Nat) (v : Value) (hv : cs[i]? = some v) : w.cell? ⟨g, i, none⟩ = some v := by
  simp [World.cell?, h, hv]
theorem blk_free {w : World} {g : Nat} {E : TypeId} {cs : Array Value} (h : w.heap[g]? = some (.cells cs E (0, 0))) (i : Nat) : w.frozen? ⟨g, i, none⟩ = false := by
  simp [World.frozen?, h]
theorem blk_set {w : World} {g : Nat} {E : TypeId} {cs : Array Value} (h : w.heap[g]? = some (.cells cs E (0, 0))) (i : Nat) (u : Value) : (w.setCell ⟨g, i, none⟩ u).heap[g]? = some (.cells (cs.setIfInBounds i u) E (0, 0)) := by
  simp [World.setCell, Array.getElem?_modify, h]
theorem blk_far {w : World} {g : Nat} {o : Obj} (h : w.heap[g]? = some o) {p : Addr} (hp : g ≠ p.block) (u : Value) : (w.setCell p u).heap[g]? = some o := (Below.heap_setCell w p u g hp).trans h
theorem blk_lt {w : World} {g : Nat} {o : Obj} (h : w.heap[g]? = some o) : g < w.heap.size := by
  rcases Nat.lt_or_ge g w.heap.size with h0 | h0
  · exact h0
  · rw [Array.getElem?_eq_none h0] at h; cases h
theorem blk_alloc {w : World} {g : Nat} {o : Obj} (h : w.heap[g]? = some o) (o' : Obj) : (w.alloc o').heap[g]? = some o := (Below.heap_alloc w o' g (blk_lt h)).trans h
theorem blk_below {w w' : World} {g B : Nat} {o : Obj} (h : w.heap[g]? = some o) (hb : Below B w w') (hg : g < B) : w'.heap[g]? = some o := (hb.block g hg).trans h
theorem blk_grown {w w' : World} {g : Nat} {o : Obj} {row : Option Nat} (h : w.heap[g]? = some o) (hg : w.grownBy w' row) (hne : some g ≠ row) : w'.heap[g]? = some o := (hg.block g (blk_lt h) hne).trans h
theorem new1 {w w1 : World} {o1 : Obj} (hb : Below (w.alloc o1).heap.size (w.alloc o1) w1) : w1.heap[w.heap.size]? = some o1 ∧ Below w.heap.size w w1 ∧ w.heap.size + 1 ≤ w1.heap.size := by
  have hs := hb.size
  simp at hs
  exact ⟨blk_below (heap_alloc_new _ _) hb (by simp), ((Below.refl _ _).alloc (Nat.le_refl _) _).trans (hb.mono (by simp)), hs⟩
theorem new2 {w w1 : World} {o1 o2 : Obj} (hb : Below ((w.alloc o1).alloc o2).heap.size ((w.alloc o1).alloc o2) w1) :
    w1.heap[w.heap.size]? = some o1 ∧ w1.heap[w.heap.size + 1]? = some o2 ∧ Below w.heap.size w w1 ∧ w.heap.size + 2 ≤ w1.heap.size := by
  obtain ⟨h1, h2, h3⟩ := new1 hb
  have hs : (w.alloc o1).heap.size = w.heap.size + 1 := by simp
  rw [hs] at h1 h3
  exact ⟨blk_below (heap_alloc_new _ _) h2 (by simp), h1, ((Below.refl _ _).alloc (Nat.le_refl _) _).trans (h2.mono (by simp)), h3⟩

theorem bcell {W w1 : World} (hb : Below W.heap.size W w1) : (∀ b o, b < W.heap.size → w1.cell? ⟨b, o, none⟩ = W.cell? ⟨b, o, none⟩) ∧ (∀ b o, b < W.heap.size → w1.frozen? ⟨b, o, none⟩ = W.frozen? ⟨b, o, none⟩) :=
  ⟨fun b o h => hb.cell (p := ⟨b, o, none⟩) h, fun b o h => hb.frozen (p := ⟨b, o, none⟩) h⟩

theorem ret_int {k : IntKind} {a b : Int} (h : a = b) : Ending.returned (.int k a) = .returned (.int k b) := by rw [h]

end Go.Proofs.Ytkmlheodchkokaa
