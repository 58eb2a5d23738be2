/- Layer 10 in plain words: the bytes of a number, the highest first; the twelve bytes of a nonce; what Take takes. -/
namespace Go.Proofs.Ytkmlheodchkokaa

/-- A number's lowest bytes, the lowest first. -/
def lowb (n : Nat) : Nat → List UInt8
  | 0 => []
  | k + 1 => lowb n k ++ [UInt8.ofNat (n / 256 ^ k % 256)]
/-- A number in so many bytes, the highest first. -/
def told (n size : Nat) : List UInt8 := (lowb n size).reverse

theorem lowb_length (n k : Nat) : (lowb n k).length = k := by
  induction k with
  | zero => rfl
  | succ k ih => simp [lowb, ih]
theorem told_length (n k : Nat) : (told n k).length = k := by simp [told, lowb_length]

/-- The bytes of a nonce. -/
def nb (e n : Nat) : List UInt8 := told e 4 ++ told n 8
theorem nb_length (e n : Nat) : (nb e n).length = 12 := by simp [nb, told_length]

/-- The first k of the nonces behind a number. -/
def nbs (e last : Nat) : Nat → List (List UInt8)
  | 0 => []
  | k + 1 => nbs e last k ++ [nb e (last + k + 1)]
theorem nbs_length (e l k : Nat) : (nbs e l k).length = k := by
  induction k with
  | zero => rfl
  | succ k ih => simp [nbs, ih]

end Go.Proofs.Ytkmlheodchkokaa
