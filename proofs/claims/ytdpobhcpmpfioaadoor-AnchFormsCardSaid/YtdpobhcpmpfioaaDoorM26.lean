import Derived.Test.YtdpobhcpmpfioaaDoorM12
import Derived.Laws.BitsAllLaws
set_option linter.all false
set_option linter.unusedVariables false
set_option linter.unusedSimpArgs false
/-! The sum of bytes, each number worked out at once: for the kernel. -/
namespace Go.Proofs.YtdpobhcpmpfioaaDoor
open Go.RowKit

def fI {α : Type} (x : Int) (f : Int → α) : α := match x with
  | .ofNat n => (match n with | 0 => f 0 | m + 1 => f (.ofNat (m + 1)))
  | .negSucc n => f (.negSucc n)
theorem fI_eq {α : Type} (x : Int) (f : Int → α) : fI x f = f x := by
  cases x with
  | ofNat n => cases n <;> rfl
  | negSucc n => rfl
def fL {α : Type} : List Int → (List Int → α) → α
  | [], f => f []
  | x :: r, f => fI x fun x' => fL r fun r' => f (x' :: r')
theorem fL_eq {α : Type} : ∀ (l : List Int) (f : List Int → α), fL l f = f l
  | [], _ => rfl
  | x :: r, f => by simp only [fL, fI_eq]; rw [fL_eq r]
def m32 (x : Int) : Nat := (x % 4294967296).toNat
def xF (x y : Int) : Int := Int.ofNat (Nat.xor (m32 x) (m32 y))
def aF (x y : Int) : Int := Int.ofNat (Nat.land (m32 x) (m32 y))
def oF (x y : Int) : Int := Int.ofNat (Nat.lor (m32 x) (m32 y))
theorem m32_lt (x : Int) : m32 x < 2 ^ 32 := by unfold m32; omega
theorem ofInt32 (x : Int) : (BitVec.ofInt 32 x).toNat = m32 x := by simp [BitVec.toNat_ofInt, m32]
theorem bxF (x y : Int) : bits .xor .u32 x y = xF x y := by
  have h := Nat.xor_lt_two_pow (m32_lt x) (m32_lt y)
  show IntKind.u32.wrap (((BitVec.ofInt 32 x ^^^ BitVec.ofInt 32 y).toNat : Nat) : Int) = _
  rw [BitVec.toNat_xor, ofInt32, ofInt32, IntKind.wrap_u32']
  show _ = ((m32 x ^^^ m32 y : Nat) : Int)
  omega
theorem baF (x y : Int) : bits .and .u32 x y = aF x y := by
  have h := Nat.and_lt_two_pow (m32 x) (m32_lt y)
  show IntKind.u32.wrap (((BitVec.ofInt 32 x &&& BitVec.ofInt 32 y).toNat : Nat) : Int) = _
  rw [BitVec.toNat_and, ofInt32, ofInt32, IntKind.wrap_u32']
  show _ = ((m32 x &&& m32 y : Nat) : Int)
  omega
theorem boF (x y : Int) : bits .or .u32 x y = oF x y := by
  have h := Nat.or_lt_two_pow (m32_lt x) (m32_lt y)
  show IntKind.u32.wrap (((BitVec.ofInt 32 x ||| BitVec.ofInt 32 y).toNat : Nat) : Int) = _
  rw [BitVec.toNat_or, ofInt32, ofInt32, IntKind.wrap_u32']
  show _ = ((m32 x ||| m32 y : Nat) : Int)
  omega
def rF (x : Int) (n : Nat) : Int := oF (x * 2 ^ (32 - n) % 4294967296) (x / 2 ^ n)
theorem rotF (x : Int) (n : Nat) : rotI x n = rF x n := by unfold rotI rF; rw [boF, IntKind.wrap_u32']
def pairs (S : List Int) (n : Nat) : List (Int × Int) := (List.range n).map fun i => (cubesL.getD i 0, S.getD i 0)
theorem mixN_fold (S H : List Int) : ∀ n, mixN S H n = (pairs S n).foldl (fun V p => rndL V p.1 p.2) H
  | 0 => by unfold mixN; rfl
  | n + 1 => by
    rw [mixN_succ, mixN_fold S H n]
    simp only [pairs, List.range_succ, List.map_append, List.foldl_append, List.map_cons, List.map_nil, List.foldl_cons, List.foldl_nil]
def rndsF : List (Int × Int) → Int → Int → Int → Int → Int → Int → Int → Int → List Int
  | [], a, b, c, d, e, f, g, h => [a, b, c, d, e, f, g, h]
  | (k, x) :: l, a, b, c, d, e, f, g, h =>
    fI (h + xF (xF (rF e 6) (rF e 11)) (rF e 25) + xF (aF e f) (aF (xF 4294967295 e) g) + k + x) fun t1 =>
    fI ((t1 + xF (xF (rF a 2) (rF a 13)) (rF a 22) + xF (xF (aF a b) (aF a c)) (aF b c)) % 4294967296) fun A =>
    fI ((d + t1) % 4294967296) fun E => rndsF l A a b c E e f g
theorem rndsF_eq : ∀ (l : List (Int × Int)) (a b c d e f g h : Int), rndsF l a b c d e f g h = l.foldl (fun V p => rndL V p.1 p.2) [a, b, c, d, e, f, g, h]
  | [], _, _, _, _, _, _, _, _ => rfl
  | (k, x) :: l, a, b, c, d, e, f, g, h => by
    simp only [rndsF, fI_eq, List.foldl_cons]
    rw [rndsF_eq l]
    congr 1
    have hm : IntKind.u32.max = 4294967295 := rfl
    simp only [rndL, rnd, bxF, baF, rotF, hm]
def nextwF (A : List Int) (i : Nat) : Int :=
  (A.getD (i - 16) 0 + fI (A.getD (i - 15) 0) (fun a => xF (xF (rF a 7) (rF a 18)) (a / 8)) + A.getD (i - 7) 0 + fI (A.getD (i - 2) 0) (fun a => xF (xF (rF a 17) (rF a 19)) (a / 1024))) % 4294967296
theorem nextwF_eq (A : List Int) (i : Nat) : nextwF A i = nextw A i := by
  unfold nextwF nextw nextw' s0I s1I
  simp only [fI_eq, bxF, rotF]
def sp2F : Nat → Nat → List Int → List Int
  | 0, _, A => A
  | f + 1, n, A => fL (A.set (16 + n) (nextwF A (16 + n))) fun A' => sp2F f (n + 1) A'
theorem sp2F_eq (A : List Int) : ∀ f n, sp2F f n (sp2 A n) = sp2 A (n + f)
  | 0, n => rfl
  | f + 1, n => by
    simp only [sp2F, fL_eq, nextwF_eq]
    rw [show n + (f + 1) = (n + 1) + f by omega, ← sp2F_eq A f (n + 1)]
    rfl
def mixF (H B : List Int) : List Int := match H with
  | [a, b, c, d, e, f, g, h] => fL (sp1 B 16) fun A => fL (sp2F 48 0 A) fun S => fL (rndsF (pairs S 64) a b c d e f g h) fun V => addN V [a, b, c, d, e, f, g, h] 8
  | l => mixI l B
theorem mixF_eq (H B : List Int) : mixF H B = mixI H B := by
  unfold mixF
  split
  · simp only [fL_eq]
    rw [mixI_eq, spreadI_eq, rndsF_eq, mixN_fold]
    have := sp2F_eq (sp1 B 16) 48 0
    rw [show sp2 (sp1 B 16) 0 = sp1 B 16 from rfl] at this
    rw [this]
  · rfl
def hsF (X : List Int) : Nat → List Int
  | 0 => squaresL
  | j + 1 => fL (hsF X j) fun H => fL ((X.drop (64 * j)).take 64) fun B => fL (mixF H B) fun V => V
theorem hsF_eq (X : List Int) : ∀ j, hsF X j = hs X j
  | 0 => by rw [hs_zero]; rfl
  | j + 1 => by simp only [hsF, fL_eq]; rw [hsF_eq X j, mixF_eq, hs_succ]
def sumF (l : List Int) : List Int := fL l fun l => fL (padded l) fun X => fL (hsF X (X.length / 64)) fun V => fL (outN V 32) fun O => O
theorem sumF_eq (l : List Int) : sumF l = sumL l := by
  unfold sumF
  simp only [fL_eq]
  rw [hsF_eq, sumL_eq]
def txF (t : Tx) : List Int := sumF (sumF (baseB t))
theorem txF_eq (t : Tx) : (txid t).1 = txF t := by
  unfold txF
  rw [sumF_eq, sumF_eq]
  rfl
theorem txid_ok (t : Tx) : ∀ b ∈ (txid t).1, 0 ≤ b ∧ b < 256 := sumL_byte _
end Go.Proofs.YtdpobhcpmpfioaaDoor

namespace Go.Proofs.YtdpobhcpmpfioaaDoor
open Go.RowKit
set_option maxRecDepth 1000000 in
theorem hash0 : txF (aTx 0) ≠ List.replicate 32 0 := by decide +kernel
set_option maxRecDepth 1000000 in
theorem hash1 : txF (aTx 1) ≠ List.replicate 32 0 := by decide +kernel
set_option maxRecDepth 1000000 in
theorem hash2 : txF (aTx 2) ≠ List.replicate 32 0 := by decide +kernel
set_option maxRecDepth 1000000 in
theorem hash3 : txF (aTx 3) ≠ List.replicate 32 0 := by decide +kernel
set_option maxRecDepth 1000000 in
theorem hash4 : txF (aTx 4) ≠ List.replicate 32 0 := by decide +kernel
set_option maxRecDepth 1000000 in
theorem hash5 : txF (aTx 5) ≠ List.replicate 32 0 := by decide +kernel
set_option maxRecDepth 1000000 in
theorem hash6 : txF (aTx 6) ≠ List.replicate 32 0 := by decide +kernel
set_option maxRecDepth 1000000 in
theorem hash7 : txF (aTx 7) ≠ List.replicate 32 0 := by decide +kernel
end Go.Proofs.YtdpobhcpmpfioaaDoor

namespace Go.Proofs.YtdpobhcpmpfioaaDoor
open Go.RowKit
theorem hashes : ∀ r, r < 8 → txF (aTx r) ≠ List.replicate 32 0
  | 0, _ => hash0
  | 1, _ => hash1
  | 2, _ => hash2
  | 3, _ => hash3
  | 4, _ => hash4
  | 5, _ => hash5
  | 6, _ => hash6
  | 7, _ => hash7
theorem aTx_id (r : Nat) (hr : r < 8) : txid (aTx r) ≠ zid := fun e => hashes r hr ((txF_eq (aTx r)).symm.trans (congrArg Subtype.val e))
end Go.Proofs.YtdpobhcpmpfioaaDoor
