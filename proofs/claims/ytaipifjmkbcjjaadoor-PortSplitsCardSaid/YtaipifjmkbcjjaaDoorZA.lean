/- Plain words: the checksum on bytes; no program. -/
import Derived.KernelRfl
import Derived.Laws.Entries
import Derived.Laws.BitsLemmas
namespace Go.Proofs.YtaipifjmkbcjjaaDoor

/-- A byte's number. -/
def bn (b : UInt8) : Int := (b.toNat : Int)
theorem bn_nonneg (b : UInt8) : 0 ≤ bn b := Int.natCast_nonneg _
theorem bn_lt (b : UInt8) : bn b < 256 := by have := b.toNat_lt; unfold bn; omega
theorem bn_eq (b : UInt8) : bn b = (b.toNat : Int) := rfl

def halvesL : List Int := [0, 7, 14, 9, 28, 27, 18, 21, 56, 63, 54, 49, 36, 35, 42, 45]

/-- Four doublings of a checksum, as the program does them. -/
def tw (y : Int) : Int := bits BinOp.xor IntKind.u8 (y * 16 % 256) (halvesL[(y / 16).toNat]?.getD 0)

/-- One doubling of a checksum, as the reference does it. -/
def dbl (y : Int) : Int := if 128 ≤ y then bits BinOp.xor IntKind.u8 (y * 2 % 256) 7 else y * 2 % 256

def halvesB (b : UInt8) : UInt8 := [0, 7, 14, 9, 28, 27, 18, 21, 56, 63, 54, 49, 36, 35, 42, 45].getD b.toNat 0
def twB (b : UInt8) : UInt8 := (b <<< 4) ^^^ halvesB (b >>> 4)
/-- Eight doublings. -/
def turnB (b : UInt8) : UInt8 := twB (twB b)
/-- One doubling taken back. -/
def undbl (b : UInt8) : UInt8 := if b &&& 1 = 1 then ((b ^^^ 7) >>> 1) ||| 128 else b >>> 1
def unturn (b : UInt8) : UInt8 := undbl (undbl (undbl (undbl (undbl (undbl (undbl (undbl b)))))))

theorem tw_B (b : UInt8) : tw (bn b) = bn (twB b) := by
  have h : ∀ n : Fin 256, tw (bn (UInt8.ofNat n.val)) = bn (twB (UInt8.ofNat n.val)) := by decide +kernel
  have := h ⟨b.toNat, b.toNat_lt⟩
  simpa using this

def rep8 (f : Int → Int) (y : Int) : Int := f (f (f (f (f (f (f (f y)))))))

theorem dbl8_B (b : UInt8) : rep8 dbl (bn b) = bn (turnB b) := by
  have h : ∀ n : Fin 256, rep8 dbl (bn (UInt8.ofNat n.val)) = bn (turnB (UInt8.ofNat n.val)) := by decide +kernel
  have := h ⟨b.toNat, b.toNat_lt⟩
  simpa using this

theorem unturn_turn (b : UInt8) : unturn (turnB b) = b := by
  have h : ∀ n : Fin 256, unturn (turnB (UInt8.ofNat n.val)) = UInt8.ofNat n.val := by decide +kernel
  have := h ⟨b.toNat, b.toNat_lt⟩
  simpa using this

theorem turnB_inj {a b : UInt8} (h : turnB a = turnB b) : a = b := by
  rw [← unturn_turn a, h, unturn_turn]

theorem xor_B (a b : UInt8) : bits BinOp.xor IntKind.u8 (bn a) (bn b) = bn (a ^^^ b) := by
  have ha := a.toNat_lt
  have hb := b.toNat_lt
  have hx : a.toNat ^^^ b.toNat < 2 ^ 8 := Nat.xor_lt_two_pow ha hb
  have e1 : (BitVec.ofInt IntKind.u8.bits (bn a) ^^^ BitVec.ofInt IntKind.u8.bits (bn b)).toNat = a.toNat ^^^ b.toNat := by
    show (BitVec.ofInt 8 (bn a) ^^^ BitVec.ofInt 8 (bn b)).toNat = _
    rw [BitVec.toNat_xor, bn, bn, BitVec.ofInt_natCast, BitVec.ofInt_natCast, BitVec.toNat_ofNat, BitVec.toNat_ofNat, Nat.mod_eq_of_lt ha, Nat.mod_eq_of_lt hb]
  show IntKind.u8.wrap ((BitVec.ofInt IntKind.u8.bits (bn a) ^^^ BitVec.ofInt IntKind.u8.bits (bn b)).toNat : Int) = _
  rw [e1, IntKind.wrap_u8, bn, UInt8.toNat_xor]
  omega

/-- The checksum of bytes, from c on. -/
def crcFrom (c : UInt8) (l : List UInt8) : UInt8 := l.foldl (fun c b => turnB (c ^^^ b)) c
def crc (l : List UInt8) : UInt8 := crcFrom 0 l

theorem crcFrom_nil (c : UInt8) : crcFrom c [] = c := rfl
theorem crcFrom_snoc (c b : UInt8) (l : List UInt8) : crcFrom c (l ++ [b]) = turnB (crcFrom c l ^^^ b) := by simp [crcFrom]
theorem crcFrom_append (c : UInt8) (l m : List UInt8) : crcFrom c (l ++ m) = crcFrom (crcFrom c l) m := by simp [crcFrom]
theorem crcFrom_cons (c b : UInt8) (l : List UInt8) : crcFrom c (b :: l) = crcFrom (turnB (c ^^^ b)) l := rfl
theorem xor_inj_left {c a b : UInt8} (h : c ^^^ a = c ^^^ b) : a = b := by
  have : c ^^^ (c ^^^ a) = c ^^^ (c ^^^ b) := by rw [h]
  simpa [← UInt8.xor_assoc] using this
theorem xor_inj_right {c a b : UInt8} (h : a ^^^ c = b ^^^ c) : a = b := xor_inj_left (c := c) (by rw [UInt8.xor_comm c a, UInt8.xor_comm c b, h])
theorem crcFrom_inj {c d : UInt8} : ∀ {l : List UInt8}, crcFrom c l = crcFrom d l → c = d
  | [], h => h
  | b :: l, h => by
    have := crcFrom_inj (l := l) (by simpa [crcFrom_cons] using h)
    exact xor_inj_right (turnB_inj this)
/-- A text of which one byte is changed has another checksum. -/
theorem crc_spoilt {l m : List UInt8} {a b : UInt8} (h : crc (l ++ a :: m) = crc (l ++ b :: m)) : a = b := by
  unfold crc at h
  rw [crcFrom_append, crcFrom_append, crcFrom_cons, crcFrom_cons] at h
  exact xor_inj_left (turnB_inj (crcFrom_inj h))


/-- A text of bytes. -/
def bs (l : List UInt8) : ByteArray := ⟨l.toArray⟩
theorem bs_size (l : List UInt8) : (bs l).size = l.length := by simp [bs, ByteArray.size]
theorem bs_list (l : List UInt8) : (bs l).data.toList = l := by simp [bs]
theorem bs_of (s : ByteArray) : bs s.data.toList = s := by cases s; simp [bs]
theorem bs_append (l m : List UInt8) : bs l ++ bs m = bs (l ++ m) := by
  apply ByteArray.ext; simp [bs]
theorem bs_nil : bs [] = ⟨#[]⟩ := rfl

/-- Hexadecimal digits. -/
def hexd (n : Nat) : UInt8 := [48, 49, 50, 51, 52, 53, 54, 55, 56, 57, 97, 98, 99, 100, 101, 102].getD n 0
def hexS (b : UInt8) : List UInt8 := [hexd (b.toNat / 16), hexd (b.toNat % 16)]
def hexText : ByteArray := ⟨#[48, 49, 50, 51, 52, 53, 54, 55, 56, 57, 97, 98, 99, 100, 101, 102]⟩
theorem hex_slice (n : Nat) (h : n < 16) : hexText.extract n (n + 1) = bs [hexd n] := by
  have k : ∀ n : Fin 16, hexText.extract n.val (n.val + 1) = bs [hexd n.val] := by decide
  exact k ⟨n, h⟩

/-- A number from 0 to 99 as text. -/
def digs (n : Nat) : List UInt8 := if n < 10 then [UInt8.ofNat (48 + n)] else [UInt8.ofNat (48 + n / 10), UInt8.ofNat (48 + n % 10)]
theorem digs_len (n : Nat) : 1 ≤ (digs n).length ∧ (digs n).length ≤ 2 := by unfold digs; split <;> simp


/-- The error of a frame (0: none). -/
def chk (t k a b : Int) : Int := if t < 1 ∨ 3 < t then 2 else if k < 1 ∨ 4 < k then 11 else if a < 0 ∨ 99 < a ∨ b < 0 ∨ 99 < b then 2 else 0
theorem chk_ok {t k a b : Int} (h : chk t k a b = 0) : 1 ≤ t ∧ t ≤ 3 ∧ 1 ≤ k ∧ k ≤ 4 ∧ 0 ≤ a ∧ a ≤ 99 ∧ 0 ≤ b ∧ b ≤ 99 := by
  unfold chk at h
  repeat' split at h
  all_goals first | omega | exact absurd h (by decide)
theorem chk_mk {t k a b : Int} (h : 1 ≤ t ∧ t ≤ 3 ∧ 1 ≤ k ∧ k ≤ 4 ∧ 0 ≤ a ∧ a ≤ 99 ∧ 0 ≤ b ∧ b ≤ 99) : chk t k a b = 0 := by
  unfold chk
  rw [if_neg (by omega), if_neg (by omega), if_neg (by omega)]

def tagB (t : Int) : UInt8 := [80, 83, 68].getD (t - 1).toNat 0
def kindB (k : Int) : UInt8 := [104, 99, 107, 109].getD (k - 1).toNat 0
/-- What is summed. -/
def pay (t k a b : Int) : List UInt8 := tagB t :: kindB k :: (digs a.toNat ++ 44 :: (digs b.toNat ++ [59]))
/-- The form of a frame. -/
def form (t k a b : Int) : List UInt8 := 60 :: (pay t k a b ++ (hexS (crc (pay t k a b)) ++ [62]))

theorem pay_len (t k a b : Int) : 6 ≤ (pay t k a b).length ∧ (pay t k a b).length ≤ 8 := by
  have h1 := digs_len a.toNat
  have h2 := digs_len b.toNat
  simp [pay]; omega
theorem form_len (t k a b : Int) : (form t k a b).length = (pay t k a b).length + 4 := by simp [form, hexS]

def tagText : ByteArray := ⟨#[80, 83, 68]⟩
def kindText : ByteArray := ⟨#[104, 99, 107, 109]⟩
theorem tag_slice (t : Int) (h1 : 1 ≤ t) (h2 : t ≤ 3) : tagText.extract (t - 1).toNat t.toNat = bs [tagB t] := by
  have k : ∀ n : Fin 3, tagText.extract n.val (n.val + 1) = bs [[80, 83, 68].getD n.val 0] := by decide
  have := k ⟨(t - 1).toNat, by omega⟩
  have e : (t - 1).toNat + 1 = t.toNat := by omega
  rw [e] at this; exact this
theorem kind_slice (k : Int) (h1 : 1 ≤ k) (h2 : k ≤ 4) : kindText.extract (k - 1).toNat k.toNat = bs [kindB k] := by
  have kk : ∀ n : Fin 4, kindText.extract n.val (n.val + 1) = bs [[104, 99, 107, 109].getD n.val 0] := by decide
  have := kk ⟨(k - 1).toNat, by omega⟩
  have e : (k - 1).toNat + 1 = k.toNat := by omega
  rw [e] at this; exact this

end Go.Proofs.YtaipifjmkbcjjaaDoor
