/-
  The plain law: what the chapter's functions compute, on lists of bytes and on words, with no program in sight.
-/
namespace Go.Proofs.Ytccojcjgknlhdaa

/-- A byte as a word. -/
def wide (b : UInt8) : BitVec 64 := b.toBitVec.setWidth 64
/-- The lowest byte of a word. -/
def low (x : BitVec 64) : UInt8 := ⟨x.setWidth 8⟩
/-- A word rotated left. -/
def rl (x : BitVec 64) (s : Nat) : BitVec 64 := x <<< s ||| x >>> (64 - s)
/-- The words after a round. -/
def rnd (p : BitVec 64 × BitVec 64) (k : BitVec 64) : BitVec 64 × BitVec 64 :=
  ((rl p.1 56 + p.2) ^^^ k, rl p.2 3 ^^^ ((rl p.1 56 + p.2) ^^^ k))
/-- The words before a round. -/
def bck (p : BitVec 64 × BitVec 64) (k : BitVec 64) : BitVec 64 × BitVec 64 :=
  (rl ((p.1 ^^^ k) - rl (p.1 ^^^ p.2) 61) 8, rl (p.1 ^^^ p.2) 61)
/-- The number in some bytes, the highest first. -/
def be (l : List UInt8) : BitVec 64 := l.foldl (fun n c => n <<< 8 ||| wide c) 0#64
/-- The words of a block. -/
def wordsOf (k : List UInt8) : BitVec 64 × BitVec 64 := (be (k.take 8), be ((k.drop 8).take 8))
/-- A byte of a word, the highest first. -/
def byteAt (x : BitVec 64) (i : Nat) : UInt8 := low (x >>> (56 - 8 * i))
def bytes8 (x : BitVec 64) : List UInt8 := (List.range 8).map (byteAt x)
/-- The block of two words. -/
def blockOf (p : BitVec 64 × BitVec 64) : List UInt8 := bytes8 p.1 ++ bytes8 p.2
/-- What makes the round keys. -/
def sched (k : List UInt8) : Nat → BitVec 64 × BitVec 64
  | 0 => wordsOf k
  | i + 1 => rnd (sched k i) (BitVec.ofNat 64 i)
def rkey (k : List UInt8) (i : Nat) : BitVec 64 := (sched k i).2
def encTo (k : List UInt8) (p : BitVec 64 × BitVec 64) : Nat → BitVec 64 × BitVec 64
  | 0 => p
  | i + 1 => rnd (encTo k p i) (rkey k i)
def enc (k b : List UInt8) : List UInt8 := blockOf (encTo k (wordsOf b) 32)
def decTo (k : List UInt8) (p : BitVec 64 × BitVec 64) : Nat → BitVec 64 × BitVec 64
  | 0 => p
  | i + 1 => bck (decTo k p i) (rkey k (31 - i))
def dec (k b : List UInt8) : List UInt8 := blockOf (decTo k (wordsOf b) 32)
/-- The block of a tag, a counter and a number. -/
def tagBlock (tag : UInt8) (c n : BitVec 64) : List UInt8 := blockOf (wide tag <<< 56 ||| c, n)
def derive (k : List UInt8) (tag : UInt8) (n : BitVec 64) : List UInt8 := enc k (tagBlock tag 0#64 n)
def numberOf (k : List UInt8) (n most : BitVec 64) : BitVec 64 := if most = 0#64 then 0#64 else (wordsOf (derive k 3 n)).1 % most
def xorl (a b : List UInt8) : List UInt8 := List.zipWith (· ^^^ ·) a b
/-- The block with which the portion of a stream is combined. -/
def maskOf (k : List UInt8) (n : BitVec 64) (i : Nat) : List UInt8 := enc k (tagBlock 1 (BitVec.ofNat 64 i) n)
def streamAt (k : List UInt8) (n : BitVec 64) (b : List UInt8) (i : Nat) : UInt8 := b.getD i 0 ^^^ (maskOf k n (i / 16)).getD (i % 16) 0
def stream (k : List UInt8) (n : BitVec 64) (b : List UInt8) : List UInt8 := (List.range b.length).map (streamAt k n b)
/-- A portion, filled up. -/
def portionAt (b : List UInt8) (i : Nat) : List UInt8 := (List.range 16).map fun j => b.getD (16 * i + j) 0
def foldTo (next : List UInt8 → List UInt8 → List UInt8) (s : List UInt8) (b : List UInt8) : Nat → List UInt8
  | 0 => s
  | i + 1 => next (foldTo next s b i) (portionAt b i)
def macNext (k s p : List UInt8) : List UInt8 := enc k (xorl s p)
def hashNext (s p : List UInt8) : List UInt8 := xorl (enc p s) s
def macOf (k b : List UInt8) : List UInt8 := foldTo (macNext k) (derive k 2 (BitVec.ofNat 64 b.length)) b ((b.length + 15) / 16)
def start : List UInt8 := List.replicate 16 0x5a
/-- What is digested. -/
def padded (b : List UInt8) : List UInt8 := b ++ 128 :: List.replicate ((16 - (b.length + 9) % 16) % 16) 0 ++ bytes8 (BitVec.ofNat 64 b.length)
def hashOf (b : List UInt8) : List UInt8 := foldTo hashNext start (padded b) ((padded b).length / 16)
def digits : List UInt8 := [48, 49, 50, 51, 52, 53, 54, 55, 56, 57, 97, 98, 99, 100, 101, 102]
def dig (n : Nat) : UInt8 := digits.getD n 0
def textOf (k : List UInt8) : List UInt8 := k.flatMap fun c => [dig (c.toNat / 16), dig (c.toNat % 16)]
/-- The value of a digit, 16 if it is none. -/
def val (c : UInt8) : Nat := digits.idxOf c
/-- Is a string the text of a key? -/
def isText (s : List UInt8) : Bool := s.length == 32 && s.all fun c => val c < 16
def parseAt (s : List UInt8) (i : Nat) : UInt8 := UInt8.ofNat (16 * val (s.getD (2 * i) 0) + val (s.getD (2 * i + 1) 0))
def parseOf (s : List UInt8) : List UInt8 := (List.range 16).map (parseAt s)
def zeros : List UInt8 := List.replicate 16 0

@[simp] theorem bytes8_length (x : BitVec 64) : (bytes8 x).length = 8 := by simp [bytes8]
@[simp] theorem blockOf_length (p : BitVec 64 × BitVec 64) : (blockOf p).length = 16 := by simp [blockOf]
@[simp] theorem enc_length (k b : List UInt8) : (enc k b).length = 16 := blockOf_length _
@[simp] theorem dec_length (k b : List UInt8) : (dec k b).length = 16 := blockOf_length _
@[simp] theorem tagBlock_length (t : UInt8) (c n : BitVec 64) : (tagBlock t c n).length = 16 := blockOf_length _
@[simp] theorem derive_length (k : List UInt8) (t : UInt8) (n : BitVec 64) : (derive k t n).length = 16 := enc_length _ _
@[simp] theorem maskOf_length (k : List UInt8) (n : BitVec 64) (i : Nat) : (maskOf k n i).length = 16 := enc_length _ _
theorem xorl_length {a b : List UInt8} (ha : a.length = 16) (hb : b.length = 16) : (xorl a b).length = 16 := by simp [xorl, ha, hb]
@[simp] theorem stream_length (k : List UInt8) (n : BitVec 64) (b : List UInt8) : (stream k n b).length = b.length := by simp [stream]
@[simp] theorem portionAt_length (b : List UInt8) (i : Nat) : (portionAt b i).length = 16 := by simp [portionAt]
@[simp] theorem parseOf_length (s : List UInt8) : (parseOf s).length = 16 := by simp [parseOf]
@[simp] theorem zeros_length : zeros.length = 16 := rfl
@[simp] theorem start_length : start.length = 16 := rfl

end Go.Proofs.Ytccojcjgknlhdaa
