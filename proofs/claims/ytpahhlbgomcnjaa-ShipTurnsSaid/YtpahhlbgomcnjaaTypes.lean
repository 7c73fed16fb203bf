/- What the program's plain data are, as cells: digests, pieces, records, files, parts. -/
import Derived.Test.YtpahhlbgomcnjaaOwn
namespace Go.Sal

/-- A digest: 32 bytes. -/
structure Dig where
  (b0 b1 b2 b3 b4 b5 b6 b7 b8 b9 b10 b11 b12 b13 b14 b15 b16 b17 b18 b19 b20 b21 b22 b23 b24 b25 b26 b27 b28 b29 b30 b31 : UInt8)
  deriving DecidableEq

def Dig.list (d : Dig) : List UInt8 := [d.b0, d.b1, d.b2, d.b3, d.b4, d.b5, d.b6, d.b7, d.b8, d.b9, d.b10, d.b11, d.b12, d.b13, d.b14, d.b15, d.b16, d.b17, d.b18, d.b19, d.b20, d.b21, d.b22, d.b23, d.b24, d.b25, d.b26, d.b27, d.b28, d.b29, d.b30, d.b31]

def u8 (b : UInt8) : Value := .int .u8 (b.toNat : Int)

def encDig (d : Dig) : List Value := [.int .u8 (d.b0.toNat : Int), .int .u8 (d.b1.toNat : Int), .int .u8 (d.b2.toNat : Int), .int .u8 (d.b3.toNat : Int), .int .u8 (d.b4.toNat : Int), .int .u8 (d.b5.toNat : Int), .int .u8 (d.b6.toNat : Int), .int .u8 (d.b7.toNat : Int), .int .u8 (d.b8.toNat : Int), .int .u8 (d.b9.toNat : Int), .int .u8 (d.b10.toNat : Int), .int .u8 (d.b11.toNat : Int), .int .u8 (d.b12.toNat : Int), .int .u8 (d.b13.toNat : Int), .int .u8 (d.b14.toNat : Int), .int .u8 (d.b15.toNat : Int), .int .u8 (d.b16.toNat : Int), .int .u8 (d.b17.toNat : Int), .int .u8 (d.b18.toNat : Int), .int .u8 (d.b19.toNat : Int), .int .u8 (d.b20.toNat : Int), .int .u8 (d.b21.toNat : Int), .int .u8 (d.b22.toNat : Int), .int .u8 (d.b23.toNat : Int), .int .u8 (d.b24.toNat : Int), .int .u8 (d.b25.toNat : Int), .int .u8 (d.b26.toNat : Int), .int .u8 (d.b27.toNat : Int), .int .u8 (d.b28.toNat : Int), .int .u8 (d.b29.toNat : Int), .int .u8 (d.b30.toNat : Int), .int .u8 (d.b31.toNat : Int)]

theorem encDig_list (d : Dig) : encDig d = d.list.map u8 := rfl
theorem encDig_length (d : Dig) : (encDig d).length = 32 := rfl
theorem Dig.list_length (d : Dig) : d.list.length = 32 := rfl

theorem Dig.list_inj {a b : Dig} (h : a.list = b.list) : a = b := by
  cases a; cases b
  simpa [Dig.list] using h

def Dig.zero : Dig := ⟨0, 0, 0, 0, 0, 0, 0, 0, 0, 0, 0, 0, 0, 0, 0, 0, 0, 0, 0, 0, 0, 0, 0, 0, 0, 0, 0, 0, 0, 0, 0, 0⟩

structure Piece where
  d : Dig
  n : Int
  deriving DecidableEq
def encPiece (p : Piece) : List Value := [.int .u8 (p.d.b0.toNat : Int), .int .u8 (p.d.b1.toNat : Int), .int .u8 (p.d.b2.toNat : Int), .int .u8 (p.d.b3.toNat : Int), .int .u8 (p.d.b4.toNat : Int), .int .u8 (p.d.b5.toNat : Int), .int .u8 (p.d.b6.toNat : Int), .int .u8 (p.d.b7.toNat : Int), .int .u8 (p.d.b8.toNat : Int), .int .u8 (p.d.b9.toNat : Int), .int .u8 (p.d.b10.toNat : Int), .int .u8 (p.d.b11.toNat : Int), .int .u8 (p.d.b12.toNat : Int), .int .u8 (p.d.b13.toNat : Int), .int .u8 (p.d.b14.toNat : Int), .int .u8 (p.d.b15.toNat : Int), .int .u8 (p.d.b16.toNat : Int), .int .u8 (p.d.b17.toNat : Int), .int .u8 (p.d.b18.toNat : Int), .int .u8 (p.d.b19.toNat : Int), .int .u8 (p.d.b20.toNat : Int), .int .u8 (p.d.b21.toNat : Int), .int .u8 (p.d.b22.toNat : Int), .int .u8 (p.d.b23.toNat : Int), .int .u8 (p.d.b24.toNat : Int), .int .u8 (p.d.b25.toNat : Int), .int .u8 (p.d.b26.toNat : Int), .int .u8 (p.d.b27.toNat : Int), .int .u8 (p.d.b28.toNat : Int), .int .u8 (p.d.b29.toNat : Int), .int .u8 (p.d.b30.toNat : Int), .int .u8 (p.d.b31.toNat : Int), .int .i64 p.n]

/-- A record as it lies in memory: its pieces are a slice (pa, pn, pc). -/
structure Rec where
  seq : Int
  epoch : Int
  prev : Dig
  kind : Int
  site : Int
  path : ByteArray
  pa : Option Addr
  pn : Nat
  pc : Nat
def encRec (r : Rec) : List Value := [.int .i64 r.seq, .int .i64 r.epoch, .int .u8 (r.prev.b0.toNat : Int), .int .u8 (r.prev.b1.toNat : Int), .int .u8 (r.prev.b2.toNat : Int), .int .u8 (r.prev.b3.toNat : Int), .int .u8 (r.prev.b4.toNat : Int), .int .u8 (r.prev.b5.toNat : Int), .int .u8 (r.prev.b6.toNat : Int), .int .u8 (r.prev.b7.toNat : Int), .int .u8 (r.prev.b8.toNat : Int), .int .u8 (r.prev.b9.toNat : Int), .int .u8 (r.prev.b10.toNat : Int), .int .u8 (r.prev.b11.toNat : Int), .int .u8 (r.prev.b12.toNat : Int), .int .u8 (r.prev.b13.toNat : Int), .int .u8 (r.prev.b14.toNat : Int), .int .u8 (r.prev.b15.toNat : Int), .int .u8 (r.prev.b16.toNat : Int), .int .u8 (r.prev.b17.toNat : Int), .int .u8 (r.prev.b18.toNat : Int), .int .u8 (r.prev.b19.toNat : Int), .int .u8 (r.prev.b20.toNat : Int), .int .u8 (r.prev.b21.toNat : Int), .int .u8 (r.prev.b22.toNat : Int), .int .u8 (r.prev.b23.toNat : Int), .int .u8 (r.prev.b24.toNat : Int), .int .u8 (r.prev.b25.toNat : Int), .int .u8 (r.prev.b26.toNat : Int), .int .u8 (r.prev.b27.toNat : Int), .int .u8 (r.prev.b28.toNat : Int), .int .u8 (r.prev.b29.toNat : Int), .int .u8 (r.prev.b30.toNat : Int), .int .u8 (r.prev.b31.toNat : Int), .int .i64 r.kind, .int .i64 r.site, .string r.path, .slice r.pa r.pn r.pc]

structure File where
  path : ByteArray
  size : Int
  seq : Int
  pa : Option Addr
  pn : Nat
  pc : Nat
def encFile (f : File) : List Value := [.string f.path, .int .i64 f.size, .int .i64 f.seq, .slice f.pa f.pn f.pc]

structure Part where
  d : Dig
  n : Int
  from_ : Int
  to : Int
  deriving DecidableEq
def encPart (p : Part) : List Value := [.int .u8 (p.d.b0.toNat : Int), .int .u8 (p.d.b1.toNat : Int), .int .u8 (p.d.b2.toNat : Int), .int .u8 (p.d.b3.toNat : Int), .int .u8 (p.d.b4.toNat : Int), .int .u8 (p.d.b5.toNat : Int), .int .u8 (p.d.b6.toNat : Int), .int .u8 (p.d.b7.toNat : Int), .int .u8 (p.d.b8.toNat : Int), .int .u8 (p.d.b9.toNat : Int), .int .u8 (p.d.b10.toNat : Int), .int .u8 (p.d.b11.toNat : Int), .int .u8 (p.d.b12.toNat : Int), .int .u8 (p.d.b13.toNat : Int), .int .u8 (p.d.b14.toNat : Int), .int .u8 (p.d.b15.toNat : Int), .int .u8 (p.d.b16.toNat : Int), .int .u8 (p.d.b17.toNat : Int), .int .u8 (p.d.b18.toNat : Int), .int .u8 (p.d.b19.toNat : Int), .int .u8 (p.d.b20.toNat : Int), .int .u8 (p.d.b21.toNat : Int), .int .u8 (p.d.b22.toNat : Int), .int .u8 (p.d.b23.toNat : Int), .int .u8 (p.d.b24.toNat : Int), .int .u8 (p.d.b25.toNat : Int), .int .u8 (p.d.b26.toNat : Int), .int .u8 (p.d.b27.toNat : Int), .int .u8 (p.d.b28.toNat : Int), .int .u8 (p.d.b29.toNat : Int), .int .u8 (p.d.b30.toNat : Int), .int .u8 (p.d.b31.toNat : Int), .int .i64 p.n, .int .i64 p.from_, .int .i64 p.to]

def Piece.zero : Piece := ⟨Dig.zero, 0⟩
def Rec.zero : Rec := ⟨0, 0, Dig.zero, 0, 0, ⟨#[]⟩, none, 0, 0⟩
def File.zero : File := ⟨⟨#[]⟩, 0, 0, none, 0, 0⟩
def Part.zero : Part := ⟨Dig.zero, 0, 0, 0⟩

theorem encPiece_length (p : Piece) : (encPiece p).length = 33 := rfl
theorem encRec_length (r : Rec) : (encRec r).length = 38 := rfl
theorem encFile_length (f : File) : (encFile f).length = 4 := rfl
theorem encPart_length (p : Part) : (encPart p).length = 35 := rfl

end Go.Sal
