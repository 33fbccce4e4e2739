/- Short names of this session for what the texts of functions say of single operations. No statement of the seat is proved in this text. -/
import Derived.Test.YtfiakplgifimkaaDoorTsFun
namespace Go.TS
section
variable (P : Program)
def alc (e : TypeId) (w : World) (K : Value → World → Prop) : Prop := sem P (Instr.alloc e true (.tuple #[])) w K
def bx (e : TypeId) (x : Value) (w : World) (K : Value → World → Prop) : Prop := sem P (Instr.box e x) w K
def bld (t : TypeId) (parts : List (Nat × Value)) (w : World) (K : Value → World → Prop) : Prop := sem P (Instr.build t parts.toArray) w K
def bsl (t : TypeId) (n : Nat) (parts : List (Nat × Value)) (w : World) (K : Value → World → Prop) : Prop := sem P (Instr.buildSlice t n parts.toArray) w K
def ld (t : TypeId) (a : Value) (w : World) (K : Value → World → Prop) : Prop := sem P (Instr.loadAt t a) w K
def st (t : TypeId) (a x : Value) (w : World) (K : World → Prop) : Prop := semU P (Instr.storeAt t a x) w K
def bn (op : BinOp) (t : TypeId) (ox oy : Operand) (x y : Value) (w : World) (K : Value → World → Prop) : Prop := semU P (eqGuard op t ox oy x y) w fun w => sem P (binOp op t x y) w K
def un (op : UnOp) (x : Value) (w : World) (K : Value → World → Prop) : Prop := sem P (Op.unary op x) w K
def cnv (s d : TypeId) (x : Value) (w : World) (K : Value → World → Prop) : Prop := sem P (convert s d x) w K
def mkI (t : TypeId) (x : Value) (w : World) (K : Value → World → Prop) : Prop := sem P (Instr.makeInterface t x) w K
def mkF (fn : Fn) (first captured : List Value) (w : World) (K : Value → World → Prop) : Prop := sem P (Instr.makeFunc fn first.toArray captured.toArray) w K
def mkM (t : TypeId) (r : Option Value) (w : World) (K : Value → World → Prop) : Prop := sem P (Instr.makeMap t r) w K
def mkS (t : TypeId) (l c : Value) (w : World) (K : Value → World → Prop) : Prop := sem P (Instr.makeSlice t l c) w K
def slc (t : TypeId) (x : Value) (lo hi mx : Option Value) (w : World) (K : Value → World → Prop) : Prop := sem P (Instr.sliceAt t x lo hi mx) w K
def fa (s : TypeId) (x : Value) (f : Nat) (w : World) (K : Value → World → Prop) : Prop := sem P (Instr.fieldAt s x f) w K
def fld (t : TypeId) (x : Value) (f : Nat) (w : World) (K : Value → World → Prop) : Prop := sem P (Instr.field t x f) w K
def ia (t : TypeId) (x i : Value) (w : World) (K : Value → World → Prop) : Prop := sem P (Instr.indexAt t x i) w K
def ix (t : TypeId) (x i : Value) (w : World) (K : Value → World → Prop) : Prop := sem P (Instr.index t x i) w K
def lkp (t : TypeId) (x i : Value) (ok : Bool) (w : World) (K : Value → World → Prop) : Prop := sem P (Instr.lookup t x i ok) w K
def mpU (t : TypeId) (m k x : Value) (w : World) (K : World → Prop) : Prop := semU P (Instr.mapUpdate t m k x) w K
def mpE (t : TypeId) (m k : Value) (w : World) (K : Value → World → Prop) : Prop := sem P (Instr.mapEntry t m k) w K
def enS (t : TypeId) (m s x : Value) (w : World) (K : World → Prop) : Prop := semU P (Instr.entryStore t m s x) w K
def rng (t : TypeId) (x : Value) (w : World) (K : Value → World → Prop) : Prop := sem P (Instr.range t x) w K
def nxt (it : Value) (b : Bool) (ty : TypeId) (w : World) (K : Value → World → Prop) : Prop := sem P (Instr.next it b ty) w K
def ent (it : Value) (w : World) (K : Value → World → Prop) : Prop := sem P (Instr.entry it) w K
def tas (x : Value) (t u : TypeId) (ok : Bool) (w : World) (K : Value → World → Prop) : Prop := sem P (Instr.typeAssert x t u ok) w K
def ext (t : Value) (i : Nat) (w : World) (K : Value → World → Prop) : Prop := sem P (Instr.extract t i) w K
def bAppend (ts : Array TypeId) (ty : TypeId) (args : List Value) (w : World) (K : Value → World → Prop) : Prop := sem P (Builtin.append_ ts ty args.toArray) w K
def bLen (ts : Array TypeId) (ty : TypeId) (args : List Value) (w : World) (K : Value → World → Prop) : Prop := sem P (Builtin.len_ ts ty args.toArray) w K
def bCap (ts : Array TypeId) (ty : TypeId) (args : List Value) (w : World) (K : Value → World → Prop) : Prop := sem P (Builtin.cap_ ts ty args.toArray) w K
def bCopy (ts : Array TypeId) (ty : TypeId) (args : List Value) (w : World) (K : Value → World → Prop) : Prop := sem P (Builtin.copy_ ts ty args.toArray) w K
def bDelete (ts : Array TypeId) (ty : TypeId) (args : List Value) (w : World) (K : Value → World → Prop) : Prop := sem P (Builtin.delete_ ts ty args.toArray) w K
def bClear (ts : Array TypeId) (ty : TypeId) (args : List Value) (w : World) (K : Value → World → Prop) : Prop := sem P (Builtin.clear_ ts ty args.toArray) w K
def bMax (ts : Array TypeId) (ty : TypeId) (args : List Value) (w : World) (K : Value → World → Prop) : Prop := sem P (Builtin.max_ ts ty args.toArray) w K
def bMin (ts : Array TypeId) (ty : TypeId) (args : List Value) (w : World) (K : Value → World → Prop) : Prop := sem P (Builtin.min_ ts ty args.toArray) w K
end
/-- What follows a guard's two ways, told once. -/
def shr {α : Sort _} (k : α) (f : α → Prop) : Prop := f k
/-- An equation that simp doesn't take for one by unfolding: so the kernel never compares the two sides by unfolding. -/
theorem nr {α : Sort _} {a b : α} (h : a = b) : a = b := h
theorem shr_eq {α : Sort _} {k : α} {f : α → Prop} : shr k f = f k := nr rfl
/-- The world behind a drawn order. -/
def dr (w : World) : World := { w with drawn := w.drawn + 1 }
end Go.TS
