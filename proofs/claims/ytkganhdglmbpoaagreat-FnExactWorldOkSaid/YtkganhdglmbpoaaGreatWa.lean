/- What the program's values stand for, in plain Lean; the plain laws' functions. -/
import Derived.Test.YtkganhdglmbpoaaGreatPw24
set_option linter.unusedVariables false
namespace Go.Wl
open Go Go.RowKit Go.Pw

structure Item where
  route : ByteArray
  topic : Int
  due : Int
  bytes : List UInt8
structure Post where
  queue : List Item
  time : Int
  book : List UInt8
  sure : Int
structure Reader where
  seed : List UInt8
  epoch : Int
  seen : List (List UInt8)
  got : List (List UInt8)
structure Wire where
  toPost : Bool
  item : Item
  bytes : List UInt8
structure Sent where
  route : ByteArray
  epoch : Int
  note : List UInt8
  bytes : List UInt8
structure Earth where
  seed : List UInt8
  count : Int
  known : Int
  post : Post
  reader : Reader
  net : List Wire
  sent : List Sent
structure Line where
  kind : Int
  route : ByteArray
  topic : Int
  due : Int
  bytes : List UInt8
abbrev eI (n : Int) : PV := .lit (.int .i64 n)
abbrev eS (s : ByteArray) : PV := .lit (.string s)
abbrev eT (b : Bool) : PV := .lit (.bool b)
def eItem (x : Item) : List PV := [eS x.route, eI x.topic, eI x.due, eBs x.bytes]
def eItems (q : List Item) : PV := .sl 4 (q.map eItem) none
def ePost (p : Post) : List PV := [eItems p.queue, eI p.time, eBs p.book, eI p.sure]
def eBss1 (b : List UInt8) : List PV := [eBs b]
def eBss (l : List (List UInt8)) : PV := .sl 1 (l.map eBss1) none
def eReader (r : Reader) : List PV := [eBs r.seed, eI r.epoch, eBss r.seen, eBss r.got]
def eWire (w : Wire) : List PV := [eT w.toPost, eS w.item.route, eI w.item.topic, eI w.item.due, eBs w.item.bytes, eBs w.bytes]
def eWires (l : List Wire) : PV := .sl 6 (l.map eWire) none
def eSent (s : Sent) : List PV := [eS s.route, eI s.epoch, eBs s.note, eBs s.bytes]
def eSents (l : List Sent) : PV := .sl 4 (l.map eSent) none
def eEarth (w : Earth) : List PV := [eBs w.seed, eI w.count, eI w.known, eItems w.post.queue, eI w.post.time, eBs w.post.book, eI w.post.sure, eBs w.reader.seed, eI w.reader.epoch, eBss w.reader.seen, eBss w.reader.got, eWires w.net, eSents w.sent]
def eLine (l : Line) : List PV := [eI l.kind, eS l.route, eI l.topic, eI l.due, eBs l.bytes]

/-! The plain functions. -/
def inB (n lo hi : Int) : Bool := decide (lo ≤ n) && decide (n ≤ hi)
def sign (b : Int) : Int := if 48 ≤ b ∧ b ≤ 57 then b - 48 else if 97 ≤ b ∧ b ≤ 102 then b - 87 else -1
def bit (b : Bool) : Int := if b then 1 else 0
def unhexL : List UInt8 → Option (List UInt8)
  | [] => some []
  | [_] => none
  | x :: y :: r => if sign x.toNat < 0 ∨ sign y.toNat < 0 then none else match unhexL r with
    | some l => some (UInt8.ofNat (16 * sign x.toNat + sign y.toNat).toNat :: l)
    | none => none
def unhex (s : ByteArray) : Option (List UInt8) := unhexL s.data.toList
def isRoute (s : ByteArray) : Bool := match unhex s with
  | some l => decide (l.length = 8)
  | none => false
def itemOk (x : Item) : Bool := isRoute x.route && (inB x.topic 0 9 && (inB x.due 0 100000 && decide (x.bytes.length ≤ 1560)))
def ofN (q : List Item) (r : ByteArray) : Nat := (q.filter fun x => decide (x.route = r)).length
end Go.Wl
