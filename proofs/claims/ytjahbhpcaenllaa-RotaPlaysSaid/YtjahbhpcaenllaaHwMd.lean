/- Data of the program: structures, and how they lie in cells. -/
import Derived.Test.YtjahbhpcaenllaaHwKey
namespace Md
open Go Go.Hw
structure Span where
  From : Int
  To : Int
def Span.E (x : Span) : List Value := [.int .i64 x.From, .int .i64 x.To]
instance : Inhabited Span := ⟨(Span.mk 0 0)⟩
theorem Span.ok : Enc Span.E 1 := ⟨fun _ => rfl, fun _ => rfl⟩
def Span.V (x : Span) : Value := .agg (Span.E x).toArray
theorem Span.eq_ (a b : Span) : a = b ↔ a.From = b.From ∧ a.To = b.To := ⟨fun e => by subst e; simp, fun h => by cases a; cases b; simp_all⟩
instance : DecidableEq Span := fun a b => if h : a.From = b.From ∧ a.To = b.To then isTrue ((Span.eq_ a b).2 h) else isFalse fun e => h ((Span.eq_ a b).1 e)
structure Waiter where
  Id : Int
  From : Int
  To : Int
  Car : Int
def Waiter.E (x : Waiter) : List Value := [.int .i64 x.Id, .int .i64 x.From, .int .i64 x.To, .int .i64 x.Car]
instance : Inhabited Waiter := ⟨(Waiter.mk 0 0 0 0)⟩
theorem Waiter.ok : Enc Waiter.E 3 := ⟨fun _ => rfl, fun _ => rfl⟩
def Waiter.V (x : Waiter) : Value := .agg (Waiter.E x).toArray
theorem Waiter.eq_ (a b : Waiter) : a = b ↔ a.Id = b.Id ∧ a.From = b.From ∧ a.To = b.To ∧ a.Car = b.Car := ⟨fun e => by subst e; simp, fun h => by cases a; cases b; simp_all⟩
instance : DecidableEq Waiter := fun a b => if h : a.Id = b.Id ∧ a.From = b.From ∧ a.To = b.To ∧ a.Car = b.Car then isTrue ((Waiter.eq_ a b).2 h) else isFalse fun e => h ((Waiter.eq_ a b).1 e)
structure Queue_Key where
  Floor : Int
  Dir : Int
  Car : Int
def Queue_Key.E (x : Queue_Key) : List Value := [.int .i64 x.Floor, .int .i64 x.Dir, .int .i64 x.Car]
instance : Inhabited Queue_Key := ⟨(Queue_Key.mk 0 0 0)⟩
theorem Queue_Key.ok : Enc Queue_Key.E 2 := ⟨fun _ => rfl, fun _ => rfl⟩
def Queue_Key.V (x : Queue_Key) : Value := .agg (Queue_Key.E x).toArray
theorem Queue_Key.eq_ (a b : Queue_Key) : a = b ↔ a.Floor = b.Floor ∧ a.Dir = b.Dir ∧ a.Car = b.Car := ⟨fun e => by subst e; simp, fun h => by cases a; cases b; simp_all⟩
instance : DecidableEq Queue_Key := fun a b => if h : a.Floor = b.Floor ∧ a.Dir = b.Dir ∧ a.Car = b.Car then isTrue ((Queue_Key.eq_ a b).2 h) else isFalse fun e => h ((Queue_Key.eq_ a b).1 e)
structure Cell where
  From : Int
  To : Int
def Cell.E (x : Cell) : List Value := [.int .i64 x.From, .int .i64 x.To]
instance : Inhabited Cell := ⟨(Cell.mk 0 0)⟩
theorem Cell.ok : Enc Cell.E 1 := ⟨fun _ => rfl, fun _ => rfl⟩
def Cell.V (x : Cell) : Value := .agg (Cell.E x).toArray
theorem Cell.eq_ (a b : Cell) : a = b ↔ a.From = b.From ∧ a.To = b.To := ⟨fun e => by subst e; simp, fun h => by cases a; cases b; simp_all⟩
instance : DecidableEq Cell := fun a b => if h : a.From = b.From ∧ a.To = b.To then isTrue ((Cell.eq_ a b).2 h) else isFalse fun e => h ((Cell.eq_ a b).1 e)
structure Queue_call where
  n_ : Int
  car : Int
def Queue_call.E (x : Queue_call) : List Value := [.int .i64 x.n_, .int .i64 x.car]
instance : Inhabited Queue_call := ⟨(Queue_call.mk 0 0)⟩
theorem Queue_call.ok : Enc Queue_call.E 1 := ⟨fun _ => rfl, fun _ => rfl⟩
def Queue_call.V (x : Queue_call) : Value := .agg (Queue_call.E x).toArray
theorem Queue_call.eq_ (a b : Queue_call) : a = b ↔ a.n_ = b.n_ ∧ a.car = b.car := ⟨fun e => by subst e; simp, fun h => by cases a; cases b; simp_all⟩
instance : DecidableEq Queue_call := fun a b => if h : a.n_ = b.n_ ∧ a.car = b.car then isTrue ((Queue_call.eq_ a b).2 h) else isFalse fun e => h ((Queue_call.eq_ a b).1 e)
structure Rota_Rota where
  out : Mp Int (List Span)
structure Queue_Hall where
  waiting : Mp Queue_Key (List Waiter)
  calls : Mp Cell Queue_call
  n_ : Int
structure Law68_Op where
  In : Bool
  Car : Int
  S : Span
def Law68_Op.E (x : Law68_Op) : List Value := [.bool x.In, .int .i64 x.Car, .int .i64 x.S.From, .int .i64 x.S.To]
instance : Inhabited Law68_Op := ⟨(Law68_Op.mk false 0 (Span.mk 0 0))⟩
theorem Law68_Op.ok : Enc Law68_Op.E 3 := ⟨fun _ => rfl, fun _ => rfl⟩
def Law68_Op.V (x : Law68_Op) : Value := .agg (Law68_Op.E x).toArray
theorem Law68_Op.eq_ (a b : Law68_Op) : a = b ↔ a.In = b.In ∧ a.Car = b.Car ∧ a.S = b.S := ⟨fun e => by subst e; simp, fun h => by cases a; cases b; simp_all⟩
instance : DecidableEq Law68_Op := fun a b => if h : a.In = b.In ∧ a.Car = b.Car ∧ a.S = b.S then isTrue ((Law68_Op.eq_ a b).2 h) else isFalse fun e => h ((Law68_Op.eq_ a b).1 e)
structure Law68_At where
  Car : Int
  Cars : Int
  Tick : Int
  Of : Span
def Law68_At.E (x : Law68_At) : List Value := [.int .i64 x.Car, .int .i64 x.Cars, .int .i64 x.Tick, .int .i64 x.Of.From, .int .i64 x.Of.To]
instance : Inhabited Law68_At := ⟨(Law68_At.mk 0 0 0 (Span.mk 0 0))⟩
theorem Law68_At.ok : Enc Law68_At.E 4 := ⟨fun _ => rfl, fun _ => rfl⟩
def Law68_At.V (x : Law68_At) : Value := .agg (Law68_At.E x).toArray
theorem Law68_At.eq_ (a b : Law68_At) : a = b ↔ a.Car = b.Car ∧ a.Cars = b.Cars ∧ a.Tick = b.Tick ∧ a.Of = b.Of := ⟨fun e => by subst e; simp, fun h => by cases a; cases b; simp_all⟩
instance : DecidableEq Law68_At := fun a b => if h : a.Car = b.Car ∧ a.Cars = b.Cars ∧ a.Tick = b.Tick ∧ a.Of = b.Of then isTrue ((Law68_At.eq_ a b).2 h) else isFalse fun e => h ((Law68_At.eq_ a b).1 e)
structure Law29_Op where
  Kind : Int
  W : Waiter
  Free : Bool
def Law29_Op.E (x : Law29_Op) : List Value := [.int .i64 x.Kind, .int .i64 x.W.Id, .int .i64 x.W.From, .int .i64 x.W.To, .int .i64 x.W.Car, .bool x.Free]
instance : Inhabited Law29_Op := ⟨(Law29_Op.mk 0 (Waiter.mk 0 0 0 0) false)⟩
theorem Law29_Op.ok : Enc Law29_Op.E 5 := ⟨fun _ => rfl, fun _ => rfl⟩
def Law29_Op.V (x : Law29_Op) : Value := .agg (Law29_Op.E x).toArray
theorem Law29_Op.eq_ (a b : Law29_Op) : a = b ↔ a.Kind = b.Kind ∧ a.W = b.W ∧ a.Free = b.Free := ⟨fun e => by subst e; simp, fun h => by cases a; cases b; simp_all⟩
instance : DecidableEq Law29_Op := fun a b => if h : a.Kind = b.Kind ∧ a.W = b.W ∧ a.Free = b.Free then isTrue ((Law29_Op.eq_ a b).2 h) else isFalse fun e => h ((Law29_Op.eq_ a b).1 e)
structure Call where
  Floor : Int
  Dir : Int
  Car : Int
def Call.E (x : Call) : List Value := [.int .i64 x.Floor, .int .i64 x.Dir, .int .i64 x.Car]
instance : Inhabited Call := ⟨(Call.mk 0 0 0)⟩
theorem Call.ok : Enc Call.E 2 := ⟨fun _ => rfl, fun _ => rfl⟩
def Call.V (x : Call) : Value := .agg (Call.E x).toArray
theorem Call.eq_ (a b : Call) : a = b ↔ a.Floor = b.Floor ∧ a.Dir = b.Dir ∧ a.Car = b.Car := ⟨fun e => by subst e; simp, fun h => by cases a; cases b; simp_all⟩
instance : DecidableEq Call := fun a b => if h : a.Floor = b.Floor ∧ a.Dir = b.Dir ∧ a.Car = b.Car then isTrue ((Call.eq_ a b).2 h) else isFalse fun e => h ((Call.eq_ a b).1 e)
end Md
