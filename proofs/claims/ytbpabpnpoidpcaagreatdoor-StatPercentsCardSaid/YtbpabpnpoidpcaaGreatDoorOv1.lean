/- What is answered in place of functions' bodies: the contracts' answers. No conditions. -/
import Derived.Test.YtbpabpnpoidpcaaGreatDoorFst
import Derived.Test.YtbpabpnpoidpcaaGreatDoorEv5
set_option maxRecDepth 100000
set_option linter.unusedVariables false
set_option linter.unusedSimpArgs false
namespace Go.Proofs.YtbpabpnpoidpcaaGreatDoor
namespace Am
open Go Go.RowKit

/-- The bytes that a slice reads as. -/
def numsB : List Value → Option (List Nat)
  | [] => some []
  | .int .u8 (.ofNat n) :: l => if Nat.ble n 255 = true then (match numsB l with | some q => some (n :: q) | none => none) else none
  | _ => none
def rdB (H : Hp) : Value → Option (List Nat)
  | .slice none 0 _ => some []
  | .slice (some ⟨b, o, none⟩) n _ => if (Nat.ble (b + 1) H.n && Nat.ble n 4611686018427387903) = true then (match H.f b with
      | .cells _ _ cs => if Nat.ble (o + n) cs.length = true then numsB ((cs.drop o).take n) else none
      | _ => none) else none
  | _ => none

noncomputable def ovRun (args : List Value) (H : Hp) : Option (Value × Hp) := match args with
  | [.int .u32 (.ofNat r), s] => if Nat.ble r 4294967295 = true then (match rdB H s with
    | some l => some (.int .u32 (crcF l r), H)
    | none => none) else none
  | _ => none
def ovZero (args : List Value) (H : Hp) : Option (Value × Hp) := match args with
  | [s] => match rdB H s with
    | some l => some (.bool (l.all (· == 0)), H)
    | none => none
  | _ => none
def ovGet (args : List Value) (H : Hp) : Option (Value × Hp) := match args with
  | [.slice a n _, .int .i64 at_, .int .i64 w] => if Nat.ble n 4611686018427387903 = true then (if thereN n at_ w = 0 then (match a with
      | some ⟨b, o, none⟩ => if Nat.ble (b + 1) H.n = true then (match H.f b with
        | .cells _ _ cs => match numsB ((cs.drop (o + at_.toNat)).take w.toNat) with
          | some q => if q.length = w.toNat then some (.tuple #[.int .i64 (getQ n at_ w q).1, .int .i64 (getQ n at_ w q).2], H) else none
          | none => none
        | _ => none) else none
      | _ => none)
    else some (.tuple #[.int .i64 0, .int .i64 (thereN n at_ w)], H)) else none
  | _ => none
noncomputable def ovBits (args : List Value) (H : Hp) : Option (Value × Hp) := match args with
  | [s] => match rdB H s with
    | some l => match bitsF l with
      | none => some (.tuple #[.slice none 0 0, .int .i64 7], H)
      | some [] => some (.tuple #[.slice none 0 0, .int .i64 0], H)
      | some q => some (.tuple #[.slice (some ⟨H.n, 0, none⟩) q.length q.length, .int .i64 0], H.alloc (.cells false 1 (ints q)))
    | none => none
  | _ => none
/-- errors.Is of two numbers of one type of errors. -/
def ovIs (args : List Value) (H : Hp) : Option (Value × Hp) := match args with
  | [.iface T (.int .i64 a), .iface U (.int .i64 b)] => if T = 49 ∧ U = 49 then some (.bool (decide (a = b)), H) else none
  | _ => none
/-- auditor.ids of none. -/
def ovIds (args : List Value) (H : Hp) : Option (Value × Hp) := match args with
  | [.pointer (some ⟨b, o, none⟩)] => match H.f b with
    | .cells _ _ cs => match cs[o + 14]?, cs[o + 15]? with
      | some (.map (some m1)), some (.map (some m2)) => match H.f m1, H.f m2 with
        | .map [], .map [] => some (.slice none 0 0, H)
        | _, _ => none
      | _, _ => none
    | _ => none
  | _ => none

/-- All of them. -/
noncomputable def ov1 (f : FuncId) (args : List Value) (H : Hp) : Option (Value × Hp) :=
  if f = 291 then ovRun args H else if f = 208 then ovZero args H else if f = 117 then ovGet args H else if f = 259 then ovBits args H else
  if f = 177 then ovIs args H else if f = 298 then ovIds args H else none
noncomputable def zbase : ZCall := fun g args h => match g with
  | .func f => match ov1 f args h.hp with
    | some (v, H') => valK v fun v => h.newsK H' fun h' => some (v, h')
    | none => none
  | _ => none
noncomputable def zdcall : ZDCall := fun g args h => if g = 49 then (match args with
  | [_, _] => some h
  | _ => none) else none

end Am
end Go.Proofs.YtbpabpnpoidpcaaGreatDoor
