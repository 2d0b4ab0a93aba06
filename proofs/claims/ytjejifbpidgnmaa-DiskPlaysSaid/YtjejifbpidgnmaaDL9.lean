/-
  The law: step at whatever is done.
-/
import Derived.Test.YtjejifbpidgnmaaDL4
import Derived.Test.YtjejifbpidgnmaaDL6
import Derived.Test.YtjejifbpidgnmaaDL7
import Derived.Test.YtjejifbpidgnmaaDL8
namespace Go.Proofs.Ytjejifbpidgnmaa
open Go.RowKit Go.Maps

theorem step_any (d ms mv : Nat) (uv sv ov bv kv : Value) (room left at_ kind : Int) (down : Bool) (sure : List AFile) (way : List AOp) (K M : Nat) (name other : ByteArray) (bytes : List UInt8) (keep : List Bool) (w : World) (h : Inv w d ms mv uv sv ov room left down sure way K M)
    (hK : K ≤ 1000000) (hM : M ≤ 1000000) (hv : Sr w bv bytes.length 1 (bcells bytes)) (hvf : 0 < bytes.length → ∀ b, bv.ownBlock = some b → ¬ Foot d ms mv uv b) (hkv : KeepAt w kv keep) (hkf : 0 < keep.length → ∀ b, kv.ownBlock = some b → ¬ Foot d ms mv uv b)
    (hbl : bytes.length ≤ 200) (hnm : name.size ≤ 100) (hno : other.size ≤ 100) (hat : at_ ≤ 1099511627776) (hroom : room ≤ 9223372036854775807) :
    Calls Try.prog 7 #[.pointer (some ⟨d, 0, none⟩), .agg (rcells room sv ov left down), .agg (acells kind at_ name other bv kv)] w (StepPost d ms mv uv sv ov room K M w) := by
  by_cases k0 : bits BinOp.and IntKind.i64 kind 7 = 0
  · exact step_wr d ms mv uv sv ov bv kv room left at_ kind down sure way K M name other bytes w (.inl k0) h hK hM hv hvf hbl hnm hat hroom
  by_cases k1 : bits BinOp.and IntKind.i64 kind 7 = 1
  · exact step_wr d ms mv uv sv ov bv kv room left at_ kind down sure way K M name other bytes w (.inr k1) h hK hM hv hvf hbl hnm hat hroom
  by_cases k2 : bits BinOp.and IntKind.i64 kind 7 = 2
  · exact step_rn d ms mv uv sv ov bv kv room left at_ kind down sure way K M name other w k2 h hK hM hnm hno
  by_cases k3 : bits BinOp.and IntKind.i64 kind 7 = 3
  · exact step_rm d ms mv uv sv ov bv kv room left at_ kind down sure way K M name other w k3 h hK hM hnm
  by_cases k4 : bits BinOp.and IntKind.i64 kind 7 = 4
  · exact step_sy d ms mv uv sv ov bv kv room left at_ kind down sure way K M name other w k4 h hK hM
  by_cases k5 : bits BinOp.and IntKind.i64 kind 7 = 5
  · exact step_st d ms mv uv sv ov bv kv room left at_ kind down sure way K M name other w k5 h hK hat
  by_cases k6 : bits BinOp.and IntKind.i64 kind 7 = 6
  · exact step_cr d ms mv uv sv ov bv kv room left at_ kind down sure way K M name other keep w k6 h hK hkv hkf
  exact step_rd d ms mv uv sv ov bv kv room left at_ kind down sure way K M name other w k0 k1 k2 k3 k4 k5 k6 h hK hnm

end Go.Proofs.Ytjejifbpidgnmaa
