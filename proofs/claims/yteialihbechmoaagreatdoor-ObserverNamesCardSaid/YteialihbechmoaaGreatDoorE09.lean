/- The tables of answers, the datum of the example, and the evaluators over them. -/
import Derived.Test.YteialihbechmoaaGreatDoorE01
import Derived.Test.YteialihbechmoaaGreatDoorE08
import Derived.Test.YteialihbechmoaaGreatDoorE06
import Derived.Test.YteialihbechmoaaGreatDoorE07

/- What the example comes to. -/
namespace Go.Sv
def exR : List Value := [.agg #[.string (ByteArray.mk #[109, 97, 121, 111, 114]), .slice (some ⟨2962, 0, none⟩) 2 36893488147419103234, .int .i64 1, .int .u8 1, .int .u8 20, .int .u8 60, .int .i64 0, .bool false, .slice (some ⟨2965, 0, none⟩) 0 0, .slice (some ⟨2967, 0, none⟩) 1 36893488147419103233, .bool false, .slice (some ⟨2971, 0, none⟩) 1 36893488147419103233, .slice (some ⟨2973, 0, none⟩) 1 36893488147419103233, .slice (some ⟨2975, 0, none⟩) 1 36893488147419103233, .int .u8 8, .slice (some ⟨2977, 0, none⟩) 1 73786976294838206465, .slice (some ⟨2979, 0, none⟩) 1 55340232221128654849, .int .u8 227, .int .u8 176, .int .u8 196, .int .u8 66, .int .u8 152, .int .u8 252, .int .u8 28, .int .u8 20, .int .u8 154, .int .u8 251, .int .u8 244, .int .u8 200, .int .u8 153, .int .u8 111, .int .u8 185, .int .u8 36, .int .u8 39, .int .u8 174, .int .u8 65, .int .u8 228, .int .u8 100, .int .u8 155, .int .u8 147, .int .u8 76, .int .u8 164, .int .u8 149, .int .u8 153, .int .u8 27, .int .u8 120, .int .u8 82, .int .u8 184, .int .u8 85, .slice (some ⟨2987, 0, none⟩) 2 36893488147419103234, .slice (some ⟨2991, 0, none⟩) 1 36893488147419103233, .slice (some ⟨2993, 0, none⟩) 1 129127208515966861313, .slice none 0 0, .slice (some ⟨3296, 0, none⟩) 11 55340232221128654859], .bool true]
def exN : Nat := 3302
def exB : List (Nat × List Value) := [
  (2962, [.string (ByteArray.mk #[97]), .string (ByteArray.mk #[98])]),
  (2965, []),
  (2967, [.int .u32 1]),
  (2971, [.int .u32 1]),
  (2973, [.int .u32 10]),
  (2975, [.int .i64 2]),
  (2977, [.string (ByteArray.mk #[97, 110, 110]), .int .i64 0, .int .u8 3]),
  (2979, [.string (ByteArray.mk #[120]), .slice (some ⟨2981, 0, none⟩) 1 55340232221128654849]),
  (2981, [.int .u8 2, .slice (some ⟨2985, 0, none⟩) 1 36893488147419103233]),
  (2985, [.int .i64 1]),
  (2987, [.int .i64 0, .int .i64 1]),
  (2991, [.int .i64 1]),
  (2993, [.slice (some ⟨2996, 0, none⟩) 2 73786976294838206466, .bool false, .slice (some ⟨3010, 0, none⟩) 0 0, .slice (some ⟨3012, 0, none⟩) 1 36893488147419103233, .slice (some ⟨3014, 0, none⟩) 1 36893488147419103233, .slice none 0 0]),
  (2996, [.bool false, .slice (some ⟨2999, 0, none⟩) 0 0, .slice (some ⟨3001, 0, none⟩) 1 36893488147419103233, .bool false, .slice (some ⟨3005, 0, none⟩) 1 36893488147419103233, .slice (some ⟨3007, 0, none⟩) 1 36893488147419103233]),
  (2999, []),
  (3001, [.int .u32 1]),
  (3005, [.int .u32 1]),
  (3007, [.int .u32 1]),
  (3010, []),
  (3012, [.int .u32 1]),
  (3014, [.int .i64 1]),
  (3296, [.int .u8 1, .slice (some ⟨3226, 0, none⟩) 17 36893488147419103249, .int .u8 2, .slice (some ⟨3233, 0, none⟩) 32 36893488147419103264, .int .u8 4, .slice (some ⟨3240, 0, none⟩) 7 36893488147419103239, .int .u8 8, .slice (some ⟨3247, 0, none⟩) 32 36893488147419103264, .int .u8 7, .slice (some ⟨3254, 0, none⟩) 32 36893488147419103264, .int .u8 9, .slice (some ⟨3261, 0, none⟩) 3 36893488147419103235, .int .u8 10, .slice (some ⟨3268, 0, none⟩) 3 36893488147419103235, .int .u8 7, .slice (some ⟨3275, 0, none⟩) 32 36893488147419103264, .int .u8 9, .slice (some ⟨3282, 0, none⟩) 3 36893488147419103235, .int .u8 12, .slice (some ⟨3289, 0, none⟩) 32 36893488147419103264, .int .u8 13, .slice none 0 0]),
  (3226, [.int .u8 0, .int .u8 5, .int .u8 109, .int .u8 97, .int .u8 121, .int .u8 111, .int .u8 114, .int .u8 0, .int .u8 2, .int .u8 1, .int .u8 1, .int .u8 0, .int .u8 1, .int .u8 97, .int .u8 0, .int .u8 1, .int .u8 98]),
  (3233, [.int .u8 86, .int .u8 225, .int .u8 13, .int .u8 41, .int .u8 79, .int .u8 75, .int .u8 185, .int .u8 2, .int .u8 255, .int .u8 106, .int .u8 77, .int .u8 15, .int .u8 225, .int .u8 153, .int .u8 203, .int .u8 235, .int .u8 13, .int .u8 164, .int .u8 164, .int .u8 95, .int .u8 239, .int .u8 82, .int .u8 35, .int .u8 115, .int .u8 29, .int .u8 177, .int .u8 129, .int .u8 75, .int .u8 177, .int .u8 145, .int .u8 92, .int .u8 60]),
  (3240, [.int .u8 0, .int .u8 1, .int .u8 120, .int .u8 0, .int .u8 2, .int .u8 0, .int .u8 1]),
  (3247, [.int .u8 227, .int .u8 176, .int .u8 196, .int .u8 66, .int .u8 152, .int .u8 252, .int .u8 28, .int .u8 20, .int .u8 154, .int .u8 251, .int .u8 244, .int .u8 200, .int .u8 153, .int .u8 111, .int .u8 185, .int .u8 36, .int .u8 39, .int .u8 174, .int .u8 65, .int .u8 228, .int .u8 100, .int .u8 155, .int .u8 147, .int .u8 76, .int .u8 164, .int .u8 149, .int .u8 153, .int .u8 27, .int .u8 120, .int .u8 82, .int .u8 184, .int .u8 85]),
  (3254, [.int .u8 150, .int .u8 49, .int .u8 181, .int .u8 224, .int .u8 119, .int .u8 193, .int .u8 122, .int .u8 58, .int .u8 49, .int .u8 104, .int .u8 58, .int .u8 177, .int .u8 104, .int .u8 170, .int .u8 226, .int .u8 27, .int .u8 240, .int .u8 125, .int .u8 242, .int .u8 171, .int .u8 102, .int .u8 110, .int .u8 222, .int .u8 135, .int .u8 84, .int .u8 238, .int .u8 59, .int .u8 201, .int .u8 130, .int .u8 88, .int .u8 254, .int .u8 115]),
  (3261, [.int .u8 0, .int .u8 1, .int .u8 1]),
  (3268, [.int .u8 1, .int .u8 0, .int .u8 1]),
  (3275, [.int .u8 150, .int .u8 49, .int .u8 181, .int .u8 224, .int .u8 119, .int .u8 193, .int .u8 122, .int .u8 58, .int .u8 49, .int .u8 104, .int .u8 58, .int .u8 177, .int .u8 104, .int .u8 170, .int .u8 226, .int .u8 27, .int .u8 240, .int .u8 125, .int .u8 242, .int .u8 171, .int .u8 102, .int .u8 110, .int .u8 222, .int .u8 135, .int .u8 84, .int .u8 238, .int .u8 59, .int .u8 201, .int .u8 130, .int .u8 88, .int .u8 254, .int .u8 115]),
  (3282, [.int .u8 0, .int .u8 1, .int .u8 1]),
  (3289, [.int .u8 251, .int .u8 181, .int .u8 158, .int .u8 209, .int .u8 14, .int .u8 156, .int .u8 212, .int .u8 255, .int .u8 69, .int .u8 161, .int .u8 44, .int .u8 91, .int .u8 185, .int .u8 44, .int .u8 189, .int .u8 128, .int .u8 223, .int .u8 152, .int .u8 75, .int .u8 161, .int .u8 254, .int .u8 96, .int .u8 242, .int .u8 106, .int .u8 48, .int .u8 254, .int .u8 191, .int .u8 33, .int .u8 142, .int .u8 47, .int .u8 15, .int .u8 94])]
end Go.Sv

/- The hooks of the seat. -/
namespace Go.Sv
open Go.Proofs
def table : List (List Value × Nat × Value) := [(u8s [0, 1, 1], 36893488147419103235, .agg (u8s [251, 181, 158, 209, 14, 156, 212, 255, 69, 161, 44, 91, 185, 44, 189, 128, 223, 152, 75, 161, 254, 96, 242, 106, 48, 254, 191, 33, 142, 47, 15, 94]).toArray),
  (u8s [0, 5, 0, 3, 97, 110, 110], 36893488147419103239, .agg (u8s [86, 225, 13, 41, 79, 75, 185, 2, 255, 106, 77, 15, 225, 153, 203, 235, 13, 164, 164, 95, 239, 82, 35, 115, 29, 177, 129, 75, 177, 145, 92, 60]).toArray),
  (u8s [0, 1, 120, 0, 2, 2, 2, 0, 1, 0], 36893488147419103242, .agg (u8s [205, 37, 142, 19, 184, 196, 164, 79, 203, 109, 169, 246, 104, 20, 93, 52, 148, 104, 128, 78, 89, 159, 56, 145, 144, 193, 148, 161, 204, 234, 189, 216]).toArray),
  (u8s [0, 1, 120, 0, 2, 2, 2, 0, 1, 1], 36893488147419103242, .agg (u8s [150, 49, 181, 224, 119, 193, 122, 58, 49, 104, 58, 177, 104, 170, 226, 27, 240, 125, 242, 171, 102, 110, 222, 135, 84, 238, 59, 201, 130, 88, 254, 115]).toArray),
  (u8s [227, 176, 196, 66, 152, 252, 28, 20, 154, 251, 244, 200, 153, 111, 185, 36, 39, 174, 65, 228, 100, 155, 147, 76, 164, 149, 153, 27, 120, 82, 184, 85, 0, 0, 0, 0, 0, 0, 0, 0], 36893488147419103272, .agg (u8s [92, 93, 66, 220, 243, 159, 113, 192, 34, 108, 167, 32, 216, 213, 24, 219, 97, 91, 87, 115, 240, 56, 229, 228, 145, 150, 63, 111, 71, 98, 27, 189]).toArray),
  (u8s [227, 176, 196, 66, 152, 252, 28, 20, 154, 251, 244, 200, 153, 111, 185, 36, 39, 174, 65, 228, 100, 155, 147, 76, 164, 149, 153, 27, 120, 82, 184, 85, 0, 0, 0, 1, 0, 0, 0, 0], 36893488147419103272, .agg (u8s [98, 89, 32, 80, 58, 13, 7, 75, 233, 32, 228, 69, 120, 244, 113, 114, 47, 88, 50, 229, 182, 247, 143, 128, 23, 58, 41, 56, 209, 39, 57, 24]).toArray)]
def emptySum : Value := .agg (u8s [227, 176, 196, 66, 152, 252, 28, 20, 154, 251, 244, 200, 153, 111, 185, 36, 39, 174, 65, 228, 100, 155, 147, 76, 164, 149, 153, 27, 120, 82, 184, 85]).toArray
def r23_0 : List Value × List (List Value) × Value := ([.string (ByteArray.mk #[109, 97, 121, 111, 114]), .slice (some ⟨5, 0, none⟩) 2 2, .int .i64 1, .int .u8 1, .int .u8 20, .int .u8 60, .int .i64 0, .bool false, .slice (some ⟨6, 0, none⟩) 0 0, .slice (some ⟨7, 0, none⟩) 1 1, .bool false, .slice (some ⟨8, 0, none⟩) 1 1, .slice (some ⟨9, 0, none⟩) 1 1, .slice (some ⟨10, 0, none⟩) 1 1], [[.string (ByteArray.mk #[97]), .string (ByteArray.mk #[98])], [], [.int .u32 1], [.int .u32 1], [.int .u32 10], [.int .i64 2]], .bool true)
def r23_1 : List Value × List (List Value) × Value := ([.string (ByteArray.mk #[109, 97, 121, 111, 114]), .slice (some ⟨5, 0, none⟩) 2 36893488147419103234, .int .i64 1, .int .u8 1, .int .u8 20, .int .u8 60, .int .i64 0, .bool false, .slice (some ⟨6, 0, none⟩) 0 0, .slice (some ⟨7, 0, none⟩) 1 36893488147419103233, .bool false, .slice (some ⟨8, 0, none⟩) 1 36893488147419103233, .slice (some ⟨9, 0, none⟩) 1 36893488147419103233, .slice (some ⟨10, 0, none⟩) 1 36893488147419103233], [[.string (ByteArray.mk #[97]), .string (ByteArray.mk #[98])], [], [.int .u32 1], [.int .u32 1], [.int .u32 10], [.int .i64 2]], .bool true)
def r99_0 : List Value × List (List Value) × Value := ([.bool false, .slice (some ⟨5, 0, none⟩) 0 0, .slice (some ⟨6, 0, none⟩) 1 1], [[], [.int .u32 1]], .int .i64 0)
def r99_1 : List Value × List (List Value) × Value := ([.bool false, .slice (some ⟨5, 0, none⟩) 1 1, .slice (some ⟨6, 0, none⟩) 1 1], [[.int .u32 1], [.int .u32 10]], .int .i64 0)
def r99_2 : List Value × List (List Value) × Value := ([.bool false, .slice (some ⟨5, 0, none⟩) 1 1, .slice (some ⟨6, 0, none⟩) 1 1], [[.int .u32 1], [.int .u32 1]], .int .i64 0)
def r99_3 : List Value × List (List Value) × Value := ([.bool false, .slice (some ⟨5, 0, none⟩) 0 0, .slice (some ⟨6, 0, none⟩) 1 36893488147419103233], [[], [.int .u32 1]], .int .i64 0)
def r99_4 : List Value × List (List Value) × Value := ([.bool false, .slice (some ⟨5, 0, none⟩) 1 36893488147419103233, .slice (some ⟨6, 0, none⟩) 1 36893488147419103233], [[.int .u32 1], [.int .u32 10]], .int .i64 0)
def r41_0 : List Value × List (List Value) × Value := ([.string (ByteArray.mk #[109, 97, 121, 111, 114]), .slice (some ⟨5, 0, none⟩) 2 2, .int .i64 1, .int .u8 1], [[.string (ByteArray.mk #[97]), .string (ByteArray.mk #[98])]], .int .i64 0)
def r41_1 : List Value × List (List Value) × Value := ([.string (ByteArray.mk #[109, 97, 121, 111, 114]), .slice (some ⟨5, 0, none⟩) 2 36893488147419103234, .int .i64 1, .int .u8 1], [[.string (ByteArray.mk #[97]), .string (ByteArray.mk #[98])]], .int .i64 0)

def t23 : Tab := [r23_1, r23_0]
def t99 : Tab := [r99_4, r99_2, r99_3, r99_1, r99_0]
def t41 : Tab := [r41_1, r41_0]

def sameA (a b : Value) : Bool :=
  match a, b with
  | .agg x, .agg y => sameVs x.toList y.toList
  | a, b => sameV a b
def sameAs : List Value → List Value → Bool
  | [], [] => true
  | a :: x, b :: y => sameA a b && sameAs x y
  | _, _ => false
theorem sameA_eq {a b : Value} (h : sameA a b = true) : a = b := by
  unfold sameA at h
  split at h
  · rename_i x y
    have := sameVs_eq h
    have : x = y := Array.ext' this
    rw [this]
  · exact sameV_eq h
theorem sameAs_eq : ∀ {a b : List Value}, sameAs a b = true → a = b
  | [], [], _ => rfl
  | [], _ :: _, h => by cases h
  | _ :: _, [], h => by cases h
  | a :: x, b :: y, h => by
    simp only [sameAs, Bool.and_eq_true] at h
    rw [sameA_eq h.1, sameAs_eq h.2]
/-- What a call without arguments comes to. -/
def dataB (x : Option (CRes × S)) (r : List Value) (nx : Nat) (bs : List (Nat × List Value)) : Bool :=
  match x with
  | some (.ret (.tuple y), s1) => sameAs y.toList r && Nat.beq s1.next nx && hasB s1 bs
  | _ => false
theorem dataB_spec {x : Option (CRes × S)} {r : List Value} {nx : Nat} {bs : List (Nat × List Value)} (h : dataB x r nx bs = true) : dataIs x (.tuple ⟨r⟩) nx bs := by
  unfold dataB at h
  split at h
  · rename_i y s1
    simp only [Bool.and_eq_true, Nat.beq_eq] at h
    obtain ⟨⟨h1, h2⟩, h3⟩ := h
    have := sameAs_eq h1
    have : y = ⟨r⟩ := Array.ext' this
    subst this
    exact ⟨s1, rfl, h2, h3⟩
  · cases h

noncomputable def eA : Ev := evK Tryz.prog (cmpHook 521) 3000
noncomputable def ext2 : Ext := (cmpHook 521).or ((memo0 178 gl [.slice none 0 0] emptySum).or ((memo1 178 gl table).or ((memoT Tryz.prog 23 gl t23).or ((memoT Tryz.prog 99 gl t99).or (memoT Tryz.prog 41 gl t41)))))
noncomputable def eB : Ev := evK Tryz.prog ext2 3000
end Go.Sv

/- The chapter's examples, reckoned apart. -/
namespace Go.Sv
open Go.Proofs
noncomputable def ext3 : Ext := ext2.or ((judgeHook Tryz.prog 15 34 35 107).or (dataHook Tryz.prog 4 gl (.tuple ⟨exR⟩) exN exB))
noncomputable def eC : Ev := evK Tryz.prog ext3 3000
noncomputable def ext4 : Ext := ext3.or (memo0 6 gl [] (.bool true))
noncomputable def eD : Ev := evK Tryz.prog ext4 3000
end Go.Sv
