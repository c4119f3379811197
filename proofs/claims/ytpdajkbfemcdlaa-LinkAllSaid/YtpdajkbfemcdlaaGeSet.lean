import Derived.Test.YtpdajkbfemcdlaaGeD
namespace Go.Ge
attribute [go_sem] wrapU32 Int.natCast_nonneg Int.ofNat_lt Int.ofNat_le cond_true cond_false decide_true decide_false not_true_eq_false not_false_eq_true Bool.true_and Bool.false_and Bool.and_false aggEq scEq hasSh alS List.filterMap_nil int_beq int_bne eq_self Int.natCast_zero Int.sub_zero Int.sub_self Int.zero_add Int.add_zero slnilV Int.zero_sub Int.neg_zero Int.toNat_zero Nat.zero_mul Nat.sub_zero Nat.sub_self
end Go.Ge
