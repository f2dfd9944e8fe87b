/- HostLimits, in pieces. -/
import Derived.Test.YtdgeilfopkbacaaGreatDoorLimD
import Derived.Test.YtdgeilfopkbacaaGreatDoorLima
import Derived.Test.YtdgeilfopkbacaaGreatDoorLimb
import Derived.Test.YtdgeilfopkbacaaGreatDoorLimc
import Derived.Test.YtdgeilfopkbacaaGreatDoorLimd
import Derived.Test.YtdgeilfopkbacaaGreatDoorAwake
set_option linter.unusedVariables false
set_option linter.unusedSimpArgs false
set_option maxRecDepth 100000
namespace Go.Proofs.YtdgeilfopkbacaaGreatDoor.lim
open Go Go.RowKit Ev
theorem lim_68 (f q : Int) (h2 : decide ((q) < 0) = false) (h10 : decide ((q) > 1000) = false) (h17 : decide ((q) ≥ 0) = true) (h27 : decide ((q) ≤ 1000) = true) (h30 : decide ((f) < 0) = false) (h32 : decide ((f) > 100000) = false) : GoodAt (fun _ => True) [.int .i64 f] 12 (cfgOf lim_68_f0 [] lim_68_o) :=
  lim_68_s f q h2 h10 h17 h27 h30 h32
theorem lim_67 (f q : Int) (h2 : decide ((q) < 0) = false) (h9 : decide ((q) > 1000) = true) (h11 : decide ((q) ≥ 0) = true) (h14 : decide ((q) ≤ 1000) = false) (h24 : decide ((f) < 0) = false) (h26 : decide ((f) > 100000) = false) : GoodAt (fun _ => True) [.int .i64 f] 12 (cfgOf lim_67_f0 [] lim_67_o) :=
  lim_67_s f q h2 h9 h11 h14 h24 h26
theorem lim_66 (f q : Int) (h1 : decide ((q) < 0) = true) (h4 : decide ((q) ≥ 0) = false) (h6 : decide ((f) < 0) = false) (h22 : decide ((f) > 100000) = false) : GoodAt (fun _ => True) [.int .i64 f] 12 (cfgOf lim_66_f0 [] lim_66_o) :=
  lim_66_s f q h1 h4 h6 h22
theorem lim_65 (f q : Int) (h2 : decide ((q) < 0) = false) (h10 : decide ((q) > 1000) = false) (h17 : decide ((q) ≥ 0) = true) : GoodAt (fun _ => True) [.int .i64 f, .int .i64 q] 12 (cfgOf lim_65_f0 [] lim_65_o) :=
  lim_65_s f q h2 h10 h17 lim_68
theorem lim_64 (f q : Int) (h2 : decide ((q) < 0) = false) (h9 : decide ((q) > 1000) = true) (h11 : decide ((q) ≥ 0) = true) (h14 : decide ((q) ≤ 1000) = false) : GoodAt (fun _ => True) [.int .i64 f] 12 (cfgOf lim_64_f0 [] lim_64_o) :=
  lim_64_s f q h2 h9 h11 h14 lim_67
theorem lim_63 (f q : Int) (h1 : decide ((q) < 0) = true) (h4 : decide ((q) ≥ 0) = false) (h6 : decide ((f) < 0) = false) : GoodAt (fun _ => True) [.int .i64 f] 12 (cfgOf lim_63_f0 [] lim_63_o) :=
  lim_63_s f q h1 h4 h6 lim_66
theorem lim_62 (f q : Int) : GoodAt (fun _ => True) [.int .i64 f, .int .i64 q, .int .i64 (if 0 > q then 0 else q)] 12 (cfgOf lim_62_f0 [] lim_62_o) :=
  lim_62_s f q lim_63 lim_64 lim_65
theorem lim_61 (f q : Int) : GoodAt (fun _ => True) [.int .i64 f, .int .i64 q, .int .i64 (if 0 > q then 0 else q)] 12 (cfgOf lim_61_f0 [] lim_61_o) :=
  lim_61_s f q lim_62
theorem lim_60 (f q : Int) : GoodAt (fun _ => True) [.int .i64 f, .int .i64 q, .int .i64 (if 0 > q then 0 else q)] 12 (cfgOf lim_60_f0 [] lim_60_o) :=
  lim_60_s f q lim_61
theorem lim_59 (f q : Int) : GoodAt (fun _ => True) [.int .i64 f, .int .i64 q, .int .i64 (if 0 > q then 0 else q)] 12 (cfgOf lim_59_f0 [] lim_59_o) :=
  lim_59_s f q lim_60
theorem lim_58 (f q : Int) : GoodAt (fun _ => True) [.int .i64 f, .int .i64 q, .int .i64 (if 0 > q then 0 else q)] 12 (cfgOf lim_58_f0 [] lim_58_o) :=
  lim_58_s f q lim_59
theorem lim_57 (f q : Int) : GoodAt (fun _ => True) [.int .i64 f, .int .i64 q, .int .i64 (if 0 > q then 0 else q)] 12 (cfgOf lim_57_f0 [] lim_57_o) :=
  lim_57_s f q lim_58
theorem lim_56 (f q : Int) : GoodAt (fun _ => True) [.int .i64 f, .int .i64 q, .int .i64 (if 0 > q then 0 else q)] 12 (cfgOf lim_56_f0 [] lim_56_o) :=
  lim_56_s f q lim_57
theorem lim_55 (f q : Int) : GoodAt (fun _ => True) [.int .i64 f, .int .i64 q, .int .i64 (if 0 > q then 0 else q)] 12 (cfgOf lim_55_f0 [] lim_55_o) :=
  lim_55_s f q lim_56
theorem lim_54 (f q : Int) : GoodAt (fun _ => True) [.int .i64 f, .int .i64 q, .int .i64 (if 0 > q then 0 else q)] 12 (cfgOf lim_54_f0 [] lim_54_o) :=
  lim_54_s f q lim_55
theorem lim_53 (f q : Int) : GoodAt (fun _ => True) [.int .i64 f, .int .i64 q, .int .i64 (if 0 > q then 0 else q)] 12 (cfgOf lim_53_f0 [] lim_53_o) :=
  lim_53_s f q lim_54
theorem lim_52 (f q : Int) : GoodAt (fun _ => True) [.int .i64 f, .int .i64 q, .int .i64 (if 0 > q then 0 else q)] 12 (cfgOf lim_52_f0 [] lim_52_o) :=
  lim_52_s f q lim_53
theorem lim_51 (f q : Int) : GoodAt (fun _ => True) [.int .i64 f, .int .i64 q, .int .i64 (if 0 > q then 0 else q)] 12 (cfgOf lim_51_f0 [] lim_51_o) :=
  lim_51_s f q lim_52
theorem lim_50 (f q : Int) : GoodAt (fun _ => True) [.int .i64 f, .int .i64 q, .int .i64 (if 0 > q then 0 else q)] 12 (cfgOf lim_50_f0 [] lim_50_o) :=
  lim_50_s f q lim_51
theorem lim_49 (f q : Int) : GoodAt (fun _ => True) [.int .i64 f, .int .i64 q, .int .i64 (if 0 > q then 0 else q)] 12 (cfgOf lim_49_f0 [] lim_49_o) :=
  lim_49_s f q lim_50
theorem lim_48 (f q : Int) : GoodAt (fun _ => True) [.int .i64 f, .int .i64 q, .int .i64 (if 0 > q then 0 else q)] 12 (cfgOf lim_48_f0 [] lim_48_o) :=
  lim_48_s f q lim_49
theorem lim_47 (f q : Int) : GoodAt (fun _ => True) [.int .i64 f, .int .i64 q, .int .i64 (if 0 > q then 0 else q)] 12 (cfgOf lim_47_f0 [] lim_47_o) :=
  lim_47_s f q lim_48
theorem lim_46 (f q : Int) : GoodAt (fun _ => True) [.int .i64 f, .int .i64 q, .int .i64 (if 0 > q then 0 else q)] 12 (cfgOf lim_46_f0 [] lim_46_o) :=
  lim_46_s f q lim_47
theorem lim_45 (f q : Int) : GoodAt (fun _ => True) [.int .i64 f, .int .i64 q, .int .i64 (if 0 > q then 0 else q)] 12 (cfgOf lim_45_f0 [] lim_45_o) :=
  lim_45_s f q lim_46
theorem lim_44 (f q : Int) : GoodAt (fun _ => True) [.int .i64 f, .int .i64 q, .int .i64 (if 0 > q then 0 else q)] 12 (cfgOf lim_44_f0 [] lim_44_o) :=
  lim_44_s f q lim_45
theorem lim_43 (f q : Int) : GoodAt (fun _ => True) [.int .i64 f, .int .i64 q, .int .i64 (if 0 > q then 0 else q)] 12 (cfgOf lim_43_f0 [] lim_43_o) :=
  lim_43_s f q lim_44
theorem lim_42 (f q : Int) : GoodAt (fun _ => True) [.int .i64 f, .int .i64 q, .int .i64 (if 0 > q then 0 else q)] 12 (cfgOf lim_42_f0 [] lim_42_o) :=
  lim_42_s f q lim_43
theorem lim_41 (f q : Int) : GoodAt (fun _ => True) [.int .i64 f, .int .i64 q, .int .i64 (if 0 > q then 0 else q)] 12 (cfgOf lim_41_f0 [] lim_41_o) :=
  lim_41_s f q lim_42
theorem lim_40 (f q : Int) : GoodAt (fun _ => True) [.int .i64 f, .int .i64 q, .int .i64 (if 0 > q then 0 else q)] 12 (cfgOf lim_40_f0 [] lim_40_o) :=
  lim_40_s f q lim_41
theorem lim_39 (f q : Int) : GoodAt (fun _ => True) [.int .i64 f, .int .i64 q, .int .i64 (if 0 > q then 0 else q)] 12 (cfgOf lim_39_f0 [] lim_39_o) :=
  lim_39_s f q lim_40
theorem lim_38 (f q : Int) : GoodAt (fun _ => True) [.int .i64 f, .int .i64 q, .int .i64 (if 0 > q then 0 else q)] 12 (cfgOf lim_38_f0 [] lim_38_o) :=
  lim_38_s f q lim_39
theorem lim_37 (f q : Int) : GoodAt (fun _ => True) [.int .i64 f, .int .i64 q, .int .i64 (if 0 > q then 0 else q)] 12 (cfgOf lim_37_f0 [] lim_37_o) :=
  lim_37_s f q lim_38
theorem lim_36 (f q : Int) : GoodAt (fun _ => True) [.int .i64 f, .int .i64 q, .int .i64 (if 0 > q then 0 else q)] 12 (cfgOf lim_36_f0 [] lim_36_o) :=
  lim_36_s f q lim_37
theorem lim_35 (f q : Int) : GoodAt (fun _ => True) [.int .i64 f, .int .i64 q, .int .i64 (if 0 > q then 0 else q)] 12 (cfgOf lim_35_f0 [] lim_35_o) :=
  lim_35_s f q lim_36
theorem lim_34 (f q : Int) : GoodAt (fun _ => True) [.int .i64 f, .int .i64 q, .int .i64 (if 0 > q then 0 else q)] 12 (cfgOf lim_34_f0 [] lim_34_o) :=
  lim_34_s f q lim_35
theorem lim_33 (f q : Int) : GoodAt (fun _ => True) [.int .i64 f, .int .i64 q, .int .i64 (if 0 > q then 0 else q)] 12 (cfgOf lim_33_f0 [] lim_33_o) :=
  lim_33_s f q lim_34
theorem lim_32 (f q : Int) : GoodAt (fun _ => True) [.int .i64 f, .int .i64 q, .int .i64 (if 0 > q then 0 else q)] 12 (cfgOf lim_32_f0 [] lim_32_o) :=
  lim_32_s f q lim_33
theorem lim_31 (f q : Int) : GoodAt (fun _ => True) [.int .i64 f, .int .i64 q, .int .i64 (if 0 > q then 0 else q)] 12 (cfgOf lim_31_f0 [] lim_31_o) :=
  lim_31_s f q lim_32
theorem lim_30 (f q : Int) : GoodAt (fun _ => True) [.int .i64 f, .int .i64 q, .int .i64 (if 0 > q then 0 else q)] 12 (cfgOf lim_30_f0 [] lim_30_o) :=
  lim_30_s f q lim_31
theorem lim_29 (f q : Int) : GoodAt (fun _ => True) [.int .i64 f, .int .i64 q, .int .i64 (if 0 > q then 0 else q)] 12 (cfgOf lim_29_f0 [] lim_29_o) :=
  lim_29_s f q lim_30
theorem lim_28 (f q : Int) : GoodAt (fun _ => True) [.int .i64 f, .int .i64 q, .int .i64 (if 0 > q then 0 else q)] 12 (cfgOf lim_28_f0 [] lim_28_o) :=
  lim_28_s f q lim_29
theorem lim_27 (f q : Int) : GoodAt (fun _ => True) [.int .i64 f, .int .i64 q, .int .i64 (if 0 > q then 0 else q)] 12 (cfgOf lim_27_f0 [] lim_27_o) :=
  lim_27_s f q lim_28
theorem lim_26 (f q : Int) : GoodAt (fun _ => True) [.int .i64 f, .int .i64 q, .int .i64 (if 0 > q then 0 else q)] 12 (cfgOf lim_26_f0 [] lim_26_o) :=
  lim_26_s f q lim_27
theorem lim_25 (f q : Int) : GoodAt (fun _ => True) [.int .i64 f, .int .i64 q, .int .i64 (if 0 > q then 0 else q)] 12 (cfgOf lim_25_f0 [] lim_25_o) :=
  lim_25_s f q lim_26
theorem lim_24 (f q : Int) : GoodAt (fun _ => True) [.int .i64 f, .int .i64 q, .int .i64 (if 0 > q then 0 else q)] 12 (cfgOf lim_24_f0 [] lim_24_o) :=
  lim_24_s f q lim_25
theorem lim_23 (f q : Int) : GoodAt (fun _ => True) [.int .i64 f, .int .i64 q, .int .i64 (if 0 > q then 0 else q)] 12 (cfgOf lim_23_f0 [] lim_23_o) :=
  lim_23_s f q lim_24
theorem lim_22 (f q : Int) : GoodAt (fun _ => True) [.int .i64 f, .int .i64 q, .int .i64 (if 0 > q then 0 else q)] 12 (cfgOf lim_22_f0 [] lim_22_o) :=
  lim_22_s f q lim_23
theorem lim_21 (f q : Int) : GoodAt (fun _ => True) [.int .i64 f, .int .i64 q, .int .i64 (if 0 > q then 0 else q)] 12 (cfgOf lim_21_f0 [] lim_21_o) :=
  lim_21_s f q lim_22
theorem lim_20 (f q : Int) : GoodAt (fun _ => True) [.int .i64 f, .int .i64 q, .int .i64 (if 0 > q then 0 else q)] 12 (cfgOf lim_20_f0 [] lim_20_o) :=
  lim_20_s f q lim_21
theorem lim_19 (f q : Int) : GoodAt (fun _ => True) [.int .i64 f, .int .i64 q, .int .i64 (if 0 > q then 0 else q)] 12 (cfgOf lim_19_f0 [] lim_19_o) :=
  lim_19_s f q lim_20
theorem lim_18 (f q : Int) : GoodAt (fun _ => True) [.int .i64 f, .int .i64 q, .int .i64 (if 0 > q then 0 else q)] 12 (cfgOf lim_18_f0 [] lim_18_o) :=
  lim_18_s f q lim_19
theorem lim_17 (f q : Int) : GoodAt (fun _ => True) [.int .i64 f, .int .i64 q, .int .i64 (if 0 > q then 0 else q)] 12 (cfgOf lim_17_f0 [] lim_17_o) :=
  lim_17_s f q lim_18
theorem lim_16 (f q : Int) : GoodAt (fun _ => True) [.int .i64 f, .int .i64 q, .int .i64 (if 0 > q then 0 else q)] 12 (cfgOf lim_16_f0 [] lim_16_o) :=
  lim_16_s f q lim_17
theorem lim_15 (f q : Int) : GoodAt (fun _ => True) [.int .i64 f, .int .i64 q, .int .i64 (if 0 > q then 0 else q)] 12 (cfgOf lim_15_f0 [] lim_15_o) :=
  lim_15_s f q lim_16
theorem lim_14 (f q : Int) : GoodAt (fun _ => True) [.int .i64 f, .int .i64 q, .int .i64 (if 0 > q then 0 else q)] 12 (cfgOf lim_14_f0 [] lim_14_o) :=
  lim_14_s f q lim_15
theorem lim_13 (f q : Int) : GoodAt (fun _ => True) [.int .i64 f, .int .i64 q, .int .i64 (if 0 > q then 0 else q)] 12 (cfgOf lim_13_f0 [] lim_13_o) :=
  lim_13_s f q lim_14
theorem lim_12 (f q : Int) : GoodAt (fun _ => True) [.int .i64 f, .int .i64 q, .int .i64 (if 0 > q then 0 else q)] 12 (cfgOf lim_12_f0 [] lim_12_o) :=
  lim_12_s f q lim_13
theorem lim_11 (f q : Int) : GoodAt (fun _ => True) [.int .i64 f, .int .i64 q, .int .i64 (if 0 > q then 0 else q)] 12 (cfgOf lim_11_f0 [] lim_11_o) :=
  lim_11_s f q lim_12
theorem lim_10 (f q : Int) : GoodAt (fun _ => True) [.int .i64 f, .int .i64 q, .int .i64 (if 0 > q then 0 else q)] 12 (cfgOf lim_10_f0 [] lim_10_o) :=
  lim_10_s f q lim_11
theorem lim_9 (f q : Int) : GoodAt (fun _ => True) [.int .i64 f, .int .i64 q, .int .i64 (if 0 > q then 0 else q)] 12 (cfgOf lim_9_f0 [] lim_9_o) :=
  lim_9_s f q lim_10
theorem lim_8 (f q : Int) : GoodAt (fun _ => True) [.int .i64 f, .int .i64 q, .int .i64 (if 0 > q then 0 else q)] 12 (cfgOf lim_8_f0 [] lim_8_o) :=
  lim_8_s f q lim_9
theorem lim_7 (f q : Int) : GoodAt (fun _ => True) [.int .i64 f, .int .i64 q, .int .i64 (if 0 > q then 0 else q)] 12 (cfgOf lim_7_f0 [] lim_7_o) :=
  lim_7_s f q lim_8
theorem lim_6 (f q : Int) : GoodAt (fun _ => True) [.int .i64 f, .int .i64 q, .int .i64 (if 0 > q then 0 else q)] 12 (cfgOf lim_6_f0 [] lim_6_o) :=
  lim_6_s f q lim_7
theorem lim_5 (f q : Int) : GoodAt (fun _ => True) [.int .i64 f, .int .i64 q, .int .i64 (if 0 > q then 0 else q)] 12 (cfgOf lim_5_f0 [] lim_5_o) :=
  lim_5_s f q lim_6
theorem lim_4 (f q : Int) : GoodAt (fun _ => True) [.int .i64 f, .int .i64 q, .int .i64 (if 0 > q then 0 else q)] 12 (cfgOf lim_4_f0 [] lim_4_o) :=
  lim_4_s f q lim_5
theorem lim_3 (f q : Int) : GoodAt (fun _ => True) [.int .i64 f, .int .i64 q, .int .i64 (if 0 > q then 0 else q)] 12 (cfgOf lim_3_f0 [] lim_3_o) :=
  lim_3_s f q lim_4
theorem lim_2 (f q : Int) : GoodAt (fun _ => True) [.int .i64 f, .int .i64 q, .int .i64 (if 0 > q then 0 else q)] 12 (cfgOf lim_2_f0 [] lim_2_o) :=
  lim_2_s f q lim_3
theorem lim_1 (f q : Int) : GoodAt (fun _ => True) [.int .i64 f, .int .i64 q, .int .i64 (if 0 > q then 0 else q)] 12 (cfgOf lim_1_f0 [] lim_1_o) :=
  lim_1_s f q lim_2
theorem lim_0 (f q : Int) : GoodAt (fun _ => True) [.int .i64 f, .int .i64 q, .int .i64 (if 0 > q then 0 else q)] 12 (cfg0 12 [.complex .f64 1 0, .complex .f64 2 0]) :=
  lim_0_s f q lim_1
theorem law (f q : Int) (w : World) (hL : Laid w) : Calls Tryz.prog 12 #[.int .i64 f, .int .i64 q] w fun e w' => e = .returned (.bool true) ∧ Below w.heap.size w w' :=
  calls_of_good [.int .i64 f, .int .i64 q, .int .i64 (if 0 > q then 0 else q)] rfl Tryz.func12 rfl [.complex .f64 1 0, .complex .f64 2 0] (of_decide_eq_true (by kernel_rfl)) rfl (lim_0 f q) w hL
end Go.Proofs.YtdgeilfopkbacaaGreatDoor.lim
