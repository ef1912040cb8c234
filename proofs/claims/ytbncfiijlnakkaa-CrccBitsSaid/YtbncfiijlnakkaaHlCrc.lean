/-! Hl: the check, bit by bit and by a table, in plain numbers. -/
namespace Go.Hl

def bitStep (c : Nat) : Nat := if c % 2 = 1 then c / 2 ^^^ 2197175160 else c / 2
def steps : Nat → Nat → Nat
  | 0, c => c
  | n + 1, c => steps n (bitStep c)
def eat (c b : Nat) : Nat := steps 8 (c ^^^ b)
def crcFrom (c : Nat) : List UInt8 → Nat
  | [] => c
  | b :: l => crcFrom (eat c b.toNat) l
def crcL (l : List UInt8) : Nat := crcFrom 4294967295 l ^^^ 4294967295

theorem crcFrom_nil (c : Nat) : crcFrom c [] = c := rfl
theorem steps_zero (c : Nat) : steps 0 c = c := rfl
theorem steps_succ : ∀ n c, steps (n + 1) c = bitStep (steps n c)
  | 0, _ => rfl
  | n + 1, c => steps_succ n (bitStep c)
theorem xor_lt {m n : Nat} (hm : m < 4294967296) (hn : n < 4294967296) : m ^^^ n < 4294967296 := Nat.xor_lt_two_pow (n := 32) hm hn
theorem bitStep_lt {c : Nat} (h : c < 4294967296) : bitStep c < 4294967296 := by
  unfold bitStep
  split
  · exact xor_lt (by omega) (by omega)
  · omega
theorem steps_lt : ∀ n {c : Nat}, c < 4294967296 → steps n c < 4294967296
  | 0, _, h => h
  | n + 1, _, h => steps_lt n (bitStep_lt h)
theorem eat_lt {c b : Nat} (h : c < 4294967296) (hb : b < 256) : eat c b < 4294967296 := steps_lt 8 (xor_lt h (by omega))
theorem crcFrom_lt : ∀ (l : List UInt8) {c : Nat}, c < 4294967296 → crcFrom c l < 4294967296
  | [], _, h => h
  | b :: l, _, h => crcFrom_lt l (eat_lt h b.toNat_lt)
theorem crcL_lt (l : List UInt8) : crcL l < 4294967296 := xor_lt (crcFrom_lt l (by omega)) (by omega)
theorem crcFrom_snoc : ∀ (l : List UInt8) (c : Nat) (b : UInt8), crcFrom c (l ++ [b]) = eat (crcFrom c l) b.toNat
  | [], _, _ => rfl
  | _ :: l, _, b => crcFrom_snoc l _ b

/-- A number that is even adds its half behind a step. -/
theorem bitStep_xor (a m : Nat) : bitStep (a ^^^ 2 * m) = bitStep a ^^^ m := by
  have h1 : (a ^^^ 2 * m) % 2 = a % 2 := by
    rw [Nat.xor_mod_two_pow (n := 1) (a := a) (b := 2 * m)] 
    simp
  have h2 : (a ^^^ 2 * m) / 2 = a / 2 ^^^ m := by
    rw [Nat.xor_div_two]
    simp
  unfold bitStep
  rw [h1, h2]
  split
  · rw [Nat.xor_assoc, Nat.xor_comm m, ← Nat.xor_assoc]
  · rfl
theorem steps_xor : ∀ n a m, steps n (a ^^^ 2 ^ n * m) = steps n a ^^^ m
  | 0, a, m => by simp [steps]
  | n + 1, a, m => by
    simp only [steps]
    rw [Nat.pow_succ, Nat.mul_comm (2 ^ n) 2, Nat.mul_assoc, bitStep_xor, steps_xor n]
theorem low_high (c : Nat) : c % 256 ^^^ 256 * (c / 256) = c := by
  have h : ∀ a b : Nat, a < 2 ^ 8 → a ^^^ 2 ^ 8 * b = 2 ^ 8 * b + a := fun a b ha => by
    rw [Nat.xor_comm, Nat.two_pow_add_eq_or_of_lt ha]
    apply Nat.eq_of_testBit_eq
    intro i
    simp only [Nat.testBit_xor, Nat.testBit_or, Nat.testBit_two_pow_mul]
    by_cases hi : i < 8
    · simp [Nat.not_le.2 hi]
    · have : a.testBit i = false := Nat.testBit_lt_two_pow (Nat.lt_of_lt_of_le ha (Nat.pow_le_pow_right (by omega) (by omega)))
      simp [this]
  rw [show (256 : Nat) = 2 ^ 8 from rfl, h _ _ (Nat.mod_lt _ (by decide))]
  omega
theorem eat_table (c b : Nat) : eat c b = steps 8 (c % 256 ^^^ b) ^^^ c / 256 := by
  unfold eat
  conv => lhs; rw [← low_high c]
  rw [Nat.xor_assoc, Nat.xor_comm (256 * _), ← Nat.xor_assoc]
  exact steps_xor 8 _ _
theorem step_odd {x : Nat} (h : x % 2 = 1) : bitStep x = x / 2 ^^^ 2197175160 := by simp [bitStep, h]
theorem step_even {x : Nat} (h : ¬ x % 2 = 1) : bitStep x = x / 2 := by simp [bitStep, h]
theorem crcFrom_take {s : List UInt8} {i : Nat} (c : Nat) (h : i < s.length) : crcFrom c (s.take (i + 1)) = eat (crcFrom c (s.take i)) s[i].toNat := by
  rw [← List.take_append_getElem h, crcFrom_snoc]
def crcTab : List Nat := [0, 4067132163, 3778769143, 324072436, 3348797215, 904991772, 648144872, 3570033899, 2329499855, 2024987596, 1809983544, 2575936315, 1296289744, 3207089363, 2893594407, 1578318884, 274646895, 3795141740, 4049975192, 51262619, 3619967088, 632279923, 922689671, 3298075524, 2592579488, 1760304291, 2075979607, 2312596564, 1562183871, 2943781820, 3156637768, 1313733451, 549293790, 3537243613, 3246849577, 871202090, 3878099393, 357341890, 102525238, 4101499445, 2858735121, 1477399826, 1264559846, 3107202533, 1845379342, 2677391885, 2361733625, 2125378298, 820201905, 3263744690, 3520608582, 598981189, 4151959214, 85089709, 373468761, 3827903834, 3124367742, 1213305469, 1526817161, 2842354314, 2107672161, 2412447074, 2627466902, 1861252501, 1098587580, 3004210879, 2688576843, 1378610760, 2262928035, 1955203488, 1742404180, 2511436119, 3416409459, 969524848, 714683780, 3639785095, 205050476, 4266873199, 3976438427, 526918040, 1361435347, 2739821008, 2954799652, 1114974503, 2529119692, 1691668175, 2005155131, 2247081528, 3690758684, 697762079, 986182379, 3366744552, 476452099, 3993867776, 4250756596, 255256311, 1640403810, 2477592673, 2164122517, 1922457750, 2791048317, 1412925310, 1197962378, 3037525897, 3944729517, 427051182, 170179418, 4165941337, 746937522, 3740196785, 3451792453, 1070968646, 1905808397, 2213795598, 2426610938, 1657317369, 3053634322, 1147748369, 1463399397, 2773627110, 4215344322, 153784257, 444234805, 3893493558, 1021025245, 3467647198, 3722505002, 797665321, 2197175160, 1889384571, 1674398607, 2443626636, 1164749927, 3070701412, 2757221520, 1446797203, 137323447, 4198817972, 3910406976, 461344835, 3484808360, 1037989803, 781091935, 3705997148, 2460548119, 1623424788, 1939049696, 2180517859, 1429367560, 2807687179, 3020495871, 1180866812, 410100952, 3927582683, 4182430767, 186734380, 3756733383, 763408580, 1053836080, 3434856499, 2722870694, 1344288421, 1131464017, 2971354706, 1708204729, 2545590714, 2229949006, 1988219213, 680717673, 3673779818, 3383336350, 1002577565, 4010310262, 493091189, 238226049, 4233660802, 2987750089, 1082061258, 1395524158, 2705686845, 1972364758, 2279892693, 2494862625, 1725896226, 952904198, 3399985413, 3656866545, 731699698, 4283874585, 222117402, 510512622, 3959836397, 3280807620, 837199303, 582374963, 3504198960, 68661723, 4135334616, 3844915500, 390545967, 1230274059, 3141532936, 2825850620, 1510247935, 2395924756, 2091215383, 1878366691, 2644384480, 3553878443, 565732008, 854102364, 3229815391, 340358836, 3861050807, 4117890627, 119113024, 1493875044, 2875275879, 3090270611, 1247431312, 2660249211, 1828433272, 2141937292, 2378227087, 3811616794, 291187481, 34330861, 4032846830, 615137029, 3603020806, 3314634738, 939183345, 1776939221, 2609017814, 2295496738, 2058945313, 2926798794, 1545135305, 1330124605, 3173225534, 4084100981, 17165430, 307568514, 3762199681, 888469610, 3332340585, 3587147933, 665062302, 2042050490, 2346497209, 2559330125, 1793573966, 3190661285, 1279665062, 1595330642, 2910671697]
theorem crcTab_steps : ∀ i, i < 256 → crcTab[i]? = some (steps 8 i) := by decide +kernel
end Go.Hl
