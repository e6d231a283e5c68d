import PyProof.Rows.All
import Wide.All
import OpenK.AllK
import Wide.FinOn
import Open.Tops
import PySem.Challenge.RW_ui0507_14
open PySem PySem.W PyProof.Rows PySem.Spec PySem.Calls
set_option Elab.async false
set_option compiler.extract_closed false
set_option maxRecDepth 100000
namespace Mine
set_option maxHeartbeats 0 in
open_shared Pre for PySem.Challenge.rw_ui0507_14.row.prog leaving 15
def rowL : List Value := [.int 0 336, .int 1996959894 400, .int 3993919788 464, .int 2567524794 530, .int 124634137 593, .int 1886057615 658, .int 3915621685 723, .int 2657392035 790, .int 249268274 853, .int 2044508324 918, .int 3772115230 983, .int 2547177864 1050, .int 162941995 1114, .int 2125561021 1180, .int 3887607047 1246, .int 2428444049 1314, .int 498536548 1377, .int 1789927666 1442, .int 4089016648 1507, .int 2227061214 1574, .int 450548861 1638, .int 1843258603 1704, .int 4107580753 1770, .int 2211677639 1838, .int 325883990 1902, .int 1684777152 1968, .int 4251122042 2034, .int 2321926636 2102, .int 335633487 2167, .int 1661365465 2234, .int 4195302755 2301, .int 2366115317 2370, .int 997073096 2433, .int 1281953886 2498, .int 3579855332 2563, .int 2724688242 2630, .int 1006888145 2694, .int 1258607687 2760, .int 3524101629 2826, .int 2768942443 2894, .int 901097722 2958, .int 1119000684 3024, .int 3686517206 3090, .int 2898065728 3158, .int 853044451 3223, .int 1172266101 3290, .int 3705015759 3357, .int 2882616665 3426, .int 651767980 3490, .int 1373503546 3556, .int 3369554304 3622, .int 3218104598 3690, .int 565507253 3755, .int 1454621731 3822, .int 3485111705 3889, .int 3099436303 3958, .int 671266974 4023, .int 1594198024 4090, .int 3322730930 4157, .int 2970347812 4226, .int 795835527 4292, .int 1483230225 4360, .int 3244367275 4428, .int 3060149565 4498, .int 1994146192 4561, .int 31158534 4624, .int 2563907772 4689, .int 4023717930 4754, .int 1907459465 4818, .int 112637215 4882, .int 2680153253 4948, .int 3904427059 5014, .int 2013776290 5078, .int 251722036 5142, .int 2517215374 5208, .int 3775830040 5274, .int 2137656763 5339, .int 141376813 5404, .int 2439277719 5471, .int 3865271297 5538, .int 1802195444 5602, .int 476864866 5666, .int 2238001368 5732, .int 4066508878 5798, .int 1812370925 5863, .int 453092731 5928, .int 2181625025 5995, .int 4111451223 6062, .int 1706088902 6127, .int 314042704 6192, .int 2344532202 6259, .int 4240017532 6326, .int 1658658271 6392, .int 366619977 6458, .int 2362670323 6526, .int 4224994405 6594, .int 1303535960 6658, .int 984961486 6722, .int 2747007092 6788, .int 3569037538 6854, .int 1256170817 6919, .int 1037604311 6984, .int 2765210733 7051, .int 3554079995 7118, .int 1131014506 7183, .int 879679996 7248, .int 2909243462 7315, .int 3663771856 7382, .int 1141124467 7448, .int 855842277 7514, .int 2852801631 7582, .int 3708648649 7650, .int 1342533948 7715, .int 654459306 7780, .int 3188396048 7847, .int 3373015174 7914, .int 1466479909 7980, .int 544179635 8046, .int 3110523913 8114, .int 3462522015 8182, .int 1591671054 8248, .int 702138776 8314, .int 2966460450 8382, .int 3352799412 8450, .int 1504918807 8517, .int 783551873 8584, .int 3082640443 8653, .int 3233442989 8722, .int 3988292384 8785, .int 2596254646 8850, .int 62317068 8913, .int 1957810842 8978, .int 3939845945 9042, .int 2647816111 9108, .int 81470997 9172, .int 1943803523 9238, .int 3814918930 9302, .int 2489596804 9368, .int 225274430 9432, .int 2053790376 9498, .int 3826175755 9563, .int 2466906013 9630, .int 167816743 9695, .int 2097651377 9762, .int 4027552580 9826, .int 2265490386 9892, .int 503444072 9956, .int 1762050814 10022, .int 4150417245 10087, .int 2154129355 10154, .int 426522225 10219, .int 1852507879 10286, .int 4275313526 10351, .int 2312317920 10418, .int 282753626 10483, .int 1742555852 10550, .int 4189708143 10616, .int 2394877945 10684, .int 397917763 10750, .int 1622183637 10818, .int 3604390888 10882, .int 2714866558 10948, .int 953729732 11012, .int 1340076626 11078, .int 3518719985 11143, .int 2797360999 11210, .int 1068828381 11275, .int 1219638859 11342, .int 3624741850 11407, .int 2936675148 11474, .int 906185462 11539, .int 1090812512 11606, .int 3747672003 11672, .int 2825379669 11740, .int 829329135 11806, .int 1181335161 11874, .int 3412177804 11939, .int 3160834842 12006, .int 628085408 12071, .int 1382605366 12138, .int 3423369109 12204, .int 3138078467 12272, .int 570562233 12338, .int 1426400815 12406, .int 3317316542 12472, .int 2998733608 12540, .int 733239954 12606, .int 1555261956 12674, .int 3268935591 12741, .int 3050360625 12810, .int 752459403 12877, .int 1541320221 12946, .int 2607071920 13010, .int 3965973030 13074, .int 1969922972 13138, .int 40735498 13202, .int 2617837225 13267, .int 3943577151 13332, .int 1913087877 13397, .int 83908371 13462, .int 2512341634 13527, .int 3803740692 13592, .int 2075208622 13657, .int 213261112 13722, .int 2463272603 13788, .int 3855990285 13854, .int 2094854071 13920, .int 198958881 13986, .int 2262029012 14051, .int 4057260610 14116, .int 1759359992 14181, .int 534414190 14246, .int 2176718541 14312, .int 4139329115 14378, .int 1873836001 14444, .int 414664567 14510, .int 2282248934 14576, .int 4279200368 14642, .int 1711684554 14708, .int 285281116 14774, .int 2405801727 14841, .int 4167216745 14908, .int 1634467795 14975, .int 376229701 15042, .int 2685067896 15107, .int 3608007406 15172, .int 1308918612 15237, .int 956543938 15302, .int 2808555105 15368, .int 3495958263 15434, .int 1231636301 15500, .int 1047427035 15566, .int 2932959818 15632, .int 3654703836 15698, .int 1088359270 15764, .int 936918000 15830, .int 2847714899 15897, .int 3736837829 15964, .int 1202900863 16031, .int 817233897 16098, .int 3183342108 16164, .int 3401237130 16230, .int 1404277552 16296, .int 615818150 16362, .int 3134207493 16429, .int 3453421203 16496, .int 1423857449 16563, .int 601450431 16630, .int 3009837614 16697, .int 3294710456 16764, .int 1567103746 16831, .int 711928724 16898, .int 3020668471 16966, .int 3272380065 17034, .int 1510334235 17102, .int 755167117 17170]
def tkL : List (Nat × Nat) := [(279, 0), (341, 331), (405, 395), (469, 458), (535, 524), (598, 588), (663, 653), (728, 717), (795, 784), (858, 848), (923, 913), (988, 977), (1055, 1044), (1119, 1109), (1185, 1175), (1251, 1240), (1319, 1308), (1382, 1372), (1447, 1437), (1512, 1501), (1579, 1568), (1643, 1633), (1709, 1699), (1775, 1764), (1843, 1832), (1907, 1897), (1973, 1963), (2039, 2028), (2107, 2096), (2172, 2162), (2239, 2229), (2306, 2295), (2375, 2364), (2438, 2428), (2503, 2493), (2568, 2557), (2635, 2624), (2699, 2689), (2765, 2755), (2831, 2820), (2899, 2888), (2963, 2953), (3029, 3019), (3095, 3084), (3163, 3152), (3228, 3218), (3295, 3285), (3362, 3351), (3431, 3420), (3495, 3485), (3561, 3551), (3627, 3616), (3695, 3684), (3760, 3750), (3827, 3817), (3894, 3883), (3963, 3952), (4028, 4018), (4095, 4085), (4162, 4151), (4231, 4220), (4297, 4287), (4365, 4355), (4433, 4422), (4503, 4492), (4566, 4556), (4629, 4619), (4694, 4683), (4759, 4748), (4823, 4813), (4887, 4877), (4953, 4942), (5019, 5008), (5083, 5073), (5147, 5137), (5213, 5202), (5279, 5268), (5344, 5334), (5409, 5399), (5476, 5465), (5543, 5532), (5607, 5597), (5671, 5661), (5737, 5726), (5803, 5792), (5868, 5858), (5933, 5923), (6000, 5989), (6067, 6056), (6132, 6122), (6197, 6187), (6264, 6253), (6331, 6320), (6397, 6387), (6463, 6453), (6531, 6520), (6599, 6588), (6663, 6653), (6727, 6717), (6793, 6782), (6859, 6848), (6924, 6914), (6989, 6979), (7056, 7045), (7123, 7112), (7188, 7178), (7253, 7243), (7320, 7309), (7387, 7376), (7453, 7443), (7519, 7509), (7587, 7576), (7655, 7644), (7720, 7710), (7785, 7775), (7852, 7841), (7919, 7908), (7985, 7975), (8051, 8041), (8119, 8108), (8187, 8176), (8253, 8243), (8319, 8309), (8387, 8376), (8455, 8444), (8522, 8512), (8589, 8579), (8658, 8647), (8727, 8716), (8790, 8779), (8855, 8844), (8918, 8908), (8983, 8973), (9047, 9036), (9113, 9102), (9177, 9167), (9243, 9233), (9307, 9296), (9373, 9362), (9437, 9427), (9503, 9493), (9568, 9557), (9635, 9624), (9700, 9690), (9767, 9757), (9831, 9820), (9897, 9886), (9961, 9951), (10027, 10017), (10092, 10081), (10159, 10148), (10224, 10214), (10291, 10281), (10356, 10345), (10423, 10412), (10488, 10478), (10555, 10545), (10621, 10610), (10689, 10678), (10755, 10745), (10823, 10813), (10887, 10876), (10953, 10942), (11017, 11007), (11083, 11073), (11148, 11137), (11215, 11204), (11280, 11270), (11347, 11337), (11412, 11401), (11479, 11468), (11544, 11534), (11611, 11601), (11677, 11666), (11745, 11734), (11811, 11801), (11879, 11869), (11944, 11933), (12011, 12000), (12076, 12066), (12143, 12133), (12209, 12198), (12277, 12266), (12343, 12333), (12411, 12401), (12477, 12466), (12545, 12534), (12611, 12601), (12679, 12669), (12746, 12735), (12815, 12804), (12882, 12872), (12951, 12941), (13015, 13004), (13079, 13068), (13143, 13133), (13207, 13197), (13272, 13261), (13337, 13326), (13402, 13392), (13467, 13457), (13532, 13521), (13597, 13586), (13662, 13652), (13727, 13717), (13793, 13782), (13859, 13848), (13925, 13915), (13991, 13981), (14056, 14045), (14121, 14110), (14186, 14176), (14251, 14241), (14317, 14306), (14383, 14372), (14449, 14439), (14515, 14505), (14581, 14570), (14647, 14636), (14713, 14703), (14779, 14769), (14846, 14835), (14913, 14902), (14980, 14970), (15047, 15037), (15112, 15101), (15177, 15166), (15242, 15232), (15307, 15297), (15373, 15362), (15439, 15428), (15505, 15495), (15571, 15561), (15637, 15626), (15703, 15692), (15769, 15759), (15835, 15825), (15902, 15891), (15969, 15958), (16036, 16026), (16103, 16093), (16169, 16158), (16235, 16224), (16301, 16291), (16367, 16357), (16434, 16423), (16501, 16490), (16568, 16558), (16635, 16625), (16702, 16691), (16769, 16758), (16836, 16826), (16903, 16893), (16971, 16960), (17039, 17028), (17107, 17097)]
def entS (P : Params) (x : String) (t : Nat) (v : Value) : DictEntry := ⟨PyData.keyHash P (Str.ofString x), .str (Str.ofString x) t, v⟩
def lc0 (P : Params) : Obj := ⟨.type "frame", none, .dict #[entS P "table" 272 (.ref 74), entS P "byte" 277 (.int 0 276), entS P "value" 278 (.int 0 276)] 3, #[]⟩
def lcN (P : Params) (b t k : Nat) : Obj := ⟨.type "frame", none, .dict #[entS P "table" 272 (.ref 74), entS P "byte" 277 (.int (b : Int) (t - 3)), entS P "value" 278 (.int (b : Int) (t - 3)), entS P "k" 283 (.int 7 k)] 4, #[]⟩
def lc (P : Params) (b : Nat) : Obj := match b with
  | 0 => lc0 P
  | b + 1 => lcN P (b + 1) (tkL.getD (b + 1) (0, 0)).1 (tkL.getD (b + 1) (0, 0)).2
def ls (b : Nat) : Obj := ⟨.type "list", none, .seq (rowL.take b).toArray b, #[]⟩
def rng (a e s : Nat) (x : Int) : Obj := ⟨.type "range", none, .fields #[.int 0 a, .int x e, .int 1 s], #[]⟩
def rg (r : Nat) : Obj := rng r (r - 1) (r + 1) 8
def r256 : Obj := rng 274 273 275 256
def rit (x y : Int) : Obj := ⟨.type "range_iterator", none, .fields #[.int x 0, .int y 0, .int 1 0], #[]⟩
def oi (b : Nat) : Obj := rit ((b : Int) + 1) (255 - (b : Int))
def ri : Obj := rit 8 0
def tup0 : Obj := ⟨.type "tuple", none, .seq #[] 0, #[]⟩
def se (a : Nat) : Obj := ⟨.type "StopIteration", none, .fields #[.ref a, .none, .none, .none, .bool false, .none], #[]⟩
def insL : BT → Nat → List Obj → BT
  | T, _, [] => T
  | T, n, o :: r => insL (T.ins n o) (n + 1) r
def shr (T : BT) (n tok : Nat) (os : OsState) : SharedT := { tree := T, n := n, life := { }, gens := { toList := [] }, drawn := { }, toks := tok, os := os }
def top3 (T : BT) (P : Params) (b : Nat) : BT := ((T.set 73 fun _ => lc P b).set 74 fun _ => ls b).set 76 fun _ => oi b
noncomputable def B0 (P : Params) : BT := (.node (PySem.W.boot_o_0 P) (.node (PySem.W.boot_o_1 P) (.node (Pre.o_44 P) (.node (PySem.W.boot_o_7 P) (.node (Pre.o_7 P) (.node (Pre.o_46 P) (.node (Pre.o_63 P) .nil .nil) .nil) (.node (Pre.o_47 P) .nil .nil)) (.node (Pre.o_15 P) (.node (Pre.o_35 P) (.node (Pre.o_71 P) .nil .nil) .nil) (.node (Pre.o_55 P) .nil .nil))) (.node (Pre.o_1 P) (.node (Pre.o_11 P) (.node (Pre.o_31 P) (.node (Pre.o_67 P) .nil .nil) .nil) (.node (Pre.o_51 P) .nil .nil)) (.node (Pre.o_19 P) (.node (Pre.o_39 P) (.node r256 .nil .nil) .nil) (.node (Pre.o_59 P) .nil .nil)))) (.node (PySem.W.boot_o_5 P) (.node (PySem.W.boot_o_9 P) (.node (Pre.o_9 P) (.node (Pre.o_25 P) (.node (Pre.o_65 P) .nil .nil) .nil) (.node (Pre.o_49 P) .nil .nil)) (.node (Pre.o_17 P) (.node (Pre.o_37 P) (.node (lc P 0) .nil .nil) .nil) (.node (Pre.o_57 P) .nil .nil))) (.node (Pre.o_3 P) (.node (Pre.o_13 P) (.node (Pre.o_33 P) (.node (Pre.o_69 P) .nil .nil) .nil) (.node (Pre.o_53 P) .nil .nil)) (.node (Pre.o_21 P) (.node (Pre.o_41 P) .nil .nil) (.node (Pre.o_61 P) .nil .nil))))) (.node (PySem.W.boot_o_2 P) (.node (PySem.W.boot_o_4 P) (.node (PySem.W.boot_o_8 P) (.node (Pre.o_8 P) (.node (Pre.o_24 P) (.node (Pre.o_64 P) .nil .nil) .nil) (.node (Pre.o_48 P) .nil .nil)) (.node (Pre.o_16 P) (.node (Pre.o_36 P) (.node (Pre.o_72 P) .nil .nil) .nil) (.node (Pre.o_56 P) .nil .nil))) (.node (Pre.o_45 P) (.node (Pre.o_12 P) (.node (Pre.o_32 P) (.node (Pre.o_68 P) .nil .nil) .nil) (.node (Pre.o_52 P) .nil .nil)) (.node (Pre.o_20 P) (.node (Pre.o_40 P) (.node (oi 0) .nil .nil) .nil) (.node (Pre.o_60 P) .nil .nil)))) (.node (PySem.W.boot_o_6 P) (.node (PySem.W.boot_o_10 P) (.node (Pre.o_10 P) (.node (Pre.o_26 P) (.node (Pre.o_66 P) .nil .nil) .nil) (.node (Pre.o_50 P) .nil .nil)) (.node (Pre.o_18 P) (.node (Pre.o_38 P) (.node (ls 0) .nil .nil) .nil) (.node (Pre.o_58 P) .nil .nil))) (.node (Pre.o_4 P) (.node (Pre.o_14 P) (.node (Pre.o_34 P) (.node (Pre.o_70 P) .nil .nil) .nil) (.node (Pre.o_54 P) .nil .nil)) (.node (Pre.o_22 P) (.node (Pre.o_42 P) .nil .nil) (.node (Pre.o_62 P) .nil .nil))))))
noncomputable def B1 (P : Params) : BT := (.node (PySem.W.boot_o_0 P) (.node (PySem.W.boot_o_1 P) (.node (Pre.o_44 P) (.node (PySem.W.boot_o_7 P) (.node (Pre.o_7 P) (.node (Pre.o_46 P) (.node (Pre.o_63 P) (.node tup0 .nil .nil) .nil) (.node tup0 .nil .nil)) (.node (Pre.o_47 P) (.node tup0 .nil .nil) (.node tup0 .nil .nil))) (.node (Pre.o_15 P) (.node (Pre.o_35 P) (.node (Pre.o_71 P) (.node tup0 .nil .nil) .nil) (.node tup0 .nil .nil)) (.node (Pre.o_55 P) (.node tup0 .nil .nil) (.node tup0 .nil .nil)))) (.node (Pre.o_1 P) (.node (Pre.o_11 P) (.node (Pre.o_31 P) (.node (Pre.o_67 P) (.node tup0 .nil .nil) .nil) (.node tup0 .nil .nil)) (.node (Pre.o_51 P) (.node tup0 .nil .nil) (.node tup0 .nil .nil))) (.node (Pre.o_19 P) (.node (Pre.o_39 P) (.node r256 (.node tup0 .nil .nil) .nil) (.node tup0 .nil .nil)) (.node (Pre.o_59 P) (.node tup0 .nil .nil) (.node tup0 .nil .nil))))) (.node (PySem.W.boot_o_5 P) (.node (PySem.W.boot_o_9 P) (.node (Pre.o_9 P) (.node (Pre.o_25 P) (.node (Pre.o_65 P) (.node (rg 1120) .nil .nil) .nil) (.node (rg 599) .nil .nil)) (.node (Pre.o_49 P) (.node (rg 342) .nil .nil) (.node (rg 859) .nil .nil))) (.node (Pre.o_17 P) (.node (Pre.o_37 P) (.node (lc P 16) (.node (rg 1252) .nil .nil) .nil) (.node (rg 729) .nil .nil)) (.node (Pre.o_57 P) (.node (rg 470) .nil .nil) (.node (rg 989) .nil .nil)))) (.node (Pre.o_3 P) (.node (Pre.o_13 P) (.node (Pre.o_33 P) (.node (Pre.o_69 P) (.node (rg 1186) .nil .nil) .nil) (.node (rg 664) .nil .nil)) (.node (Pre.o_53 P) (.node (rg 406) .nil .nil) (.node (rg 924) .nil .nil))) (.node (Pre.o_21 P) (.node (Pre.o_41 P) (.node (rg 280) .nil .nil) (.node (rg 796) .nil .nil)) (.node (Pre.o_61 P) (.node (rg 536) .nil .nil) (.node (rg 1056) .nil .nil)))))) (.node (PySem.W.boot_o_2 P) (.node (PySem.W.boot_o_4 P) (.node (PySem.W.boot_o_8 P) (.node (Pre.o_8 P) (.node (Pre.o_24 P) (.node (Pre.o_64 P) (.node (se 127) .nil .nil) .nil) (.node (se 95) .nil .nil)) (.node (Pre.o_48 P) (.node (se 79) .nil .nil) (.node (se 111) .nil .nil))) (.node (Pre.o_16 P) (.node (Pre.o_36 P) (.node (Pre.o_72 P) (.node (se 135) .nil .nil) .nil) (.node (se 103) .nil .nil)) (.node (Pre.o_56 P) (.node (se 87) .nil .nil) (.node (se 119) .nil .nil)))) (.node (Pre.o_45 P) (.node (Pre.o_12 P) (.node (Pre.o_32 P) (.node (Pre.o_68 P) (.node (se 131) .nil .nil) .nil) (.node (se 99) .nil .nil)) (.node (Pre.o_52 P) (.node (se 83) .nil .nil) (.node (se 115) .nil .nil))) (.node (Pre.o_20 P) (.node (Pre.o_40 P) (.node (oi 16) (.node (se 139) .nil .nil) .nil) (.node (se 107) .nil .nil)) (.node (Pre.o_60 P) (.node (se 91) .nil .nil) (.node (se 123) .nil .nil))))) (.node (PySem.W.boot_o_6 P) (.node (PySem.W.boot_o_10 P) (.node (Pre.o_10 P) (.node (Pre.o_26 P) (.node (Pre.o_66 P) (.node ri .nil .nil) .nil) (.node ri .nil .nil)) (.node (Pre.o_50 P) (.node ri .nil .nil) (.node ri .nil .nil))) (.node (Pre.o_18 P) (.node (Pre.o_38 P) (.node (ls 16) (.node ri .nil .nil) .nil) (.node ri .nil .nil)) (.node (Pre.o_58 P) (.node ri .nil .nil) (.node ri .nil .nil)))) (.node (Pre.o_4 P) (.node (Pre.o_14 P) (.node (Pre.o_34 P) (.node (Pre.o_70 P) (.node ri .nil .nil) .nil) (.node ri .nil .nil)) (.node (Pre.o_54 P) (.node ri .nil .nil) (.node ri .nil .nil))) (.node (Pre.o_22 P) (.node (Pre.o_42 P) (.node ri .nil .nil) (.node ri .nil .nil)) (.node (Pre.o_62 P) (.node ri .nil .nil) (.node ri .nil .nil)))))))
noncomputable def B2 (P : Params) : BT := (.node (PySem.W.boot_o_0 P) (.node (PySem.W.boot_o_1 P) (.node (Pre.o_44 P) (.node (PySem.W.boot_o_7 P) (.node (Pre.o_7 P) (.node (Pre.o_46 P) (.node (Pre.o_63 P) (.node tup0 .nil .nil) (.node tup0 .nil .nil)) (.node tup0 (.node tup0 .nil .nil) .nil)) (.node (Pre.o_47 P) (.node tup0 (.node tup0 .nil .nil) .nil) (.node tup0 (.node tup0 .nil .nil) .nil))) (.node (Pre.o_15 P) (.node (Pre.o_35 P) (.node (Pre.o_71 P) (.node tup0 .nil .nil) (.node tup0 .nil .nil)) (.node tup0 (.node tup0 .nil .nil) .nil)) (.node (Pre.o_55 P) (.node tup0 (.node tup0 .nil .nil) .nil) (.node tup0 (.node tup0 .nil .nil) .nil)))) (.node (Pre.o_1 P) (.node (Pre.o_11 P) (.node (Pre.o_31 P) (.node (Pre.o_67 P) (.node tup0 .nil .nil) (.node tup0 .nil .nil)) (.node tup0 (.node tup0 .nil .nil) .nil)) (.node (Pre.o_51 P) (.node tup0 (.node tup0 .nil .nil) .nil) (.node tup0 (.node tup0 .nil .nil) .nil))) (.node (Pre.o_19 P) (.node (Pre.o_39 P) (.node r256 (.node tup0 .nil .nil) (.node tup0 .nil .nil)) (.node tup0 (.node tup0 .nil .nil) .nil)) (.node (Pre.o_59 P) (.node tup0 (.node tup0 .nil .nil) .nil) (.node tup0 (.node tup0 .nil .nil) .nil))))) (.node (PySem.W.boot_o_5 P) (.node (PySem.W.boot_o_9 P) (.node (Pre.o_9 P) (.node (Pre.o_25 P) (.node (Pre.o_65 P) (.node (rg 1120) .nil .nil) (.node (rg 2173) .nil .nil)) (.node (rg 599) (.node (rg 1644) .nil .nil) .nil)) (.node (Pre.o_49 P) (.node (rg 342) (.node (rg 1383) .nil .nil) .nil) (.node (rg 859) (.node (rg 1908) .nil .nil) .nil))) (.node (Pre.o_17 P) (.node (Pre.o_37 P) (.node (lc P 32) (.node (rg 1252) .nil .nil) (.node (rg 2307) .nil .nil)) (.node (rg 729) (.node (rg 1776) .nil .nil) .nil)) (.node (Pre.o_57 P) (.node (rg 470) (.node (rg 1513) .nil .nil) .nil) (.node (rg 989) (.node (rg 2040) .nil .nil) .nil)))) (.node (Pre.o_3 P) (.node (Pre.o_13 P) (.node (Pre.o_33 P) (.node (Pre.o_69 P) (.node (rg 1186) .nil .nil) (.node (rg 2240) .nil .nil)) (.node (rg 664) (.node (rg 1710) .nil .nil) .nil)) (.node (Pre.o_53 P) (.node (rg 406) (.node (rg 1448) .nil .nil) .nil) (.node (rg 924) (.node (rg 1974) .nil .nil) .nil))) (.node (Pre.o_21 P) (.node (Pre.o_41 P) (.node (rg 280) (.node (rg 1320) .nil .nil) .nil) (.node (rg 796) (.node (rg 1844) .nil .nil) .nil)) (.node (Pre.o_61 P) (.node (rg 536) (.node (rg 1580) .nil .nil) .nil) (.node (rg 1056) (.node (rg 2108) .nil .nil) .nil)))))) (.node (PySem.W.boot_o_2 P) (.node (PySem.W.boot_o_4 P) (.node (PySem.W.boot_o_8 P) (.node (Pre.o_8 P) (.node (Pre.o_24 P) (.node (Pre.o_64 P) (.node (se 127) .nil .nil) (.node (se 191) .nil .nil)) (.node (se 95) (.node (se 159) .nil .nil) .nil)) (.node (Pre.o_48 P) (.node (se 79) (.node (se 143) .nil .nil) .nil) (.node (se 111) (.node (se 175) .nil .nil) .nil))) (.node (Pre.o_16 P) (.node (Pre.o_36 P) (.node (Pre.o_72 P) (.node (se 135) .nil .nil) (.node (se 199) .nil .nil)) (.node (se 103) (.node (se 167) .nil .nil) .nil)) (.node (Pre.o_56 P) (.node (se 87) (.node (se 151) .nil .nil) .nil) (.node (se 119) (.node (se 183) .nil .nil) .nil)))) (.node (Pre.o_45 P) (.node (Pre.o_12 P) (.node (Pre.o_32 P) (.node (Pre.o_68 P) (.node (se 131) .nil .nil) (.node (se 195) .nil .nil)) (.node (se 99) (.node (se 163) .nil .nil) .nil)) (.node (Pre.o_52 P) (.node (se 83) (.node (se 147) .nil .nil) .nil) (.node (se 115) (.node (se 179) .nil .nil) .nil))) (.node (Pre.o_20 P) (.node (Pre.o_40 P) (.node (oi 32) (.node (se 139) .nil .nil) (.node (se 203) .nil .nil)) (.node (se 107) (.node (se 171) .nil .nil) .nil)) (.node (Pre.o_60 P) (.node (se 91) (.node (se 155) .nil .nil) .nil) (.node (se 123) (.node (se 187) .nil .nil) .nil))))) (.node (PySem.W.boot_o_6 P) (.node (PySem.W.boot_o_10 P) (.node (Pre.o_10 P) (.node (Pre.o_26 P) (.node (Pre.o_66 P) (.node ri .nil .nil) (.node ri .nil .nil)) (.node ri (.node ri .nil .nil) .nil)) (.node (Pre.o_50 P) (.node ri (.node ri .nil .nil) .nil) (.node ri (.node ri .nil .nil) .nil))) (.node (Pre.o_18 P) (.node (Pre.o_38 P) (.node (ls 32) (.node ri .nil .nil) (.node ri .nil .nil)) (.node ri (.node ri .nil .nil) .nil)) (.node (Pre.o_58 P) (.node ri (.node ri .nil .nil) .nil) (.node ri (.node ri .nil .nil) .nil)))) (.node (Pre.o_4 P) (.node (Pre.o_14 P) (.node (Pre.o_34 P) (.node (Pre.o_70 P) (.node ri .nil .nil) (.node ri .nil .nil)) (.node ri (.node ri .nil .nil) .nil)) (.node (Pre.o_54 P) (.node ri (.node ri .nil .nil) .nil) (.node ri (.node ri .nil .nil) .nil))) (.node (Pre.o_22 P) (.node (Pre.o_42 P) (.node ri (.node ri .nil .nil) .nil) (.node ri (.node ri .nil .nil) .nil)) (.node (Pre.o_62 P) (.node ri (.node ri .nil .nil) .nil) (.node ri (.node ri .nil .nil) .nil)))))))
noncomputable def B3 (P : Params) : BT := (.node (PySem.W.boot_o_0 P) (.node (PySem.W.boot_o_1 P) (.node (Pre.o_44 P) (.node (PySem.W.boot_o_7 P) (.node (Pre.o_7 P) (.node (Pre.o_46 P) (.node (Pre.o_63 P) (.node tup0 (.node tup0 .nil .nil) .nil) (.node tup0 .nil .nil)) (.node tup0 (.node tup0 .nil .nil) (.node tup0 .nil .nil))) (.node (Pre.o_47 P) (.node tup0 (.node tup0 .nil .nil) (.node tup0 .nil .nil)) (.node tup0 (.node tup0 .nil .nil) (.node tup0 .nil .nil)))) (.node (Pre.o_15 P) (.node (Pre.o_35 P) (.node (Pre.o_71 P) (.node tup0 (.node tup0 .nil .nil) .nil) (.node tup0 .nil .nil)) (.node tup0 (.node tup0 .nil .nil) (.node tup0 .nil .nil))) (.node (Pre.o_55 P) (.node tup0 (.node tup0 .nil .nil) (.node tup0 .nil .nil)) (.node tup0 (.node tup0 .nil .nil) (.node tup0 .nil .nil))))) (.node (Pre.o_1 P) (.node (Pre.o_11 P) (.node (Pre.o_31 P) (.node (Pre.o_67 P) (.node tup0 (.node tup0 .nil .nil) .nil) (.node tup0 .nil .nil)) (.node tup0 (.node tup0 .nil .nil) (.node tup0 .nil .nil))) (.node (Pre.o_51 P) (.node tup0 (.node tup0 .nil .nil) (.node tup0 .nil .nil)) (.node tup0 (.node tup0 .nil .nil) (.node tup0 .nil .nil)))) (.node (Pre.o_19 P) (.node (Pre.o_39 P) (.node r256 (.node tup0 (.node tup0 .nil .nil) .nil) (.node tup0 .nil .nil)) (.node tup0 (.node tup0 .nil .nil) (.node tup0 .nil .nil))) (.node (Pre.o_59 P) (.node tup0 (.node tup0 .nil .nil) (.node tup0 .nil .nil)) (.node tup0 (.node tup0 .nil .nil) (.node tup0 .nil .nil)))))) (.node (PySem.W.boot_o_5 P) (.node (PySem.W.boot_o_9 P) (.node (Pre.o_9 P) (.node (Pre.o_25 P) (.node (Pre.o_65 P) (.node (rg 1120) (.node (rg 3229) .nil .nil) .nil) (.node (rg 2173) .nil .nil)) (.node (rg 599) (.node (rg 1644) .nil .nil) (.node (rg 2700) .nil .nil))) (.node (Pre.o_49 P) (.node (rg 342) (.node (rg 1383) .nil .nil) (.node (rg 2439) .nil .nil)) (.node (rg 859) (.node (rg 1908) .nil .nil) (.node (rg 2964) .nil .nil)))) (.node (Pre.o_17 P) (.node (Pre.o_37 P) (.node (lc P 48) (.node (rg 1252) (.node (rg 3363) .nil .nil) .nil) (.node (rg 2307) .nil .nil)) (.node (rg 729) (.node (rg 1776) .nil .nil) (.node (rg 2832) .nil .nil))) (.node (Pre.o_57 P) (.node (rg 470) (.node (rg 1513) .nil .nil) (.node (rg 2569) .nil .nil)) (.node (rg 989) (.node (rg 2040) .nil .nil) (.node (rg 3096) .nil .nil))))) (.node (Pre.o_3 P) (.node (Pre.o_13 P) (.node (Pre.o_33 P) (.node (Pre.o_69 P) (.node (rg 1186) (.node (rg 3296) .nil .nil) .nil) (.node (rg 2240) .nil .nil)) (.node (rg 664) (.node (rg 1710) .nil .nil) (.node (rg 2766) .nil .nil))) (.node (Pre.o_53 P) (.node (rg 406) (.node (rg 1448) .nil .nil) (.node (rg 2504) .nil .nil)) (.node (rg 924) (.node (rg 1974) .nil .nil) (.node (rg 3030) .nil .nil)))) (.node (Pre.o_21 P) (.node (Pre.o_41 P) (.node (rg 280) (.node (rg 1320) .nil .nil) (.node (rg 2376) .nil .nil)) (.node (rg 796) (.node (rg 1844) .nil .nil) (.node (rg 2900) .nil .nil))) (.node (Pre.o_61 P) (.node (rg 536) (.node (rg 1580) .nil .nil) (.node (rg 2636) .nil .nil)) (.node (rg 1056) (.node (rg 2108) .nil .nil) (.node (rg 3164) .nil .nil))))))) (.node (PySem.W.boot_o_2 P) (.node (PySem.W.boot_o_4 P) (.node (PySem.W.boot_o_8 P) (.node (Pre.o_8 P) (.node (Pre.o_24 P) (.node (Pre.o_64 P) (.node (se 127) (.node (se 255) .nil .nil) .nil) (.node (se 191) .nil .nil)) (.node (se 95) (.node (se 159) .nil .nil) (.node (se 223) .nil .nil))) (.node (Pre.o_48 P) (.node (se 79) (.node (se 143) .nil .nil) (.node (se 207) .nil .nil)) (.node (se 111) (.node (se 175) .nil .nil) (.node (se 239) .nil .nil)))) (.node (Pre.o_16 P) (.node (Pre.o_36 P) (.node (Pre.o_72 P) (.node (se 135) (.node (se 263) .nil .nil) .nil) (.node (se 199) .nil .nil)) (.node (se 103) (.node (se 167) .nil .nil) (.node (se 231) .nil .nil))) (.node (Pre.o_56 P) (.node (se 87) (.node (se 151) .nil .nil) (.node (se 215) .nil .nil)) (.node (se 119) (.node (se 183) .nil .nil) (.node (se 247) .nil .nil))))) (.node (Pre.o_45 P) (.node (Pre.o_12 P) (.node (Pre.o_32 P) (.node (Pre.o_68 P) (.node (se 131) (.node (se 259) .nil .nil) .nil) (.node (se 195) .nil .nil)) (.node (se 99) (.node (se 163) .nil .nil) (.node (se 227) .nil .nil))) (.node (Pre.o_52 P) (.node (se 83) (.node (se 147) .nil .nil) (.node (se 211) .nil .nil)) (.node (se 115) (.node (se 179) .nil .nil) (.node (se 243) .nil .nil)))) (.node (Pre.o_20 P) (.node (Pre.o_40 P) (.node (oi 48) (.node (se 139) (.node (se 267) .nil .nil) .nil) (.node (se 203) .nil .nil)) (.node (se 107) (.node (se 171) .nil .nil) (.node (se 235) .nil .nil))) (.node (Pre.o_60 P) (.node (se 91) (.node (se 155) .nil .nil) (.node (se 219) .nil .nil)) (.node (se 123) (.node (se 187) .nil .nil) (.node (se 251) .nil .nil)))))) (.node (PySem.W.boot_o_6 P) (.node (PySem.W.boot_o_10 P) (.node (Pre.o_10 P) (.node (Pre.o_26 P) (.node (Pre.o_66 P) (.node ri (.node ri .nil .nil) .nil) (.node ri .nil .nil)) (.node ri (.node ri .nil .nil) (.node ri .nil .nil))) (.node (Pre.o_50 P) (.node ri (.node ri .nil .nil) (.node ri .nil .nil)) (.node ri (.node ri .nil .nil) (.node ri .nil .nil)))) (.node (Pre.o_18 P) (.node (Pre.o_38 P) (.node (ls 48) (.node ri (.node ri .nil .nil) .nil) (.node ri .nil .nil)) (.node ri (.node ri .nil .nil) (.node ri .nil .nil))) (.node (Pre.o_58 P) (.node ri (.node ri .nil .nil) (.node ri .nil .nil)) (.node ri (.node ri .nil .nil) (.node ri .nil .nil))))) (.node (Pre.o_4 P) (.node (Pre.o_14 P) (.node (Pre.o_34 P) (.node (Pre.o_70 P) (.node ri (.node ri .nil .nil) .nil) (.node ri .nil .nil)) (.node ri (.node ri .nil .nil) (.node ri .nil .nil))) (.node (Pre.o_54 P) (.node ri (.node ri .nil .nil) (.node ri .nil .nil)) (.node ri (.node ri .nil .nil) (.node ri .nil .nil)))) (.node (Pre.o_22 P) (.node (Pre.o_42 P) (.node ri (.node ri .nil .nil) (.node ri .nil .nil)) (.node ri (.node ri .nil .nil) (.node ri .nil .nil))) (.node (Pre.o_62 P) (.node ri (.node ri .nil .nil) (.node ri .nil .nil)) (.node ri (.node ri .nil .nil) (.node ri .nil .nil))))))))
noncomputable def B4 (P : Params) : BT := (.node (PySem.W.boot_o_0 P) (.node (PySem.W.boot_o_1 P) (.node (Pre.o_44 P) (.node (PySem.W.boot_o_7 P) (.node (Pre.o_7 P) (.node (Pre.o_46 P) (.node (Pre.o_63 P) (.node tup0 (.node tup0 .nil .nil) .nil) (.node tup0 (.node tup0 .nil .nil) .nil)) (.node tup0 (.node tup0 (.node tup0 .nil .nil) .nil) (.node tup0 .nil .nil))) (.node (Pre.o_47 P) (.node tup0 (.node tup0 (.node tup0 .nil .nil) .nil) (.node tup0 .nil .nil)) (.node tup0 (.node tup0 (.node tup0 .nil .nil) .nil) (.node tup0 .nil .nil)))) (.node (Pre.o_15 P) (.node (Pre.o_35 P) (.node (Pre.o_71 P) (.node tup0 (.node tup0 .nil .nil) .nil) (.node tup0 (.node tup0 .nil .nil) .nil)) (.node tup0 (.node tup0 (.node tup0 .nil .nil) .nil) (.node tup0 .nil .nil))) (.node (Pre.o_55 P) (.node tup0 (.node tup0 (.node tup0 .nil .nil) .nil) (.node tup0 .nil .nil)) (.node tup0 (.node tup0 (.node tup0 .nil .nil) .nil) (.node tup0 .nil .nil))))) (.node (Pre.o_1 P) (.node (Pre.o_11 P) (.node (Pre.o_31 P) (.node (Pre.o_67 P) (.node tup0 (.node tup0 .nil .nil) .nil) (.node tup0 (.node tup0 .nil .nil) .nil)) (.node tup0 (.node tup0 (.node tup0 .nil .nil) .nil) (.node tup0 .nil .nil))) (.node (Pre.o_51 P) (.node tup0 (.node tup0 (.node tup0 .nil .nil) .nil) (.node tup0 .nil .nil)) (.node tup0 (.node tup0 (.node tup0 .nil .nil) .nil) (.node tup0 .nil .nil)))) (.node (Pre.o_19 P) (.node (Pre.o_39 P) (.node r256 (.node tup0 (.node tup0 .nil .nil) .nil) (.node tup0 (.node tup0 .nil .nil) .nil)) (.node tup0 (.node tup0 (.node tup0 .nil .nil) .nil) (.node tup0 .nil .nil))) (.node (Pre.o_59 P) (.node tup0 (.node tup0 (.node tup0 .nil .nil) .nil) (.node tup0 .nil .nil)) (.node tup0 (.node tup0 (.node tup0 .nil .nil) .nil) (.node tup0 .nil .nil)))))) (.node (PySem.W.boot_o_5 P) (.node (PySem.W.boot_o_9 P) (.node (Pre.o_9 P) (.node (Pre.o_25 P) (.node (Pre.o_65 P) (.node (rg 1120) (.node (rg 3229) .nil .nil) .nil) (.node (rg 2173) (.node (rg 4298) .nil .nil) .nil)) (.node (rg 599) (.node (rg 1644) (.node (rg 3761) .nil .nil) .nil) (.node (rg 2700) .nil .nil))) (.node (Pre.o_49 P) (.node (rg 342) (.node (rg 1383) (.node (rg 3496) .nil .nil) .nil) (.node (rg 2439) .nil .nil)) (.node (rg 859) (.node (rg 1908) (.node (rg 4029) .nil .nil) .nil) (.node (rg 2964) .nil .nil)))) (.node (Pre.o_17 P) (.node (Pre.o_37 P) (.node (lc P 64) (.node (rg 1252) (.node (rg 3363) .nil .nil) .nil) (.node (rg 2307) (.node (rg 4434) .nil .nil) .nil)) (.node (rg 729) (.node (rg 1776) (.node (rg 3895) .nil .nil) .nil) (.node (rg 2832) .nil .nil))) (.node (Pre.o_57 P) (.node (rg 470) (.node (rg 1513) (.node (rg 3628) .nil .nil) .nil) (.node (rg 2569) .nil .nil)) (.node (rg 989) (.node (rg 2040) (.node (rg 4163) .nil .nil) .nil) (.node (rg 3096) .nil .nil))))) (.node (Pre.o_3 P) (.node (Pre.o_13 P) (.node (Pre.o_33 P) (.node (Pre.o_69 P) (.node (rg 1186) (.node (rg 3296) .nil .nil) .nil) (.node (rg 2240) (.node (rg 4366) .nil .nil) .nil)) (.node (rg 664) (.node (rg 1710) (.node (rg 3828) .nil .nil) .nil) (.node (rg 2766) .nil .nil))) (.node (Pre.o_53 P) (.node (rg 406) (.node (rg 1448) (.node (rg 3562) .nil .nil) .nil) (.node (rg 2504) .nil .nil)) (.node (rg 924) (.node (rg 1974) (.node (rg 4096) .nil .nil) .nil) (.node (rg 3030) .nil .nil)))) (.node (Pre.o_21 P) (.node (Pre.o_41 P) (.node (rg 280) (.node (rg 1320) (.node (rg 3432) .nil .nil) .nil) (.node (rg 2376) .nil .nil)) (.node (rg 796) (.node (rg 1844) (.node (rg 3964) .nil .nil) .nil) (.node (rg 2900) .nil .nil))) (.node (Pre.o_61 P) (.node (rg 536) (.node (rg 1580) (.node (rg 3696) .nil .nil) .nil) (.node (rg 2636) .nil .nil)) (.node (rg 1056) (.node (rg 2108) (.node (rg 4232) .nil .nil) .nil) (.node (rg 3164) .nil .nil))))))) (.node (PySem.W.boot_o_2 P) (.node (PySem.W.boot_o_4 P) (.node (PySem.W.boot_o_8 P) (.node (Pre.o_8 P) (.node (Pre.o_24 P) (.node (Pre.o_64 P) (.node (se 127) (.node (se 255) .nil .nil) .nil) (.node (se 191) (.node (se 319) .nil .nil) .nil)) (.node (se 95) (.node (se 159) (.node (se 287) .nil .nil) .nil) (.node (se 223) .nil .nil))) (.node (Pre.o_48 P) (.node (se 79) (.node (se 143) (.node (se 271) .nil .nil) .nil) (.node (se 207) .nil .nil)) (.node (se 111) (.node (se 175) (.node (se 303) .nil .nil) .nil) (.node (se 239) .nil .nil)))) (.node (Pre.o_16 P) (.node (Pre.o_36 P) (.node (Pre.o_72 P) (.node (se 135) (.node (se 263) .nil .nil) .nil) (.node (se 199) (.node (se 327) .nil .nil) .nil)) (.node (se 103) (.node (se 167) (.node (se 295) .nil .nil) .nil) (.node (se 231) .nil .nil))) (.node (Pre.o_56 P) (.node (se 87) (.node (se 151) (.node (se 279) .nil .nil) .nil) (.node (se 215) .nil .nil)) (.node (se 119) (.node (se 183) (.node (se 311) .nil .nil) .nil) (.node (se 247) .nil .nil))))) (.node (Pre.o_45 P) (.node (Pre.o_12 P) (.node (Pre.o_32 P) (.node (Pre.o_68 P) (.node (se 131) (.node (se 259) .nil .nil) .nil) (.node (se 195) (.node (se 323) .nil .nil) .nil)) (.node (se 99) (.node (se 163) (.node (se 291) .nil .nil) .nil) (.node (se 227) .nil .nil))) (.node (Pre.o_52 P) (.node (se 83) (.node (se 147) (.node (se 275) .nil .nil) .nil) (.node (se 211) .nil .nil)) (.node (se 115) (.node (se 179) (.node (se 307) .nil .nil) .nil) (.node (se 243) .nil .nil)))) (.node (Pre.o_20 P) (.node (Pre.o_40 P) (.node (oi 64) (.node (se 139) (.node (se 267) .nil .nil) .nil) (.node (se 203) (.node (se 331) .nil .nil) .nil)) (.node (se 107) (.node (se 171) (.node (se 299) .nil .nil) .nil) (.node (se 235) .nil .nil))) (.node (Pre.o_60 P) (.node (se 91) (.node (se 155) (.node (se 283) .nil .nil) .nil) (.node (se 219) .nil .nil)) (.node (se 123) (.node (se 187) (.node (se 315) .nil .nil) .nil) (.node (se 251) .nil .nil)))))) (.node (PySem.W.boot_o_6 P) (.node (PySem.W.boot_o_10 P) (.node (Pre.o_10 P) (.node (Pre.o_26 P) (.node (Pre.o_66 P) (.node ri (.node ri .nil .nil) .nil) (.node ri (.node ri .nil .nil) .nil)) (.node ri (.node ri (.node ri .nil .nil) .nil) (.node ri .nil .nil))) (.node (Pre.o_50 P) (.node ri (.node ri (.node ri .nil .nil) .nil) (.node ri .nil .nil)) (.node ri (.node ri (.node ri .nil .nil) .nil) (.node ri .nil .nil)))) (.node (Pre.o_18 P) (.node (Pre.o_38 P) (.node (ls 64) (.node ri (.node ri .nil .nil) .nil) (.node ri (.node ri .nil .nil) .nil)) (.node ri (.node ri (.node ri .nil .nil) .nil) (.node ri .nil .nil))) (.node (Pre.o_58 P) (.node ri (.node ri (.node ri .nil .nil) .nil) (.node ri .nil .nil)) (.node ri (.node ri (.node ri .nil .nil) .nil) (.node ri .nil .nil))))) (.node (Pre.o_4 P) (.node (Pre.o_14 P) (.node (Pre.o_34 P) (.node (Pre.o_70 P) (.node ri (.node ri .nil .nil) .nil) (.node ri (.node ri .nil .nil) .nil)) (.node ri (.node ri (.node ri .nil .nil) .nil) (.node ri .nil .nil))) (.node (Pre.o_54 P) (.node ri (.node ri (.node ri .nil .nil) .nil) (.node ri .nil .nil)) (.node ri (.node ri (.node ri .nil .nil) .nil) (.node ri .nil .nil)))) (.node (Pre.o_22 P) (.node (Pre.o_42 P) (.node ri (.node ri (.node ri .nil .nil) .nil) (.node ri .nil .nil)) (.node ri (.node ri (.node ri .nil .nil) .nil) (.node ri .nil .nil))) (.node (Pre.o_62 P) (.node ri (.node ri (.node ri .nil .nil) .nil) (.node ri .nil .nil)) (.node ri (.node ri (.node ri .nil .nil) .nil) (.node ri .nil .nil))))))))
noncomputable def B5 (P : Params) : BT := (.node (PySem.W.boot_o_0 P) (.node (PySem.W.boot_o_1 P) (.node (Pre.o_44 P) (.node (PySem.W.boot_o_7 P) (.node (Pre.o_7 P) (.node (Pre.o_46 P) (.node (Pre.o_63 P) (.node tup0 (.node tup0 .nil .nil) (.node tup0 .nil .nil)) (.node tup0 (.node tup0 .nil .nil) .nil)) (.node tup0 (.node tup0 (.node tup0 .nil .nil) .nil) (.node tup0 (.node tup0 .nil .nil) .nil))) (.node (Pre.o_47 P) (.node tup0 (.node tup0 (.node tup0 .nil .nil) .nil) (.node tup0 (.node tup0 .nil .nil) .nil)) (.node tup0 (.node tup0 (.node tup0 .nil .nil) .nil) (.node tup0 (.node tup0 .nil .nil) .nil)))) (.node (Pre.o_15 P) (.node (Pre.o_35 P) (.node (Pre.o_71 P) (.node tup0 (.node tup0 .nil .nil) (.node tup0 .nil .nil)) (.node tup0 (.node tup0 .nil .nil) .nil)) (.node tup0 (.node tup0 (.node tup0 .nil .nil) .nil) (.node tup0 (.node tup0 .nil .nil) .nil))) (.node (Pre.o_55 P) (.node tup0 (.node tup0 (.node tup0 .nil .nil) .nil) (.node tup0 (.node tup0 .nil .nil) .nil)) (.node tup0 (.node tup0 (.node tup0 .nil .nil) .nil) (.node tup0 (.node tup0 .nil .nil) .nil))))) (.node (Pre.o_1 P) (.node (Pre.o_11 P) (.node (Pre.o_31 P) (.node (Pre.o_67 P) (.node tup0 (.node tup0 .nil .nil) (.node tup0 .nil .nil)) (.node tup0 (.node tup0 .nil .nil) .nil)) (.node tup0 (.node tup0 (.node tup0 .nil .nil) .nil) (.node tup0 (.node tup0 .nil .nil) .nil))) (.node (Pre.o_51 P) (.node tup0 (.node tup0 (.node tup0 .nil .nil) .nil) (.node tup0 (.node tup0 .nil .nil) .nil)) (.node tup0 (.node tup0 (.node tup0 .nil .nil) .nil) (.node tup0 (.node tup0 .nil .nil) .nil)))) (.node (Pre.o_19 P) (.node (Pre.o_39 P) (.node r256 (.node tup0 (.node tup0 .nil .nil) (.node tup0 .nil .nil)) (.node tup0 (.node tup0 .nil .nil) .nil)) (.node tup0 (.node tup0 (.node tup0 .nil .nil) .nil) (.node tup0 (.node tup0 .nil .nil) .nil))) (.node (Pre.o_59 P) (.node tup0 (.node tup0 (.node tup0 .nil .nil) .nil) (.node tup0 (.node tup0 .nil .nil) .nil)) (.node tup0 (.node tup0 (.node tup0 .nil .nil) .nil) (.node tup0 (.node tup0 .nil .nil) .nil)))))) (.node (PySem.W.boot_o_5 P) (.node (PySem.W.boot_o_9 P) (.node (Pre.o_9 P) (.node (Pre.o_25 P) (.node (Pre.o_65 P) (.node (rg 1120) (.node (rg 3229) .nil .nil) (.node (rg 5345) .nil .nil)) (.node (rg 2173) (.node (rg 4298) .nil .nil) .nil)) (.node (rg 599) (.node (rg 1644) (.node (rg 3761) .nil .nil) .nil) (.node (rg 2700) (.node (rg 4824) .nil .nil) .nil))) (.node (Pre.o_49 P) (.node (rg 342) (.node (rg 1383) (.node (rg 3496) .nil .nil) .nil) (.node (rg 2439) (.node (rg 4567) .nil .nil) .nil)) (.node (rg 859) (.node (rg 1908) (.node (rg 4029) .nil .nil) .nil) (.node (rg 2964) (.node (rg 5084) .nil .nil) .nil)))) (.node (Pre.o_17 P) (.node (Pre.o_37 P) (.node (lc P 80) (.node (rg 1252) (.node (rg 3363) .nil .nil) (.node (rg 5477) .nil .nil)) (.node (rg 2307) (.node (rg 4434) .nil .nil) .nil)) (.node (rg 729) (.node (rg 1776) (.node (rg 3895) .nil .nil) .nil) (.node (rg 2832) (.node (rg 4954) .nil .nil) .nil))) (.node (Pre.o_57 P) (.node (rg 470) (.node (rg 1513) (.node (rg 3628) .nil .nil) .nil) (.node (rg 2569) (.node (rg 4695) .nil .nil) .nil)) (.node (rg 989) (.node (rg 2040) (.node (rg 4163) .nil .nil) .nil) (.node (rg 3096) (.node (rg 5214) .nil .nil) .nil))))) (.node (Pre.o_3 P) (.node (Pre.o_13 P) (.node (Pre.o_33 P) (.node (Pre.o_69 P) (.node (rg 1186) (.node (rg 3296) .nil .nil) (.node (rg 5410) .nil .nil)) (.node (rg 2240) (.node (rg 4366) .nil .nil) .nil)) (.node (rg 664) (.node (rg 1710) (.node (rg 3828) .nil .nil) .nil) (.node (rg 2766) (.node (rg 4888) .nil .nil) .nil))) (.node (Pre.o_53 P) (.node (rg 406) (.node (rg 1448) (.node (rg 3562) .nil .nil) .nil) (.node (rg 2504) (.node (rg 4630) .nil .nil) .nil)) (.node (rg 924) (.node (rg 1974) (.node (rg 4096) .nil .nil) .nil) (.node (rg 3030) (.node (rg 5148) .nil .nil) .nil)))) (.node (Pre.o_21 P) (.node (Pre.o_41 P) (.node (rg 280) (.node (rg 1320) (.node (rg 3432) .nil .nil) .nil) (.node (rg 2376) (.node (rg 4504) .nil .nil) .nil)) (.node (rg 796) (.node (rg 1844) (.node (rg 3964) .nil .nil) .nil) (.node (rg 2900) (.node (rg 5020) .nil .nil) .nil))) (.node (Pre.o_61 P) (.node (rg 536) (.node (rg 1580) (.node (rg 3696) .nil .nil) .nil) (.node (rg 2636) (.node (rg 4760) .nil .nil) .nil)) (.node (rg 1056) (.node (rg 2108) (.node (rg 4232) .nil .nil) .nil) (.node (rg 3164) (.node (rg 5280) .nil .nil) .nil))))))) (.node (PySem.W.boot_o_2 P) (.node (PySem.W.boot_o_4 P) (.node (PySem.W.boot_o_8 P) (.node (Pre.o_8 P) (.node (Pre.o_24 P) (.node (Pre.o_64 P) (.node (se 127) (.node (se 255) .nil .nil) (.node (se 383) .nil .nil)) (.node (se 191) (.node (se 319) .nil .nil) .nil)) (.node (se 95) (.node (se 159) (.node (se 287) .nil .nil) .nil) (.node (se 223) (.node (se 351) .nil .nil) .nil))) (.node (Pre.o_48 P) (.node (se 79) (.node (se 143) (.node (se 271) .nil .nil) .nil) (.node (se 207) (.node (se 335) .nil .nil) .nil)) (.node (se 111) (.node (se 175) (.node (se 303) .nil .nil) .nil) (.node (se 239) (.node (se 367) .nil .nil) .nil)))) (.node (Pre.o_16 P) (.node (Pre.o_36 P) (.node (Pre.o_72 P) (.node (se 135) (.node (se 263) .nil .nil) (.node (se 391) .nil .nil)) (.node (se 199) (.node (se 327) .nil .nil) .nil)) (.node (se 103) (.node (se 167) (.node (se 295) .nil .nil) .nil) (.node (se 231) (.node (se 359) .nil .nil) .nil))) (.node (Pre.o_56 P) (.node (se 87) (.node (se 151) (.node (se 279) .nil .nil) .nil) (.node (se 215) (.node (se 343) .nil .nil) .nil)) (.node (se 119) (.node (se 183) (.node (se 311) .nil .nil) .nil) (.node (se 247) (.node (se 375) .nil .nil) .nil))))) (.node (Pre.o_45 P) (.node (Pre.o_12 P) (.node (Pre.o_32 P) (.node (Pre.o_68 P) (.node (se 131) (.node (se 259) .nil .nil) (.node (se 387) .nil .nil)) (.node (se 195) (.node (se 323) .nil .nil) .nil)) (.node (se 99) (.node (se 163) (.node (se 291) .nil .nil) .nil) (.node (se 227) (.node (se 355) .nil .nil) .nil))) (.node (Pre.o_52 P) (.node (se 83) (.node (se 147) (.node (se 275) .nil .nil) .nil) (.node (se 211) (.node (se 339) .nil .nil) .nil)) (.node (se 115) (.node (se 179) (.node (se 307) .nil .nil) .nil) (.node (se 243) (.node (se 371) .nil .nil) .nil)))) (.node (Pre.o_20 P) (.node (Pre.o_40 P) (.node (oi 80) (.node (se 139) (.node (se 267) .nil .nil) (.node (se 395) .nil .nil)) (.node (se 203) (.node (se 331) .nil .nil) .nil)) (.node (se 107) (.node (se 171) (.node (se 299) .nil .nil) .nil) (.node (se 235) (.node (se 363) .nil .nil) .nil))) (.node (Pre.o_60 P) (.node (se 91) (.node (se 155) (.node (se 283) .nil .nil) .nil) (.node (se 219) (.node (se 347) .nil .nil) .nil)) (.node (se 123) (.node (se 187) (.node (se 315) .nil .nil) .nil) (.node (se 251) (.node (se 379) .nil .nil) .nil)))))) (.node (PySem.W.boot_o_6 P) (.node (PySem.W.boot_o_10 P) (.node (Pre.o_10 P) (.node (Pre.o_26 P) (.node (Pre.o_66 P) (.node ri (.node ri .nil .nil) (.node ri .nil .nil)) (.node ri (.node ri .nil .nil) .nil)) (.node ri (.node ri (.node ri .nil .nil) .nil) (.node ri (.node ri .nil .nil) .nil))) (.node (Pre.o_50 P) (.node ri (.node ri (.node ri .nil .nil) .nil) (.node ri (.node ri .nil .nil) .nil)) (.node ri (.node ri (.node ri .nil .nil) .nil) (.node ri (.node ri .nil .nil) .nil)))) (.node (Pre.o_18 P) (.node (Pre.o_38 P) (.node (ls 80) (.node ri (.node ri .nil .nil) (.node ri .nil .nil)) (.node ri (.node ri .nil .nil) .nil)) (.node ri (.node ri (.node ri .nil .nil) .nil) (.node ri (.node ri .nil .nil) .nil))) (.node (Pre.o_58 P) (.node ri (.node ri (.node ri .nil .nil) .nil) (.node ri (.node ri .nil .nil) .nil)) (.node ri (.node ri (.node ri .nil .nil) .nil) (.node ri (.node ri .nil .nil) .nil))))) (.node (Pre.o_4 P) (.node (Pre.o_14 P) (.node (Pre.o_34 P) (.node (Pre.o_70 P) (.node ri (.node ri .nil .nil) (.node ri .nil .nil)) (.node ri (.node ri .nil .nil) .nil)) (.node ri (.node ri (.node ri .nil .nil) .nil) (.node ri (.node ri .nil .nil) .nil))) (.node (Pre.o_54 P) (.node ri (.node ri (.node ri .nil .nil) .nil) (.node ri (.node ri .nil .nil) .nil)) (.node ri (.node ri (.node ri .nil .nil) .nil) (.node ri (.node ri .nil .nil) .nil)))) (.node (Pre.o_22 P) (.node (Pre.o_42 P) (.node ri (.node ri (.node ri .nil .nil) .nil) (.node ri (.node ri .nil .nil) .nil)) (.node ri (.node ri (.node ri .nil .nil) .nil) (.node ri (.node ri .nil .nil) .nil))) (.node (Pre.o_62 P) (.node ri (.node ri (.node ri .nil .nil) .nil) (.node ri (.node ri .nil .nil) .nil)) (.node ri (.node ri (.node ri .nil .nil) .nil) (.node ri (.node ri .nil .nil) .nil))))))))
noncomputable def B6 (P : Params) : BT := (.node (PySem.W.boot_o_0 P) (.node (PySem.W.boot_o_1 P) (.node (Pre.o_44 P) (.node (PySem.W.boot_o_7 P) (.node (Pre.o_7 P) (.node (Pre.o_46 P) (.node (Pre.o_63 P) (.node tup0 (.node tup0 .nil .nil) (.node tup0 .nil .nil)) (.node tup0 (.node tup0 .nil .nil) (.node tup0 .nil .nil))) (.node tup0 (.node tup0 (.node tup0 .nil .nil) (.node tup0 .nil .nil)) (.node tup0 (.node tup0 .nil .nil) .nil))) (.node (Pre.o_47 P) (.node tup0 (.node tup0 (.node tup0 .nil .nil) (.node tup0 .nil .nil)) (.node tup0 (.node tup0 .nil .nil) .nil)) (.node tup0 (.node tup0 (.node tup0 .nil .nil) (.node tup0 .nil .nil)) (.node tup0 (.node tup0 .nil .nil) .nil)))) (.node (Pre.o_15 P) (.node (Pre.o_35 P) (.node (Pre.o_71 P) (.node tup0 (.node tup0 .nil .nil) (.node tup0 .nil .nil)) (.node tup0 (.node tup0 .nil .nil) (.node tup0 .nil .nil))) (.node tup0 (.node tup0 (.node tup0 .nil .nil) (.node tup0 .nil .nil)) (.node tup0 (.node tup0 .nil .nil) .nil))) (.node (Pre.o_55 P) (.node tup0 (.node tup0 (.node tup0 .nil .nil) (.node tup0 .nil .nil)) (.node tup0 (.node tup0 .nil .nil) .nil)) (.node tup0 (.node tup0 (.node tup0 .nil .nil) (.node tup0 .nil .nil)) (.node tup0 (.node tup0 .nil .nil) .nil))))) (.node (Pre.o_1 P) (.node (Pre.o_11 P) (.node (Pre.o_31 P) (.node (Pre.o_67 P) (.node tup0 (.node tup0 .nil .nil) (.node tup0 .nil .nil)) (.node tup0 (.node tup0 .nil .nil) (.node tup0 .nil .nil))) (.node tup0 (.node tup0 (.node tup0 .nil .nil) (.node tup0 .nil .nil)) (.node tup0 (.node tup0 .nil .nil) .nil))) (.node (Pre.o_51 P) (.node tup0 (.node tup0 (.node tup0 .nil .nil) (.node tup0 .nil .nil)) (.node tup0 (.node tup0 .nil .nil) .nil)) (.node tup0 (.node tup0 (.node tup0 .nil .nil) (.node tup0 .nil .nil)) (.node tup0 (.node tup0 .nil .nil) .nil)))) (.node (Pre.o_19 P) (.node (Pre.o_39 P) (.node r256 (.node tup0 (.node tup0 .nil .nil) (.node tup0 .nil .nil)) (.node tup0 (.node tup0 .nil .nil) (.node tup0 .nil .nil))) (.node tup0 (.node tup0 (.node tup0 .nil .nil) (.node tup0 .nil .nil)) (.node tup0 (.node tup0 .nil .nil) .nil))) (.node (Pre.o_59 P) (.node tup0 (.node tup0 (.node tup0 .nil .nil) (.node tup0 .nil .nil)) (.node tup0 (.node tup0 .nil .nil) .nil)) (.node tup0 (.node tup0 (.node tup0 .nil .nil) (.node tup0 .nil .nil)) (.node tup0 (.node tup0 .nil .nil) .nil)))))) (.node (PySem.W.boot_o_5 P) (.node (PySem.W.boot_o_9 P) (.node (Pre.o_9 P) (.node (Pre.o_25 P) (.node (Pre.o_65 P) (.node (rg 1120) (.node (rg 3229) .nil .nil) (.node (rg 5345) .nil .nil)) (.node (rg 2173) (.node (rg 4298) .nil .nil) (.node (rg 6398) .nil .nil))) (.node (rg 599) (.node (rg 1644) (.node (rg 3761) .nil .nil) (.node (rg 5869) .nil .nil)) (.node (rg 2700) (.node (rg 4824) .nil .nil) .nil))) (.node (Pre.o_49 P) (.node (rg 342) (.node (rg 1383) (.node (rg 3496) .nil .nil) (.node (rg 5608) .nil .nil)) (.node (rg 2439) (.node (rg 4567) .nil .nil) .nil)) (.node (rg 859) (.node (rg 1908) (.node (rg 4029) .nil .nil) (.node (rg 6133) .nil .nil)) (.node (rg 2964) (.node (rg 5084) .nil .nil) .nil)))) (.node (Pre.o_17 P) (.node (Pre.o_37 P) (.node (lc P 96) (.node (rg 1252) (.node (rg 3363) .nil .nil) (.node (rg 5477) .nil .nil)) (.node (rg 2307) (.node (rg 4434) .nil .nil) (.node (rg 6532) .nil .nil))) (.node (rg 729) (.node (rg 1776) (.node (rg 3895) .nil .nil) (.node (rg 6001) .nil .nil)) (.node (rg 2832) (.node (rg 4954) .nil .nil) .nil))) (.node (Pre.o_57 P) (.node (rg 470) (.node (rg 1513) (.node (rg 3628) .nil .nil) (.node (rg 5738) .nil .nil)) (.node (rg 2569) (.node (rg 4695) .nil .nil) .nil)) (.node (rg 989) (.node (rg 2040) (.node (rg 4163) .nil .nil) (.node (rg 6265) .nil .nil)) (.node (rg 3096) (.node (rg 5214) .nil .nil) .nil))))) (.node (Pre.o_3 P) (.node (Pre.o_13 P) (.node (Pre.o_33 P) (.node (Pre.o_69 P) (.node (rg 1186) (.node (rg 3296) .nil .nil) (.node (rg 5410) .nil .nil)) (.node (rg 2240) (.node (rg 4366) .nil .nil) (.node (rg 6464) .nil .nil))) (.node (rg 664) (.node (rg 1710) (.node (rg 3828) .nil .nil) (.node (rg 5934) .nil .nil)) (.node (rg 2766) (.node (rg 4888) .nil .nil) .nil))) (.node (Pre.o_53 P) (.node (rg 406) (.node (rg 1448) (.node (rg 3562) .nil .nil) (.node (rg 5672) .nil .nil)) (.node (rg 2504) (.node (rg 4630) .nil .nil) .nil)) (.node (rg 924) (.node (rg 1974) (.node (rg 4096) .nil .nil) (.node (rg 6198) .nil .nil)) (.node (rg 3030) (.node (rg 5148) .nil .nil) .nil)))) (.node (Pre.o_21 P) (.node (Pre.o_41 P) (.node (rg 280) (.node (rg 1320) (.node (rg 3432) .nil .nil) (.node (rg 5544) .nil .nil)) (.node (rg 2376) (.node (rg 4504) .nil .nil) .nil)) (.node (rg 796) (.node (rg 1844) (.node (rg 3964) .nil .nil) (.node (rg 6068) .nil .nil)) (.node (rg 2900) (.node (rg 5020) .nil .nil) .nil))) (.node (Pre.o_61 P) (.node (rg 536) (.node (rg 1580) (.node (rg 3696) .nil .nil) (.node (rg 5804) .nil .nil)) (.node (rg 2636) (.node (rg 4760) .nil .nil) .nil)) (.node (rg 1056) (.node (rg 2108) (.node (rg 4232) .nil .nil) (.node (rg 6332) .nil .nil)) (.node (rg 3164) (.node (rg 5280) .nil .nil) .nil))))))) (.node (PySem.W.boot_o_2 P) (.node (PySem.W.boot_o_4 P) (.node (PySem.W.boot_o_8 P) (.node (Pre.o_8 P) (.node (Pre.o_24 P) (.node (Pre.o_64 P) (.node (se 127) (.node (se 255) .nil .nil) (.node (se 383) .nil .nil)) (.node (se 191) (.node (se 319) .nil .nil) (.node (se 447) .nil .nil))) (.node (se 95) (.node (se 159) (.node (se 287) .nil .nil) (.node (se 415) .nil .nil)) (.node (se 223) (.node (se 351) .nil .nil) .nil))) (.node (Pre.o_48 P) (.node (se 79) (.node (se 143) (.node (se 271) .nil .nil) (.node (se 399) .nil .nil)) (.node (se 207) (.node (se 335) .nil .nil) .nil)) (.node (se 111) (.node (se 175) (.node (se 303) .nil .nil) (.node (se 431) .nil .nil)) (.node (se 239) (.node (se 367) .nil .nil) .nil)))) (.node (Pre.o_16 P) (.node (Pre.o_36 P) (.node (Pre.o_72 P) (.node (se 135) (.node (se 263) .nil .nil) (.node (se 391) .nil .nil)) (.node (se 199) (.node (se 327) .nil .nil) (.node (se 455) .nil .nil))) (.node (se 103) (.node (se 167) (.node (se 295) .nil .nil) (.node (se 423) .nil .nil)) (.node (se 231) (.node (se 359) .nil .nil) .nil))) (.node (Pre.o_56 P) (.node (se 87) (.node (se 151) (.node (se 279) .nil .nil) (.node (se 407) .nil .nil)) (.node (se 215) (.node (se 343) .nil .nil) .nil)) (.node (se 119) (.node (se 183) (.node (se 311) .nil .nil) (.node (se 439) .nil .nil)) (.node (se 247) (.node (se 375) .nil .nil) .nil))))) (.node (Pre.o_45 P) (.node (Pre.o_12 P) (.node (Pre.o_32 P) (.node (Pre.o_68 P) (.node (se 131) (.node (se 259) .nil .nil) (.node (se 387) .nil .nil)) (.node (se 195) (.node (se 323) .nil .nil) (.node (se 451) .nil .nil))) (.node (se 99) (.node (se 163) (.node (se 291) .nil .nil) (.node (se 419) .nil .nil)) (.node (se 227) (.node (se 355) .nil .nil) .nil))) (.node (Pre.o_52 P) (.node (se 83) (.node (se 147) (.node (se 275) .nil .nil) (.node (se 403) .nil .nil)) (.node (se 211) (.node (se 339) .nil .nil) .nil)) (.node (se 115) (.node (se 179) (.node (se 307) .nil .nil) (.node (se 435) .nil .nil)) (.node (se 243) (.node (se 371) .nil .nil) .nil)))) (.node (Pre.o_20 P) (.node (Pre.o_40 P) (.node (oi 96) (.node (se 139) (.node (se 267) .nil .nil) (.node (se 395) .nil .nil)) (.node (se 203) (.node (se 331) .nil .nil) (.node (se 459) .nil .nil))) (.node (se 107) (.node (se 171) (.node (se 299) .nil .nil) (.node (se 427) .nil .nil)) (.node (se 235) (.node (se 363) .nil .nil) .nil))) (.node (Pre.o_60 P) (.node (se 91) (.node (se 155) (.node (se 283) .nil .nil) (.node (se 411) .nil .nil)) (.node (se 219) (.node (se 347) .nil .nil) .nil)) (.node (se 123) (.node (se 187) (.node (se 315) .nil .nil) (.node (se 443) .nil .nil)) (.node (se 251) (.node (se 379) .nil .nil) .nil)))))) (.node (PySem.W.boot_o_6 P) (.node (PySem.W.boot_o_10 P) (.node (Pre.o_10 P) (.node (Pre.o_26 P) (.node (Pre.o_66 P) (.node ri (.node ri .nil .nil) (.node ri .nil .nil)) (.node ri (.node ri .nil .nil) (.node ri .nil .nil))) (.node ri (.node ri (.node ri .nil .nil) (.node ri .nil .nil)) (.node ri (.node ri .nil .nil) .nil))) (.node (Pre.o_50 P) (.node ri (.node ri (.node ri .nil .nil) (.node ri .nil .nil)) (.node ri (.node ri .nil .nil) .nil)) (.node ri (.node ri (.node ri .nil .nil) (.node ri .nil .nil)) (.node ri (.node ri .nil .nil) .nil)))) (.node (Pre.o_18 P) (.node (Pre.o_38 P) (.node (ls 96) (.node ri (.node ri .nil .nil) (.node ri .nil .nil)) (.node ri (.node ri .nil .nil) (.node ri .nil .nil))) (.node ri (.node ri (.node ri .nil .nil) (.node ri .nil .nil)) (.node ri (.node ri .nil .nil) .nil))) (.node (Pre.o_58 P) (.node ri (.node ri (.node ri .nil .nil) (.node ri .nil .nil)) (.node ri (.node ri .nil .nil) .nil)) (.node ri (.node ri (.node ri .nil .nil) (.node ri .nil .nil)) (.node ri (.node ri .nil .nil) .nil))))) (.node (Pre.o_4 P) (.node (Pre.o_14 P) (.node (Pre.o_34 P) (.node (Pre.o_70 P) (.node ri (.node ri .nil .nil) (.node ri .nil .nil)) (.node ri (.node ri .nil .nil) (.node ri .nil .nil))) (.node ri (.node ri (.node ri .nil .nil) (.node ri .nil .nil)) (.node ri (.node ri .nil .nil) .nil))) (.node (Pre.o_54 P) (.node ri (.node ri (.node ri .nil .nil) (.node ri .nil .nil)) (.node ri (.node ri .nil .nil) .nil)) (.node ri (.node ri (.node ri .nil .nil) (.node ri .nil .nil)) (.node ri (.node ri .nil .nil) .nil)))) (.node (Pre.o_22 P) (.node (Pre.o_42 P) (.node ri (.node ri (.node ri .nil .nil) (.node ri .nil .nil)) (.node ri (.node ri .nil .nil) .nil)) (.node ri (.node ri (.node ri .nil .nil) (.node ri .nil .nil)) (.node ri (.node ri .nil .nil) .nil))) (.node (Pre.o_62 P) (.node ri (.node ri (.node ri .nil .nil) (.node ri .nil .nil)) (.node ri (.node ri .nil .nil) .nil)) (.node ri (.node ri (.node ri .nil .nil) (.node ri .nil .nil)) (.node ri (.node ri .nil .nil) .nil))))))))
noncomputable def B7 (P : Params) : BT := (.node (PySem.W.boot_o_0 P) (.node (PySem.W.boot_o_1 P) (.node (Pre.o_44 P) (.node (PySem.W.boot_o_7 P) (.node (Pre.o_7 P) (.node (Pre.o_46 P) (.node (Pre.o_63 P) (.node tup0 (.node tup0 (.node tup0 .nil .nil) .nil) (.node tup0 .nil .nil)) (.node tup0 (.node tup0 .nil .nil) (.node tup0 .nil .nil))) (.node tup0 (.node tup0 (.node tup0 .nil .nil) (.node tup0 .nil .nil)) (.node tup0 (.node tup0 .nil .nil) (.node tup0 .nil .nil)))) (.node (Pre.o_47 P) (.node tup0 (.node tup0 (.node tup0 .nil .nil) (.node tup0 .nil .nil)) (.node tup0 (.node tup0 .nil .nil) (.node tup0 .nil .nil))) (.node tup0 (.node tup0 (.node tup0 .nil .nil) (.node tup0 .nil .nil)) (.node tup0 (.node tup0 .nil .nil) (.node tup0 .nil .nil))))) (.node (Pre.o_15 P) (.node (Pre.o_35 P) (.node (Pre.o_71 P) (.node tup0 (.node tup0 (.node tup0 .nil .nil) .nil) (.node tup0 .nil .nil)) (.node tup0 (.node tup0 .nil .nil) (.node tup0 .nil .nil))) (.node tup0 (.node tup0 (.node tup0 .nil .nil) (.node tup0 .nil .nil)) (.node tup0 (.node tup0 .nil .nil) (.node tup0 .nil .nil)))) (.node (Pre.o_55 P) (.node tup0 (.node tup0 (.node tup0 .nil .nil) (.node tup0 .nil .nil)) (.node tup0 (.node tup0 .nil .nil) (.node tup0 .nil .nil))) (.node tup0 (.node tup0 (.node tup0 .nil .nil) (.node tup0 .nil .nil)) (.node tup0 (.node tup0 .nil .nil) (.node tup0 .nil .nil)))))) (.node (Pre.o_1 P) (.node (Pre.o_11 P) (.node (Pre.o_31 P) (.node (Pre.o_67 P) (.node tup0 (.node tup0 (.node tup0 .nil .nil) .nil) (.node tup0 .nil .nil)) (.node tup0 (.node tup0 .nil .nil) (.node tup0 .nil .nil))) (.node tup0 (.node tup0 (.node tup0 .nil .nil) (.node tup0 .nil .nil)) (.node tup0 (.node tup0 .nil .nil) (.node tup0 .nil .nil)))) (.node (Pre.o_51 P) (.node tup0 (.node tup0 (.node tup0 .nil .nil) (.node tup0 .nil .nil)) (.node tup0 (.node tup0 .nil .nil) (.node tup0 .nil .nil))) (.node tup0 (.node tup0 (.node tup0 .nil .nil) (.node tup0 .nil .nil)) (.node tup0 (.node tup0 .nil .nil) (.node tup0 .nil .nil))))) (.node (Pre.o_19 P) (.node (Pre.o_39 P) (.node r256 (.node tup0 (.node tup0 (.node tup0 .nil .nil) .nil) (.node tup0 .nil .nil)) (.node tup0 (.node tup0 .nil .nil) (.node tup0 .nil .nil))) (.node tup0 (.node tup0 (.node tup0 .nil .nil) (.node tup0 .nil .nil)) (.node tup0 (.node tup0 .nil .nil) (.node tup0 .nil .nil)))) (.node (Pre.o_59 P) (.node tup0 (.node tup0 (.node tup0 .nil .nil) (.node tup0 .nil .nil)) (.node tup0 (.node tup0 .nil .nil) (.node tup0 .nil .nil))) (.node tup0 (.node tup0 (.node tup0 .nil .nil) (.node tup0 .nil .nil)) (.node tup0 (.node tup0 .nil .nil) (.node tup0 .nil .nil))))))) (.node (PySem.W.boot_o_5 P) (.node (PySem.W.boot_o_9 P) (.node (Pre.o_9 P) (.node (Pre.o_25 P) (.node (Pre.o_65 P) (.node (rg 1120) (.node (rg 3229) (.node (rg 7454) .nil .nil) .nil) (.node (rg 5345) .nil .nil)) (.node (rg 2173) (.node (rg 4298) .nil .nil) (.node (rg 6398) .nil .nil))) (.node (rg 599) (.node (rg 1644) (.node (rg 3761) .nil .nil) (.node (rg 5869) .nil .nil)) (.node (rg 2700) (.node (rg 4824) .nil .nil) (.node (rg 6925) .nil .nil)))) (.node (Pre.o_49 P) (.node (rg 342) (.node (rg 1383) (.node (rg 3496) .nil .nil) (.node (rg 5608) .nil .nil)) (.node (rg 2439) (.node (rg 4567) .nil .nil) (.node (rg 6664) .nil .nil))) (.node (rg 859) (.node (rg 1908) (.node (rg 4029) .nil .nil) (.node (rg 6133) .nil .nil)) (.node (rg 2964) (.node (rg 5084) .nil .nil) (.node (rg 7189) .nil .nil))))) (.node (Pre.o_17 P) (.node (Pre.o_37 P) (.node (lc P 112) (.node (rg 1252) (.node (rg 3363) (.node (rg 7588) .nil .nil) .nil) (.node (rg 5477) .nil .nil)) (.node (rg 2307) (.node (rg 4434) .nil .nil) (.node (rg 6532) .nil .nil))) (.node (rg 729) (.node (rg 1776) (.node (rg 3895) .nil .nil) (.node (rg 6001) .nil .nil)) (.node (rg 2832) (.node (rg 4954) .nil .nil) (.node (rg 7057) .nil .nil)))) (.node (Pre.o_57 P) (.node (rg 470) (.node (rg 1513) (.node (rg 3628) .nil .nil) (.node (rg 5738) .nil .nil)) (.node (rg 2569) (.node (rg 4695) .nil .nil) (.node (rg 6794) .nil .nil))) (.node (rg 989) (.node (rg 2040) (.node (rg 4163) .nil .nil) (.node (rg 6265) .nil .nil)) (.node (rg 3096) (.node (rg 5214) .nil .nil) (.node (rg 7321) .nil .nil)))))) (.node (Pre.o_3 P) (.node (Pre.o_13 P) (.node (Pre.o_33 P) (.node (Pre.o_69 P) (.node (rg 1186) (.node (rg 3296) (.node (rg 7520) .nil .nil) .nil) (.node (rg 5410) .nil .nil)) (.node (rg 2240) (.node (rg 4366) .nil .nil) (.node (rg 6464) .nil .nil))) (.node (rg 664) (.node (rg 1710) (.node (rg 3828) .nil .nil) (.node (rg 5934) .nil .nil)) (.node (rg 2766) (.node (rg 4888) .nil .nil) (.node (rg 6990) .nil .nil)))) (.node (Pre.o_53 P) (.node (rg 406) (.node (rg 1448) (.node (rg 3562) .nil .nil) (.node (rg 5672) .nil .nil)) (.node (rg 2504) (.node (rg 4630) .nil .nil) (.node (rg 6728) .nil .nil))) (.node (rg 924) (.node (rg 1974) (.node (rg 4096) .nil .nil) (.node (rg 6198) .nil .nil)) (.node (rg 3030) (.node (rg 5148) .nil .nil) (.node (rg 7254) .nil .nil))))) (.node (Pre.o_21 P) (.node (Pre.o_41 P) (.node (rg 280) (.node (rg 1320) (.node (rg 3432) .nil .nil) (.node (rg 5544) .nil .nil)) (.node (rg 2376) (.node (rg 4504) .nil .nil) (.node (rg 6600) .nil .nil))) (.node (rg 796) (.node (rg 1844) (.node (rg 3964) .nil .nil) (.node (rg 6068) .nil .nil)) (.node (rg 2900) (.node (rg 5020) .nil .nil) (.node (rg 7124) .nil .nil)))) (.node (Pre.o_61 P) (.node (rg 536) (.node (rg 1580) (.node (rg 3696) .nil .nil) (.node (rg 5804) .nil .nil)) (.node (rg 2636) (.node (rg 4760) .nil .nil) (.node (rg 6860) .nil .nil))) (.node (rg 1056) (.node (rg 2108) (.node (rg 4232) .nil .nil) (.node (rg 6332) .nil .nil)) (.node (rg 3164) (.node (rg 5280) .nil .nil) (.node (rg 7388) .nil .nil)))))))) (.node (PySem.W.boot_o_2 P) (.node (PySem.W.boot_o_4 P) (.node (PySem.W.boot_o_8 P) (.node (Pre.o_8 P) (.node (Pre.o_24 P) (.node (Pre.o_64 P) (.node (se 127) (.node (se 255) (.node (se 511) .nil .nil) .nil) (.node (se 383) .nil .nil)) (.node (se 191) (.node (se 319) .nil .nil) (.node (se 447) .nil .nil))) (.node (se 95) (.node (se 159) (.node (se 287) .nil .nil) (.node (se 415) .nil .nil)) (.node (se 223) (.node (se 351) .nil .nil) (.node (se 479) .nil .nil)))) (.node (Pre.o_48 P) (.node (se 79) (.node (se 143) (.node (se 271) .nil .nil) (.node (se 399) .nil .nil)) (.node (se 207) (.node (se 335) .nil .nil) (.node (se 463) .nil .nil))) (.node (se 111) (.node (se 175) (.node (se 303) .nil .nil) (.node (se 431) .nil .nil)) (.node (se 239) (.node (se 367) .nil .nil) (.node (se 495) .nil .nil))))) (.node (Pre.o_16 P) (.node (Pre.o_36 P) (.node (Pre.o_72 P) (.node (se 135) (.node (se 263) (.node (se 519) .nil .nil) .nil) (.node (se 391) .nil .nil)) (.node (se 199) (.node (se 327) .nil .nil) (.node (se 455) .nil .nil))) (.node (se 103) (.node (se 167) (.node (se 295) .nil .nil) (.node (se 423) .nil .nil)) (.node (se 231) (.node (se 359) .nil .nil) (.node (se 487) .nil .nil)))) (.node (Pre.o_56 P) (.node (se 87) (.node (se 151) (.node (se 279) .nil .nil) (.node (se 407) .nil .nil)) (.node (se 215) (.node (se 343) .nil .nil) (.node (se 471) .nil .nil))) (.node (se 119) (.node (se 183) (.node (se 311) .nil .nil) (.node (se 439) .nil .nil)) (.node (se 247) (.node (se 375) .nil .nil) (.node (se 503) .nil .nil)))))) (.node (Pre.o_45 P) (.node (Pre.o_12 P) (.node (Pre.o_32 P) (.node (Pre.o_68 P) (.node (se 131) (.node (se 259) (.node (se 515) .nil .nil) .nil) (.node (se 387) .nil .nil)) (.node (se 195) (.node (se 323) .nil .nil) (.node (se 451) .nil .nil))) (.node (se 99) (.node (se 163) (.node (se 291) .nil .nil) (.node (se 419) .nil .nil)) (.node (se 227) (.node (se 355) .nil .nil) (.node (se 483) .nil .nil)))) (.node (Pre.o_52 P) (.node (se 83) (.node (se 147) (.node (se 275) .nil .nil) (.node (se 403) .nil .nil)) (.node (se 211) (.node (se 339) .nil .nil) (.node (se 467) .nil .nil))) (.node (se 115) (.node (se 179) (.node (se 307) .nil .nil) (.node (se 435) .nil .nil)) (.node (se 243) (.node (se 371) .nil .nil) (.node (se 499) .nil .nil))))) (.node (Pre.o_20 P) (.node (Pre.o_40 P) (.node (oi 112) (.node (se 139) (.node (se 267) (.node (se 523) .nil .nil) .nil) (.node (se 395) .nil .nil)) (.node (se 203) (.node (se 331) .nil .nil) (.node (se 459) .nil .nil))) (.node (se 107) (.node (se 171) (.node (se 299) .nil .nil) (.node (se 427) .nil .nil)) (.node (se 235) (.node (se 363) .nil .nil) (.node (se 491) .nil .nil)))) (.node (Pre.o_60 P) (.node (se 91) (.node (se 155) (.node (se 283) .nil .nil) (.node (se 411) .nil .nil)) (.node (se 219) (.node (se 347) .nil .nil) (.node (se 475) .nil .nil))) (.node (se 123) (.node (se 187) (.node (se 315) .nil .nil) (.node (se 443) .nil .nil)) (.node (se 251) (.node (se 379) .nil .nil) (.node (se 507) .nil .nil))))))) (.node (PySem.W.boot_o_6 P) (.node (PySem.W.boot_o_10 P) (.node (Pre.o_10 P) (.node (Pre.o_26 P) (.node (Pre.o_66 P) (.node ri (.node ri (.node ri .nil .nil) .nil) (.node ri .nil .nil)) (.node ri (.node ri .nil .nil) (.node ri .nil .nil))) (.node ri (.node ri (.node ri .nil .nil) (.node ri .nil .nil)) (.node ri (.node ri .nil .nil) (.node ri .nil .nil)))) (.node (Pre.o_50 P) (.node ri (.node ri (.node ri .nil .nil) (.node ri .nil .nil)) (.node ri (.node ri .nil .nil) (.node ri .nil .nil))) (.node ri (.node ri (.node ri .nil .nil) (.node ri .nil .nil)) (.node ri (.node ri .nil .nil) (.node ri .nil .nil))))) (.node (Pre.o_18 P) (.node (Pre.o_38 P) (.node (ls 112) (.node ri (.node ri (.node ri .nil .nil) .nil) (.node ri .nil .nil)) (.node ri (.node ri .nil .nil) (.node ri .nil .nil))) (.node ri (.node ri (.node ri .nil .nil) (.node ri .nil .nil)) (.node ri (.node ri .nil .nil) (.node ri .nil .nil)))) (.node (Pre.o_58 P) (.node ri (.node ri (.node ri .nil .nil) (.node ri .nil .nil)) (.node ri (.node ri .nil .nil) (.node ri .nil .nil))) (.node ri (.node ri (.node ri .nil .nil) (.node ri .nil .nil)) (.node ri (.node ri .nil .nil) (.node ri .nil .nil)))))) (.node (Pre.o_4 P) (.node (Pre.o_14 P) (.node (Pre.o_34 P) (.node (Pre.o_70 P) (.node ri (.node ri (.node ri .nil .nil) .nil) (.node ri .nil .nil)) (.node ri (.node ri .nil .nil) (.node ri .nil .nil))) (.node ri (.node ri (.node ri .nil .nil) (.node ri .nil .nil)) (.node ri (.node ri .nil .nil) (.node ri .nil .nil)))) (.node (Pre.o_54 P) (.node ri (.node ri (.node ri .nil .nil) (.node ri .nil .nil)) (.node ri (.node ri .nil .nil) (.node ri .nil .nil))) (.node ri (.node ri (.node ri .nil .nil) (.node ri .nil .nil)) (.node ri (.node ri .nil .nil) (.node ri .nil .nil))))) (.node (Pre.o_22 P) (.node (Pre.o_42 P) (.node ri (.node ri (.node ri .nil .nil) (.node ri .nil .nil)) (.node ri (.node ri .nil .nil) (.node ri .nil .nil))) (.node ri (.node ri (.node ri .nil .nil) (.node ri .nil .nil)) (.node ri (.node ri .nil .nil) (.node ri .nil .nil)))) (.node (Pre.o_62 P) (.node ri (.node ri (.node ri .nil .nil) (.node ri .nil .nil)) (.node ri (.node ri .nil .nil) (.node ri .nil .nil))) (.node ri (.node ri (.node ri .nil .nil) (.node ri .nil .nil)) (.node ri (.node ri .nil .nil) (.node ri .nil .nil)))))))))
noncomputable def B8 (P : Params) : BT := (.node (PySem.W.boot_o_0 P) (.node (PySem.W.boot_o_1 P) (.node (Pre.o_44 P) (.node (PySem.W.boot_o_7 P) (.node (Pre.o_7 P) (.node (Pre.o_46 P) (.node (Pre.o_63 P) (.node tup0 (.node tup0 (.node tup0 .nil .nil) .nil) (.node tup0 .nil .nil)) (.node tup0 (.node tup0 (.node tup0 .nil .nil) .nil) (.node tup0 .nil .nil))) (.node tup0 (.node tup0 (.node tup0 (.node tup0 .nil .nil) .nil) (.node tup0 .nil .nil)) (.node tup0 (.node tup0 .nil .nil) (.node tup0 .nil .nil)))) (.node (Pre.o_47 P) (.node tup0 (.node tup0 (.node tup0 (.node tup0 .nil .nil) .nil) (.node tup0 .nil .nil)) (.node tup0 (.node tup0 .nil .nil) (.node tup0 .nil .nil))) (.node tup0 (.node tup0 (.node tup0 (.node tup0 .nil .nil) .nil) (.node tup0 .nil .nil)) (.node tup0 (.node tup0 .nil .nil) (.node tup0 .nil .nil))))) (.node (Pre.o_15 P) (.node (Pre.o_35 P) (.node (Pre.o_71 P) (.node tup0 (.node tup0 (.node tup0 .nil .nil) .nil) (.node tup0 .nil .nil)) (.node tup0 (.node tup0 (.node tup0 .nil .nil) .nil) (.node tup0 .nil .nil))) (.node tup0 (.node tup0 (.node tup0 (.node tup0 .nil .nil) .nil) (.node tup0 .nil .nil)) (.node tup0 (.node tup0 .nil .nil) (.node tup0 .nil .nil)))) (.node (Pre.o_55 P) (.node tup0 (.node tup0 (.node tup0 (.node tup0 .nil .nil) .nil) (.node tup0 .nil .nil)) (.node tup0 (.node tup0 .nil .nil) (.node tup0 .nil .nil))) (.node tup0 (.node tup0 (.node tup0 (.node tup0 .nil .nil) .nil) (.node tup0 .nil .nil)) (.node tup0 (.node tup0 .nil .nil) (.node tup0 .nil .nil)))))) (.node (Pre.o_1 P) (.node (Pre.o_11 P) (.node (Pre.o_31 P) (.node (Pre.o_67 P) (.node tup0 (.node tup0 (.node tup0 .nil .nil) .nil) (.node tup0 .nil .nil)) (.node tup0 (.node tup0 (.node tup0 .nil .nil) .nil) (.node tup0 .nil .nil))) (.node tup0 (.node tup0 (.node tup0 (.node tup0 .nil .nil) .nil) (.node tup0 .nil .nil)) (.node tup0 (.node tup0 .nil .nil) (.node tup0 .nil .nil)))) (.node (Pre.o_51 P) (.node tup0 (.node tup0 (.node tup0 (.node tup0 .nil .nil) .nil) (.node tup0 .nil .nil)) (.node tup0 (.node tup0 .nil .nil) (.node tup0 .nil .nil))) (.node tup0 (.node tup0 (.node tup0 (.node tup0 .nil .nil) .nil) (.node tup0 .nil .nil)) (.node tup0 (.node tup0 .nil .nil) (.node tup0 .nil .nil))))) (.node (Pre.o_19 P) (.node (Pre.o_39 P) (.node r256 (.node tup0 (.node tup0 (.node tup0 .nil .nil) .nil) (.node tup0 .nil .nil)) (.node tup0 (.node tup0 (.node tup0 .nil .nil) .nil) (.node tup0 .nil .nil))) (.node tup0 (.node tup0 (.node tup0 (.node tup0 .nil .nil) .nil) (.node tup0 .nil .nil)) (.node tup0 (.node tup0 .nil .nil) (.node tup0 .nil .nil)))) (.node (Pre.o_59 P) (.node tup0 (.node tup0 (.node tup0 (.node tup0 .nil .nil) .nil) (.node tup0 .nil .nil)) (.node tup0 (.node tup0 .nil .nil) (.node tup0 .nil .nil))) (.node tup0 (.node tup0 (.node tup0 (.node tup0 .nil .nil) .nil) (.node tup0 .nil .nil)) (.node tup0 (.node tup0 .nil .nil) (.node tup0 .nil .nil))))))) (.node (PySem.W.boot_o_5 P) (.node (PySem.W.boot_o_9 P) (.node (Pre.o_9 P) (.node (Pre.o_25 P) (.node (Pre.o_65 P) (.node (rg 1120) (.node (rg 3229) (.node (rg 7454) .nil .nil) .nil) (.node (rg 5345) .nil .nil)) (.node (rg 2173) (.node (rg 4298) (.node (rg 8523) .nil .nil) .nil) (.node (rg 6398) .nil .nil))) (.node (rg 599) (.node (rg 1644) (.node (rg 3761) (.node (rg 7986) .nil .nil) .nil) (.node (rg 5869) .nil .nil)) (.node (rg 2700) (.node (rg 4824) .nil .nil) (.node (rg 6925) .nil .nil)))) (.node (Pre.o_49 P) (.node (rg 342) (.node (rg 1383) (.node (rg 3496) (.node (rg 7721) .nil .nil) .nil) (.node (rg 5608) .nil .nil)) (.node (rg 2439) (.node (rg 4567) .nil .nil) (.node (rg 6664) .nil .nil))) (.node (rg 859) (.node (rg 1908) (.node (rg 4029) (.node (rg 8254) .nil .nil) .nil) (.node (rg 6133) .nil .nil)) (.node (rg 2964) (.node (rg 5084) .nil .nil) (.node (rg 7189) .nil .nil))))) (.node (Pre.o_17 P) (.node (Pre.o_37 P) (.node (lc P 128) (.node (rg 1252) (.node (rg 3363) (.node (rg 7588) .nil .nil) .nil) (.node (rg 5477) .nil .nil)) (.node (rg 2307) (.node (rg 4434) (.node (rg 8659) .nil .nil) .nil) (.node (rg 6532) .nil .nil))) (.node (rg 729) (.node (rg 1776) (.node (rg 3895) (.node (rg 8120) .nil .nil) .nil) (.node (rg 6001) .nil .nil)) (.node (rg 2832) (.node (rg 4954) .nil .nil) (.node (rg 7057) .nil .nil)))) (.node (Pre.o_57 P) (.node (rg 470) (.node (rg 1513) (.node (rg 3628) (.node (rg 7853) .nil .nil) .nil) (.node (rg 5738) .nil .nil)) (.node (rg 2569) (.node (rg 4695) .nil .nil) (.node (rg 6794) .nil .nil))) (.node (rg 989) (.node (rg 2040) (.node (rg 4163) (.node (rg 8388) .nil .nil) .nil) (.node (rg 6265) .nil .nil)) (.node (rg 3096) (.node (rg 5214) .nil .nil) (.node (rg 7321) .nil .nil)))))) (.node (Pre.o_3 P) (.node (Pre.o_13 P) (.node (Pre.o_33 P) (.node (Pre.o_69 P) (.node (rg 1186) (.node (rg 3296) (.node (rg 7520) .nil .nil) .nil) (.node (rg 5410) .nil .nil)) (.node (rg 2240) (.node (rg 4366) (.node (rg 8590) .nil .nil) .nil) (.node (rg 6464) .nil .nil))) (.node (rg 664) (.node (rg 1710) (.node (rg 3828) (.node (rg 8052) .nil .nil) .nil) (.node (rg 5934) .nil .nil)) (.node (rg 2766) (.node (rg 4888) .nil .nil) (.node (rg 6990) .nil .nil)))) (.node (Pre.o_53 P) (.node (rg 406) (.node (rg 1448) (.node (rg 3562) (.node (rg 7786) .nil .nil) .nil) (.node (rg 5672) .nil .nil)) (.node (rg 2504) (.node (rg 4630) .nil .nil) (.node (rg 6728) .nil .nil))) (.node (rg 924) (.node (rg 1974) (.node (rg 4096) (.node (rg 8320) .nil .nil) .nil) (.node (rg 6198) .nil .nil)) (.node (rg 3030) (.node (rg 5148) .nil .nil) (.node (rg 7254) .nil .nil))))) (.node (Pre.o_21 P) (.node (Pre.o_41 P) (.node (rg 280) (.node (rg 1320) (.node (rg 3432) (.node (rg 7656) .nil .nil) .nil) (.node (rg 5544) .nil .nil)) (.node (rg 2376) (.node (rg 4504) .nil .nil) (.node (rg 6600) .nil .nil))) (.node (rg 796) (.node (rg 1844) (.node (rg 3964) (.node (rg 8188) .nil .nil) .nil) (.node (rg 6068) .nil .nil)) (.node (rg 2900) (.node (rg 5020) .nil .nil) (.node (rg 7124) .nil .nil)))) (.node (Pre.o_61 P) (.node (rg 536) (.node (rg 1580) (.node (rg 3696) (.node (rg 7920) .nil .nil) .nil) (.node (rg 5804) .nil .nil)) (.node (rg 2636) (.node (rg 4760) .nil .nil) (.node (rg 6860) .nil .nil))) (.node (rg 1056) (.node (rg 2108) (.node (rg 4232) (.node (rg 8456) .nil .nil) .nil) (.node (rg 6332) .nil .nil)) (.node (rg 3164) (.node (rg 5280) .nil .nil) (.node (rg 7388) .nil .nil)))))))) (.node (PySem.W.boot_o_2 P) (.node (PySem.W.boot_o_4 P) (.node (PySem.W.boot_o_8 P) (.node (Pre.o_8 P) (.node (Pre.o_24 P) (.node (Pre.o_64 P) (.node (se 127) (.node (se 255) (.node (se 511) .nil .nil) .nil) (.node (se 383) .nil .nil)) (.node (se 191) (.node (se 319) (.node (se 575) .nil .nil) .nil) (.node (se 447) .nil .nil))) (.node (se 95) (.node (se 159) (.node (se 287) (.node (se 543) .nil .nil) .nil) (.node (se 415) .nil .nil)) (.node (se 223) (.node (se 351) .nil .nil) (.node (se 479) .nil .nil)))) (.node (Pre.o_48 P) (.node (se 79) (.node (se 143) (.node (se 271) (.node (se 527) .nil .nil) .nil) (.node (se 399) .nil .nil)) (.node (se 207) (.node (se 335) .nil .nil) (.node (se 463) .nil .nil))) (.node (se 111) (.node (se 175) (.node (se 303) (.node (se 559) .nil .nil) .nil) (.node (se 431) .nil .nil)) (.node (se 239) (.node (se 367) .nil .nil) (.node (se 495) .nil .nil))))) (.node (Pre.o_16 P) (.node (Pre.o_36 P) (.node (Pre.o_72 P) (.node (se 135) (.node (se 263) (.node (se 519) .nil .nil) .nil) (.node (se 391) .nil .nil)) (.node (se 199) (.node (se 327) (.node (se 583) .nil .nil) .nil) (.node (se 455) .nil .nil))) (.node (se 103) (.node (se 167) (.node (se 295) (.node (se 551) .nil .nil) .nil) (.node (se 423) .nil .nil)) (.node (se 231) (.node (se 359) .nil .nil) (.node (se 487) .nil .nil)))) (.node (Pre.o_56 P) (.node (se 87) (.node (se 151) (.node (se 279) (.node (se 535) .nil .nil) .nil) (.node (se 407) .nil .nil)) (.node (se 215) (.node (se 343) .nil .nil) (.node (se 471) .nil .nil))) (.node (se 119) (.node (se 183) (.node (se 311) (.node (se 567) .nil .nil) .nil) (.node (se 439) .nil .nil)) (.node (se 247) (.node (se 375) .nil .nil) (.node (se 503) .nil .nil)))))) (.node (Pre.o_45 P) (.node (Pre.o_12 P) (.node (Pre.o_32 P) (.node (Pre.o_68 P) (.node (se 131) (.node (se 259) (.node (se 515) .nil .nil) .nil) (.node (se 387) .nil .nil)) (.node (se 195) (.node (se 323) (.node (se 579) .nil .nil) .nil) (.node (se 451) .nil .nil))) (.node (se 99) (.node (se 163) (.node (se 291) (.node (se 547) .nil .nil) .nil) (.node (se 419) .nil .nil)) (.node (se 227) (.node (se 355) .nil .nil) (.node (se 483) .nil .nil)))) (.node (Pre.o_52 P) (.node (se 83) (.node (se 147) (.node (se 275) (.node (se 531) .nil .nil) .nil) (.node (se 403) .nil .nil)) (.node (se 211) (.node (se 339) .nil .nil) (.node (se 467) .nil .nil))) (.node (se 115) (.node (se 179) (.node (se 307) (.node (se 563) .nil .nil) .nil) (.node (se 435) .nil .nil)) (.node (se 243) (.node (se 371) .nil .nil) (.node (se 499) .nil .nil))))) (.node (Pre.o_20 P) (.node (Pre.o_40 P) (.node (oi 128) (.node (se 139) (.node (se 267) (.node (se 523) .nil .nil) .nil) (.node (se 395) .nil .nil)) (.node (se 203) (.node (se 331) (.node (se 587) .nil .nil) .nil) (.node (se 459) .nil .nil))) (.node (se 107) (.node (se 171) (.node (se 299) (.node (se 555) .nil .nil) .nil) (.node (se 427) .nil .nil)) (.node (se 235) (.node (se 363) .nil .nil) (.node (se 491) .nil .nil)))) (.node (Pre.o_60 P) (.node (se 91) (.node (se 155) (.node (se 283) (.node (se 539) .nil .nil) .nil) (.node (se 411) .nil .nil)) (.node (se 219) (.node (se 347) .nil .nil) (.node (se 475) .nil .nil))) (.node (se 123) (.node (se 187) (.node (se 315) (.node (se 571) .nil .nil) .nil) (.node (se 443) .nil .nil)) (.node (se 251) (.node (se 379) .nil .nil) (.node (se 507) .nil .nil))))))) (.node (PySem.W.boot_o_6 P) (.node (PySem.W.boot_o_10 P) (.node (Pre.o_10 P) (.node (Pre.o_26 P) (.node (Pre.o_66 P) (.node ri (.node ri (.node ri .nil .nil) .nil) (.node ri .nil .nil)) (.node ri (.node ri (.node ri .nil .nil) .nil) (.node ri .nil .nil))) (.node ri (.node ri (.node ri (.node ri .nil .nil) .nil) (.node ri .nil .nil)) (.node ri (.node ri .nil .nil) (.node ri .nil .nil)))) (.node (Pre.o_50 P) (.node ri (.node ri (.node ri (.node ri .nil .nil) .nil) (.node ri .nil .nil)) (.node ri (.node ri .nil .nil) (.node ri .nil .nil))) (.node ri (.node ri (.node ri (.node ri .nil .nil) .nil) (.node ri .nil .nil)) (.node ri (.node ri .nil .nil) (.node ri .nil .nil))))) (.node (Pre.o_18 P) (.node (Pre.o_38 P) (.node (ls 128) (.node ri (.node ri (.node ri .nil .nil) .nil) (.node ri .nil .nil)) (.node ri (.node ri (.node ri .nil .nil) .nil) (.node ri .nil .nil))) (.node ri (.node ri (.node ri (.node ri .nil .nil) .nil) (.node ri .nil .nil)) (.node ri (.node ri .nil .nil) (.node ri .nil .nil)))) (.node (Pre.o_58 P) (.node ri (.node ri (.node ri (.node ri .nil .nil) .nil) (.node ri .nil .nil)) (.node ri (.node ri .nil .nil) (.node ri .nil .nil))) (.node ri (.node ri (.node ri (.node ri .nil .nil) .nil) (.node ri .nil .nil)) (.node ri (.node ri .nil .nil) (.node ri .nil .nil)))))) (.node (Pre.o_4 P) (.node (Pre.o_14 P) (.node (Pre.o_34 P) (.node (Pre.o_70 P) (.node ri (.node ri (.node ri .nil .nil) .nil) (.node ri .nil .nil)) (.node ri (.node ri (.node ri .nil .nil) .nil) (.node ri .nil .nil))) (.node ri (.node ri (.node ri (.node ri .nil .nil) .nil) (.node ri .nil .nil)) (.node ri (.node ri .nil .nil) (.node ri .nil .nil)))) (.node (Pre.o_54 P) (.node ri (.node ri (.node ri (.node ri .nil .nil) .nil) (.node ri .nil .nil)) (.node ri (.node ri .nil .nil) (.node ri .nil .nil))) (.node ri (.node ri (.node ri (.node ri .nil .nil) .nil) (.node ri .nil .nil)) (.node ri (.node ri .nil .nil) (.node ri .nil .nil))))) (.node (Pre.o_22 P) (.node (Pre.o_42 P) (.node ri (.node ri (.node ri (.node ri .nil .nil) .nil) (.node ri .nil .nil)) (.node ri (.node ri .nil .nil) (.node ri .nil .nil))) (.node ri (.node ri (.node ri (.node ri .nil .nil) .nil) (.node ri .nil .nil)) (.node ri (.node ri .nil .nil) (.node ri .nil .nil)))) (.node (Pre.o_62 P) (.node ri (.node ri (.node ri (.node ri .nil .nil) .nil) (.node ri .nil .nil)) (.node ri (.node ri .nil .nil) (.node ri .nil .nil))) (.node ri (.node ri (.node ri (.node ri .nil .nil) .nil) (.node ri .nil .nil)) (.node ri (.node ri .nil .nil) (.node ri .nil .nil)))))))))
noncomputable def B9 (P : Params) : BT := (.node (PySem.W.boot_o_0 P) (.node (PySem.W.boot_o_1 P) (.node (Pre.o_44 P) (.node (PySem.W.boot_o_7 P) (.node (Pre.o_7 P) (.node (Pre.o_46 P) (.node (Pre.o_63 P) (.node tup0 (.node tup0 (.node tup0 .nil .nil) .nil) (.node tup0 (.node tup0 .nil .nil) .nil)) (.node tup0 (.node tup0 (.node tup0 .nil .nil) .nil) (.node tup0 .nil .nil))) (.node tup0 (.node tup0 (.node tup0 (.node tup0 .nil .nil) .nil) (.node tup0 .nil .nil)) (.node tup0 (.node tup0 (.node tup0 .nil .nil) .nil) (.node tup0 .nil .nil)))) (.node (Pre.o_47 P) (.node tup0 (.node tup0 (.node tup0 (.node tup0 .nil .nil) .nil) (.node tup0 .nil .nil)) (.node tup0 (.node tup0 (.node tup0 .nil .nil) .nil) (.node tup0 .nil .nil))) (.node tup0 (.node tup0 (.node tup0 (.node tup0 .nil .nil) .nil) (.node tup0 .nil .nil)) (.node tup0 (.node tup0 (.node tup0 .nil .nil) .nil) (.node tup0 .nil .nil))))) (.node (Pre.o_15 P) (.node (Pre.o_35 P) (.node (Pre.o_71 P) (.node tup0 (.node tup0 (.node tup0 .nil .nil) .nil) (.node tup0 (.node tup0 .nil .nil) .nil)) (.node tup0 (.node tup0 (.node tup0 .nil .nil) .nil) (.node tup0 .nil .nil))) (.node tup0 (.node tup0 (.node tup0 (.node tup0 .nil .nil) .nil) (.node tup0 .nil .nil)) (.node tup0 (.node tup0 (.node tup0 .nil .nil) .nil) (.node tup0 .nil .nil)))) (.node (Pre.o_55 P) (.node tup0 (.node tup0 (.node tup0 (.node tup0 .nil .nil) .nil) (.node tup0 .nil .nil)) (.node tup0 (.node tup0 (.node tup0 .nil .nil) .nil) (.node tup0 .nil .nil))) (.node tup0 (.node tup0 (.node tup0 (.node tup0 .nil .nil) .nil) (.node tup0 .nil .nil)) (.node tup0 (.node tup0 (.node tup0 .nil .nil) .nil) (.node tup0 .nil .nil)))))) (.node (Pre.o_1 P) (.node (Pre.o_11 P) (.node (Pre.o_31 P) (.node (Pre.o_67 P) (.node tup0 (.node tup0 (.node tup0 .nil .nil) .nil) (.node tup0 (.node tup0 .nil .nil) .nil)) (.node tup0 (.node tup0 (.node tup0 .nil .nil) .nil) (.node tup0 .nil .nil))) (.node tup0 (.node tup0 (.node tup0 (.node tup0 .nil .nil) .nil) (.node tup0 .nil .nil)) (.node tup0 (.node tup0 (.node tup0 .nil .nil) .nil) (.node tup0 .nil .nil)))) (.node (Pre.o_51 P) (.node tup0 (.node tup0 (.node tup0 (.node tup0 .nil .nil) .nil) (.node tup0 .nil .nil)) (.node tup0 (.node tup0 (.node tup0 .nil .nil) .nil) (.node tup0 .nil .nil))) (.node tup0 (.node tup0 (.node tup0 (.node tup0 .nil .nil) .nil) (.node tup0 .nil .nil)) (.node tup0 (.node tup0 (.node tup0 .nil .nil) .nil) (.node tup0 .nil .nil))))) (.node (Pre.o_19 P) (.node (Pre.o_39 P) (.node r256 (.node tup0 (.node tup0 (.node tup0 .nil .nil) .nil) (.node tup0 (.node tup0 .nil .nil) .nil)) (.node tup0 (.node tup0 (.node tup0 .nil .nil) .nil) (.node tup0 .nil .nil))) (.node tup0 (.node tup0 (.node tup0 (.node tup0 .nil .nil) .nil) (.node tup0 .nil .nil)) (.node tup0 (.node tup0 (.node tup0 .nil .nil) .nil) (.node tup0 .nil .nil)))) (.node (Pre.o_59 P) (.node tup0 (.node tup0 (.node tup0 (.node tup0 .nil .nil) .nil) (.node tup0 .nil .nil)) (.node tup0 (.node tup0 (.node tup0 .nil .nil) .nil) (.node tup0 .nil .nil))) (.node tup0 (.node tup0 (.node tup0 (.node tup0 .nil .nil) .nil) (.node tup0 .nil .nil)) (.node tup0 (.node tup0 (.node tup0 .nil .nil) .nil) (.node tup0 .nil .nil))))))) (.node (PySem.W.boot_o_5 P) (.node (PySem.W.boot_o_9 P) (.node (Pre.o_9 P) (.node (Pre.o_25 P) (.node (Pre.o_65 P) (.node (rg 1120) (.node (rg 3229) (.node (rg 7454) .nil .nil) .nil) (.node (rg 5345) (.node (rg 9569) .nil .nil) .nil)) (.node (rg 2173) (.node (rg 4298) (.node (rg 8523) .nil .nil) .nil) (.node (rg 6398) .nil .nil))) (.node (rg 599) (.node (rg 1644) (.node (rg 3761) (.node (rg 7986) .nil .nil) .nil) (.node (rg 5869) .nil .nil)) (.node (rg 2700) (.node (rg 4824) (.node (rg 9048) .nil .nil) .nil) (.node (rg 6925) .nil .nil)))) (.node (Pre.o_49 P) (.node (rg 342) (.node (rg 1383) (.node (rg 3496) (.node (rg 7721) .nil .nil) .nil) (.node (rg 5608) .nil .nil)) (.node (rg 2439) (.node (rg 4567) (.node (rg 8791) .nil .nil) .nil) (.node (rg 6664) .nil .nil))) (.node (rg 859) (.node (rg 1908) (.node (rg 4029) (.node (rg 8254) .nil .nil) .nil) (.node (rg 6133) .nil .nil)) (.node (rg 2964) (.node (rg 5084) (.node (rg 9308) .nil .nil) .nil) (.node (rg 7189) .nil .nil))))) (.node (Pre.o_17 P) (.node (Pre.o_37 P) (.node (lc P 144) (.node (rg 1252) (.node (rg 3363) (.node (rg 7588) .nil .nil) .nil) (.node (rg 5477) (.node (rg 9701) .nil .nil) .nil)) (.node (rg 2307) (.node (rg 4434) (.node (rg 8659) .nil .nil) .nil) (.node (rg 6532) .nil .nil))) (.node (rg 729) (.node (rg 1776) (.node (rg 3895) (.node (rg 8120) .nil .nil) .nil) (.node (rg 6001) .nil .nil)) (.node (rg 2832) (.node (rg 4954) (.node (rg 9178) .nil .nil) .nil) (.node (rg 7057) .nil .nil)))) (.node (Pre.o_57 P) (.node (rg 470) (.node (rg 1513) (.node (rg 3628) (.node (rg 7853) .nil .nil) .nil) (.node (rg 5738) .nil .nil)) (.node (rg 2569) (.node (rg 4695) (.node (rg 8919) .nil .nil) .nil) (.node (rg 6794) .nil .nil))) (.node (rg 989) (.node (rg 2040) (.node (rg 4163) (.node (rg 8388) .nil .nil) .nil) (.node (rg 6265) .nil .nil)) (.node (rg 3096) (.node (rg 5214) (.node (rg 9438) .nil .nil) .nil) (.node (rg 7321) .nil .nil)))))) (.node (Pre.o_3 P) (.node (Pre.o_13 P) (.node (Pre.o_33 P) (.node (Pre.o_69 P) (.node (rg 1186) (.node (rg 3296) (.node (rg 7520) .nil .nil) .nil) (.node (rg 5410) (.node (rg 9636) .nil .nil) .nil)) (.node (rg 2240) (.node (rg 4366) (.node (rg 8590) .nil .nil) .nil) (.node (rg 6464) .nil .nil))) (.node (rg 664) (.node (rg 1710) (.node (rg 3828) (.node (rg 8052) .nil .nil) .nil) (.node (rg 5934) .nil .nil)) (.node (rg 2766) (.node (rg 4888) (.node (rg 9114) .nil .nil) .nil) (.node (rg 6990) .nil .nil)))) (.node (Pre.o_53 P) (.node (rg 406) (.node (rg 1448) (.node (rg 3562) (.node (rg 7786) .nil .nil) .nil) (.node (rg 5672) .nil .nil)) (.node (rg 2504) (.node (rg 4630) (.node (rg 8856) .nil .nil) .nil) (.node (rg 6728) .nil .nil))) (.node (rg 924) (.node (rg 1974) (.node (rg 4096) (.node (rg 8320) .nil .nil) .nil) (.node (rg 6198) .nil .nil)) (.node (rg 3030) (.node (rg 5148) (.node (rg 9374) .nil .nil) .nil) (.node (rg 7254) .nil .nil))))) (.node (Pre.o_21 P) (.node (Pre.o_41 P) (.node (rg 280) (.node (rg 1320) (.node (rg 3432) (.node (rg 7656) .nil .nil) .nil) (.node (rg 5544) .nil .nil)) (.node (rg 2376) (.node (rg 4504) (.node (rg 8728) .nil .nil) .nil) (.node (rg 6600) .nil .nil))) (.node (rg 796) (.node (rg 1844) (.node (rg 3964) (.node (rg 8188) .nil .nil) .nil) (.node (rg 6068) .nil .nil)) (.node (rg 2900) (.node (rg 5020) (.node (rg 9244) .nil .nil) .nil) (.node (rg 7124) .nil .nil)))) (.node (Pre.o_61 P) (.node (rg 536) (.node (rg 1580) (.node (rg 3696) (.node (rg 7920) .nil .nil) .nil) (.node (rg 5804) .nil .nil)) (.node (rg 2636) (.node (rg 4760) (.node (rg 8984) .nil .nil) .nil) (.node (rg 6860) .nil .nil))) (.node (rg 1056) (.node (rg 2108) (.node (rg 4232) (.node (rg 8456) .nil .nil) .nil) (.node (rg 6332) .nil .nil)) (.node (rg 3164) (.node (rg 5280) (.node (rg 9504) .nil .nil) .nil) (.node (rg 7388) .nil .nil)))))))) (.node (PySem.W.boot_o_2 P) (.node (PySem.W.boot_o_4 P) (.node (PySem.W.boot_o_8 P) (.node (Pre.o_8 P) (.node (Pre.o_24 P) (.node (Pre.o_64 P) (.node (se 127) (.node (se 255) (.node (se 511) .nil .nil) .nil) (.node (se 383) (.node (se 639) .nil .nil) .nil)) (.node (se 191) (.node (se 319) (.node (se 575) .nil .nil) .nil) (.node (se 447) .nil .nil))) (.node (se 95) (.node (se 159) (.node (se 287) (.node (se 543) .nil .nil) .nil) (.node (se 415) .nil .nil)) (.node (se 223) (.node (se 351) (.node (se 607) .nil .nil) .nil) (.node (se 479) .nil .nil)))) (.node (Pre.o_48 P) (.node (se 79) (.node (se 143) (.node (se 271) (.node (se 527) .nil .nil) .nil) (.node (se 399) .nil .nil)) (.node (se 207) (.node (se 335) (.node (se 591) .nil .nil) .nil) (.node (se 463) .nil .nil))) (.node (se 111) (.node (se 175) (.node (se 303) (.node (se 559) .nil .nil) .nil) (.node (se 431) .nil .nil)) (.node (se 239) (.node (se 367) (.node (se 623) .nil .nil) .nil) (.node (se 495) .nil .nil))))) (.node (Pre.o_16 P) (.node (Pre.o_36 P) (.node (Pre.o_72 P) (.node (se 135) (.node (se 263) (.node (se 519) .nil .nil) .nil) (.node (se 391) (.node (se 647) .nil .nil) .nil)) (.node (se 199) (.node (se 327) (.node (se 583) .nil .nil) .nil) (.node (se 455) .nil .nil))) (.node (se 103) (.node (se 167) (.node (se 295) (.node (se 551) .nil .nil) .nil) (.node (se 423) .nil .nil)) (.node (se 231) (.node (se 359) (.node (se 615) .nil .nil) .nil) (.node (se 487) .nil .nil)))) (.node (Pre.o_56 P) (.node (se 87) (.node (se 151) (.node (se 279) (.node (se 535) .nil .nil) .nil) (.node (se 407) .nil .nil)) (.node (se 215) (.node (se 343) (.node (se 599) .nil .nil) .nil) (.node (se 471) .nil .nil))) (.node (se 119) (.node (se 183) (.node (se 311) (.node (se 567) .nil .nil) .nil) (.node (se 439) .nil .nil)) (.node (se 247) (.node (se 375) (.node (se 631) .nil .nil) .nil) (.node (se 503) .nil .nil)))))) (.node (Pre.o_45 P) (.node (Pre.o_12 P) (.node (Pre.o_32 P) (.node (Pre.o_68 P) (.node (se 131) (.node (se 259) (.node (se 515) .nil .nil) .nil) (.node (se 387) (.node (se 643) .nil .nil) .nil)) (.node (se 195) (.node (se 323) (.node (se 579) .nil .nil) .nil) (.node (se 451) .nil .nil))) (.node (se 99) (.node (se 163) (.node (se 291) (.node (se 547) .nil .nil) .nil) (.node (se 419) .nil .nil)) (.node (se 227) (.node (se 355) (.node (se 611) .nil .nil) .nil) (.node (se 483) .nil .nil)))) (.node (Pre.o_52 P) (.node (se 83) (.node (se 147) (.node (se 275) (.node (se 531) .nil .nil) .nil) (.node (se 403) .nil .nil)) (.node (se 211) (.node (se 339) (.node (se 595) .nil .nil) .nil) (.node (se 467) .nil .nil))) (.node (se 115) (.node (se 179) (.node (se 307) (.node (se 563) .nil .nil) .nil) (.node (se 435) .nil .nil)) (.node (se 243) (.node (se 371) (.node (se 627) .nil .nil) .nil) (.node (se 499) .nil .nil))))) (.node (Pre.o_20 P) (.node (Pre.o_40 P) (.node (oi 144) (.node (se 139) (.node (se 267) (.node (se 523) .nil .nil) .nil) (.node (se 395) (.node (se 651) .nil .nil) .nil)) (.node (se 203) (.node (se 331) (.node (se 587) .nil .nil) .nil) (.node (se 459) .nil .nil))) (.node (se 107) (.node (se 171) (.node (se 299) (.node (se 555) .nil .nil) .nil) (.node (se 427) .nil .nil)) (.node (se 235) (.node (se 363) (.node (se 619) .nil .nil) .nil) (.node (se 491) .nil .nil)))) (.node (Pre.o_60 P) (.node (se 91) (.node (se 155) (.node (se 283) (.node (se 539) .nil .nil) .nil) (.node (se 411) .nil .nil)) (.node (se 219) (.node (se 347) (.node (se 603) .nil .nil) .nil) (.node (se 475) .nil .nil))) (.node (se 123) (.node (se 187) (.node (se 315) (.node (se 571) .nil .nil) .nil) (.node (se 443) .nil .nil)) (.node (se 251) (.node (se 379) (.node (se 635) .nil .nil) .nil) (.node (se 507) .nil .nil))))))) (.node (PySem.W.boot_o_6 P) (.node (PySem.W.boot_o_10 P) (.node (Pre.o_10 P) (.node (Pre.o_26 P) (.node (Pre.o_66 P) (.node ri (.node ri (.node ri .nil .nil) .nil) (.node ri (.node ri .nil .nil) .nil)) (.node ri (.node ri (.node ri .nil .nil) .nil) (.node ri .nil .nil))) (.node ri (.node ri (.node ri (.node ri .nil .nil) .nil) (.node ri .nil .nil)) (.node ri (.node ri (.node ri .nil .nil) .nil) (.node ri .nil .nil)))) (.node (Pre.o_50 P) (.node ri (.node ri (.node ri (.node ri .nil .nil) .nil) (.node ri .nil .nil)) (.node ri (.node ri (.node ri .nil .nil) .nil) (.node ri .nil .nil))) (.node ri (.node ri (.node ri (.node ri .nil .nil) .nil) (.node ri .nil .nil)) (.node ri (.node ri (.node ri .nil .nil) .nil) (.node ri .nil .nil))))) (.node (Pre.o_18 P) (.node (Pre.o_38 P) (.node (ls 144) (.node ri (.node ri (.node ri .nil .nil) .nil) (.node ri (.node ri .nil .nil) .nil)) (.node ri (.node ri (.node ri .nil .nil) .nil) (.node ri .nil .nil))) (.node ri (.node ri (.node ri (.node ri .nil .nil) .nil) (.node ri .nil .nil)) (.node ri (.node ri (.node ri .nil .nil) .nil) (.node ri .nil .nil)))) (.node (Pre.o_58 P) (.node ri (.node ri (.node ri (.node ri .nil .nil) .nil) (.node ri .nil .nil)) (.node ri (.node ri (.node ri .nil .nil) .nil) (.node ri .nil .nil))) (.node ri (.node ri (.node ri (.node ri .nil .nil) .nil) (.node ri .nil .nil)) (.node ri (.node ri (.node ri .nil .nil) .nil) (.node ri .nil .nil)))))) (.node (Pre.o_4 P) (.node (Pre.o_14 P) (.node (Pre.o_34 P) (.node (Pre.o_70 P) (.node ri (.node ri (.node ri .nil .nil) .nil) (.node ri (.node ri .nil .nil) .nil)) (.node ri (.node ri (.node ri .nil .nil) .nil) (.node ri .nil .nil))) (.node ri (.node ri (.node ri (.node ri .nil .nil) .nil) (.node ri .nil .nil)) (.node ri (.node ri (.node ri .nil .nil) .nil) (.node ri .nil .nil)))) (.node (Pre.o_54 P) (.node ri (.node ri (.node ri (.node ri .nil .nil) .nil) (.node ri .nil .nil)) (.node ri (.node ri (.node ri .nil .nil) .nil) (.node ri .nil .nil))) (.node ri (.node ri (.node ri (.node ri .nil .nil) .nil) (.node ri .nil .nil)) (.node ri (.node ri (.node ri .nil .nil) .nil) (.node ri .nil .nil))))) (.node (Pre.o_22 P) (.node (Pre.o_42 P) (.node ri (.node ri (.node ri (.node ri .nil .nil) .nil) (.node ri .nil .nil)) (.node ri (.node ri (.node ri .nil .nil) .nil) (.node ri .nil .nil))) (.node ri (.node ri (.node ri (.node ri .nil .nil) .nil) (.node ri .nil .nil)) (.node ri (.node ri (.node ri .nil .nil) .nil) (.node ri .nil .nil)))) (.node (Pre.o_62 P) (.node ri (.node ri (.node ri (.node ri .nil .nil) .nil) (.node ri .nil .nil)) (.node ri (.node ri (.node ri .nil .nil) .nil) (.node ri .nil .nil))) (.node ri (.node ri (.node ri (.node ri .nil .nil) .nil) (.node ri .nil .nil)) (.node ri (.node ri (.node ri .nil .nil) .nil) (.node ri .nil .nil)))))))))
noncomputable def B10 (P : Params) : BT := (.node (PySem.W.boot_o_0 P) (.node (PySem.W.boot_o_1 P) (.node (Pre.o_44 P) (.node (PySem.W.boot_o_7 P) (.node (Pre.o_7 P) (.node (Pre.o_46 P) (.node (Pre.o_63 P) (.node tup0 (.node tup0 (.node tup0 .nil .nil) .nil) (.node tup0 (.node tup0 .nil .nil) .nil)) (.node tup0 (.node tup0 (.node tup0 .nil .nil) .nil) (.node tup0 (.node tup0 .nil .nil) .nil))) (.node tup0 (.node tup0 (.node tup0 (.node tup0 .nil .nil) .nil) (.node tup0 (.node tup0 .nil .nil) .nil)) (.node tup0 (.node tup0 (.node tup0 .nil .nil) .nil) (.node tup0 .nil .nil)))) (.node (Pre.o_47 P) (.node tup0 (.node tup0 (.node tup0 (.node tup0 .nil .nil) .nil) (.node tup0 (.node tup0 .nil .nil) .nil)) (.node tup0 (.node tup0 (.node tup0 .nil .nil) .nil) (.node tup0 .nil .nil))) (.node tup0 (.node tup0 (.node tup0 (.node tup0 .nil .nil) .nil) (.node tup0 (.node tup0 .nil .nil) .nil)) (.node tup0 (.node tup0 (.node tup0 .nil .nil) .nil) (.node tup0 .nil .nil))))) (.node (Pre.o_15 P) (.node (Pre.o_35 P) (.node (Pre.o_71 P) (.node tup0 (.node tup0 (.node tup0 .nil .nil) .nil) (.node tup0 (.node tup0 .nil .nil) .nil)) (.node tup0 (.node tup0 (.node tup0 .nil .nil) .nil) (.node tup0 (.node tup0 .nil .nil) .nil))) (.node tup0 (.node tup0 (.node tup0 (.node tup0 .nil .nil) .nil) (.node tup0 (.node tup0 .nil .nil) .nil)) (.node tup0 (.node tup0 (.node tup0 .nil .nil) .nil) (.node tup0 .nil .nil)))) (.node (Pre.o_55 P) (.node tup0 (.node tup0 (.node tup0 (.node tup0 .nil .nil) .nil) (.node tup0 (.node tup0 .nil .nil) .nil)) (.node tup0 (.node tup0 (.node tup0 .nil .nil) .nil) (.node tup0 .nil .nil))) (.node tup0 (.node tup0 (.node tup0 (.node tup0 .nil .nil) .nil) (.node tup0 (.node tup0 .nil .nil) .nil)) (.node tup0 (.node tup0 (.node tup0 .nil .nil) .nil) (.node tup0 .nil .nil)))))) (.node (Pre.o_1 P) (.node (Pre.o_11 P) (.node (Pre.o_31 P) (.node (Pre.o_67 P) (.node tup0 (.node tup0 (.node tup0 .nil .nil) .nil) (.node tup0 (.node tup0 .nil .nil) .nil)) (.node tup0 (.node tup0 (.node tup0 .nil .nil) .nil) (.node tup0 (.node tup0 .nil .nil) .nil))) (.node tup0 (.node tup0 (.node tup0 (.node tup0 .nil .nil) .nil) (.node tup0 (.node tup0 .nil .nil) .nil)) (.node tup0 (.node tup0 (.node tup0 .nil .nil) .nil) (.node tup0 .nil .nil)))) (.node (Pre.o_51 P) (.node tup0 (.node tup0 (.node tup0 (.node tup0 .nil .nil) .nil) (.node tup0 (.node tup0 .nil .nil) .nil)) (.node tup0 (.node tup0 (.node tup0 .nil .nil) .nil) (.node tup0 .nil .nil))) (.node tup0 (.node tup0 (.node tup0 (.node tup0 .nil .nil) .nil) (.node tup0 (.node tup0 .nil .nil) .nil)) (.node tup0 (.node tup0 (.node tup0 .nil .nil) .nil) (.node tup0 .nil .nil))))) (.node (Pre.o_19 P) (.node (Pre.o_39 P) (.node r256 (.node tup0 (.node tup0 (.node tup0 .nil .nil) .nil) (.node tup0 (.node tup0 .nil .nil) .nil)) (.node tup0 (.node tup0 (.node tup0 .nil .nil) .nil) (.node tup0 (.node tup0 .nil .nil) .nil))) (.node tup0 (.node tup0 (.node tup0 (.node tup0 .nil .nil) .nil) (.node tup0 (.node tup0 .nil .nil) .nil)) (.node tup0 (.node tup0 (.node tup0 .nil .nil) .nil) (.node tup0 .nil .nil)))) (.node (Pre.o_59 P) (.node tup0 (.node tup0 (.node tup0 (.node tup0 .nil .nil) .nil) (.node tup0 (.node tup0 .nil .nil) .nil)) (.node tup0 (.node tup0 (.node tup0 .nil .nil) .nil) (.node tup0 .nil .nil))) (.node tup0 (.node tup0 (.node tup0 (.node tup0 .nil .nil) .nil) (.node tup0 (.node tup0 .nil .nil) .nil)) (.node tup0 (.node tup0 (.node tup0 .nil .nil) .nil) (.node tup0 .nil .nil))))))) (.node (PySem.W.boot_o_5 P) (.node (PySem.W.boot_o_9 P) (.node (Pre.o_9 P) (.node (Pre.o_25 P) (.node (Pre.o_65 P) (.node (rg 1120) (.node (rg 3229) (.node (rg 7454) .nil .nil) .nil) (.node (rg 5345) (.node (rg 9569) .nil .nil) .nil)) (.node (rg 2173) (.node (rg 4298) (.node (rg 8523) .nil .nil) .nil) (.node (rg 6398) (.node (rg 10622) .nil .nil) .nil))) (.node (rg 599) (.node (rg 1644) (.node (rg 3761) (.node (rg 7986) .nil .nil) .nil) (.node (rg 5869) (.node (rg 10093) .nil .nil) .nil)) (.node (rg 2700) (.node (rg 4824) (.node (rg 9048) .nil .nil) .nil) (.node (rg 6925) .nil .nil)))) (.node (Pre.o_49 P) (.node (rg 342) (.node (rg 1383) (.node (rg 3496) (.node (rg 7721) .nil .nil) .nil) (.node (rg 5608) (.node (rg 9832) .nil .nil) .nil)) (.node (rg 2439) (.node (rg 4567) (.node (rg 8791) .nil .nil) .nil) (.node (rg 6664) .nil .nil))) (.node (rg 859) (.node (rg 1908) (.node (rg 4029) (.node (rg 8254) .nil .nil) .nil) (.node (rg 6133) (.node (rg 10357) .nil .nil) .nil)) (.node (rg 2964) (.node (rg 5084) (.node (rg 9308) .nil .nil) .nil) (.node (rg 7189) .nil .nil))))) (.node (Pre.o_17 P) (.node (Pre.o_37 P) (.node (lc P 160) (.node (rg 1252) (.node (rg 3363) (.node (rg 7588) .nil .nil) .nil) (.node (rg 5477) (.node (rg 9701) .nil .nil) .nil)) (.node (rg 2307) (.node (rg 4434) (.node (rg 8659) .nil .nil) .nil) (.node (rg 6532) (.node (rg 10756) .nil .nil) .nil))) (.node (rg 729) (.node (rg 1776) (.node (rg 3895) (.node (rg 8120) .nil .nil) .nil) (.node (rg 6001) (.node (rg 10225) .nil .nil) .nil)) (.node (rg 2832) (.node (rg 4954) (.node (rg 9178) .nil .nil) .nil) (.node (rg 7057) .nil .nil)))) (.node (Pre.o_57 P) (.node (rg 470) (.node (rg 1513) (.node (rg 3628) (.node (rg 7853) .nil .nil) .nil) (.node (rg 5738) (.node (rg 9962) .nil .nil) .nil)) (.node (rg 2569) (.node (rg 4695) (.node (rg 8919) .nil .nil) .nil) (.node (rg 6794) .nil .nil))) (.node (rg 989) (.node (rg 2040) (.node (rg 4163) (.node (rg 8388) .nil .nil) .nil) (.node (rg 6265) (.node (rg 10489) .nil .nil) .nil)) (.node (rg 3096) (.node (rg 5214) (.node (rg 9438) .nil .nil) .nil) (.node (rg 7321) .nil .nil)))))) (.node (Pre.o_3 P) (.node (Pre.o_13 P) (.node (Pre.o_33 P) (.node (Pre.o_69 P) (.node (rg 1186) (.node (rg 3296) (.node (rg 7520) .nil .nil) .nil) (.node (rg 5410) (.node (rg 9636) .nil .nil) .nil)) (.node (rg 2240) (.node (rg 4366) (.node (rg 8590) .nil .nil) .nil) (.node (rg 6464) (.node (rg 10690) .nil .nil) .nil))) (.node (rg 664) (.node (rg 1710) (.node (rg 3828) (.node (rg 8052) .nil .nil) .nil) (.node (rg 5934) (.node (rg 10160) .nil .nil) .nil)) (.node (rg 2766) (.node (rg 4888) (.node (rg 9114) .nil .nil) .nil) (.node (rg 6990) .nil .nil)))) (.node (Pre.o_53 P) (.node (rg 406) (.node (rg 1448) (.node (rg 3562) (.node (rg 7786) .nil .nil) .nil) (.node (rg 5672) (.node (rg 9898) .nil .nil) .nil)) (.node (rg 2504) (.node (rg 4630) (.node (rg 8856) .nil .nil) .nil) (.node (rg 6728) .nil .nil))) (.node (rg 924) (.node (rg 1974) (.node (rg 4096) (.node (rg 8320) .nil .nil) .nil) (.node (rg 6198) (.node (rg 10424) .nil .nil) .nil)) (.node (rg 3030) (.node (rg 5148) (.node (rg 9374) .nil .nil) .nil) (.node (rg 7254) .nil .nil))))) (.node (Pre.o_21 P) (.node (Pre.o_41 P) (.node (rg 280) (.node (rg 1320) (.node (rg 3432) (.node (rg 7656) .nil .nil) .nil) (.node (rg 5544) (.node (rg 9768) .nil .nil) .nil)) (.node (rg 2376) (.node (rg 4504) (.node (rg 8728) .nil .nil) .nil) (.node (rg 6600) .nil .nil))) (.node (rg 796) (.node (rg 1844) (.node (rg 3964) (.node (rg 8188) .nil .nil) .nil) (.node (rg 6068) (.node (rg 10292) .nil .nil) .nil)) (.node (rg 2900) (.node (rg 5020) (.node (rg 9244) .nil .nil) .nil) (.node (rg 7124) .nil .nil)))) (.node (Pre.o_61 P) (.node (rg 536) (.node (rg 1580) (.node (rg 3696) (.node (rg 7920) .nil .nil) .nil) (.node (rg 5804) (.node (rg 10028) .nil .nil) .nil)) (.node (rg 2636) (.node (rg 4760) (.node (rg 8984) .nil .nil) .nil) (.node (rg 6860) .nil .nil))) (.node (rg 1056) (.node (rg 2108) (.node (rg 4232) (.node (rg 8456) .nil .nil) .nil) (.node (rg 6332) (.node (rg 10556) .nil .nil) .nil)) (.node (rg 3164) (.node (rg 5280) (.node (rg 9504) .nil .nil) .nil) (.node (rg 7388) .nil .nil)))))))) (.node (PySem.W.boot_o_2 P) (.node (PySem.W.boot_o_4 P) (.node (PySem.W.boot_o_8 P) (.node (Pre.o_8 P) (.node (Pre.o_24 P) (.node (Pre.o_64 P) (.node (se 127) (.node (se 255) (.node (se 511) .nil .nil) .nil) (.node (se 383) (.node (se 639) .nil .nil) .nil)) (.node (se 191) (.node (se 319) (.node (se 575) .nil .nil) .nil) (.node (se 447) (.node (se 703) .nil .nil) .nil))) (.node (se 95) (.node (se 159) (.node (se 287) (.node (se 543) .nil .nil) .nil) (.node (se 415) (.node (se 671) .nil .nil) .nil)) (.node (se 223) (.node (se 351) (.node (se 607) .nil .nil) .nil) (.node (se 479) .nil .nil)))) (.node (Pre.o_48 P) (.node (se 79) (.node (se 143) (.node (se 271) (.node (se 527) .nil .nil) .nil) (.node (se 399) (.node (se 655) .nil .nil) .nil)) (.node (se 207) (.node (se 335) (.node (se 591) .nil .nil) .nil) (.node (se 463) .nil .nil))) (.node (se 111) (.node (se 175) (.node (se 303) (.node (se 559) .nil .nil) .nil) (.node (se 431) (.node (se 687) .nil .nil) .nil)) (.node (se 239) (.node (se 367) (.node (se 623) .nil .nil) .nil) (.node (se 495) .nil .nil))))) (.node (Pre.o_16 P) (.node (Pre.o_36 P) (.node (Pre.o_72 P) (.node (se 135) (.node (se 263) (.node (se 519) .nil .nil) .nil) (.node (se 391) (.node (se 647) .nil .nil) .nil)) (.node (se 199) (.node (se 327) (.node (se 583) .nil .nil) .nil) (.node (se 455) (.node (se 711) .nil .nil) .nil))) (.node (se 103) (.node (se 167) (.node (se 295) (.node (se 551) .nil .nil) .nil) (.node (se 423) (.node (se 679) .nil .nil) .nil)) (.node (se 231) (.node (se 359) (.node (se 615) .nil .nil) .nil) (.node (se 487) .nil .nil)))) (.node (Pre.o_56 P) (.node (se 87) (.node (se 151) (.node (se 279) (.node (se 535) .nil .nil) .nil) (.node (se 407) (.node (se 663) .nil .nil) .nil)) (.node (se 215) (.node (se 343) (.node (se 599) .nil .nil) .nil) (.node (se 471) .nil .nil))) (.node (se 119) (.node (se 183) (.node (se 311) (.node (se 567) .nil .nil) .nil) (.node (se 439) (.node (se 695) .nil .nil) .nil)) (.node (se 247) (.node (se 375) (.node (se 631) .nil .nil) .nil) (.node (se 503) .nil .nil)))))) (.node (Pre.o_45 P) (.node (Pre.o_12 P) (.node (Pre.o_32 P) (.node (Pre.o_68 P) (.node (se 131) (.node (se 259) (.node (se 515) .nil .nil) .nil) (.node (se 387) (.node (se 643) .nil .nil) .nil)) (.node (se 195) (.node (se 323) (.node (se 579) .nil .nil) .nil) (.node (se 451) (.node (se 707) .nil .nil) .nil))) (.node (se 99) (.node (se 163) (.node (se 291) (.node (se 547) .nil .nil) .nil) (.node (se 419) (.node (se 675) .nil .nil) .nil)) (.node (se 227) (.node (se 355) (.node (se 611) .nil .nil) .nil) (.node (se 483) .nil .nil)))) (.node (Pre.o_52 P) (.node (se 83) (.node (se 147) (.node (se 275) (.node (se 531) .nil .nil) .nil) (.node (se 403) (.node (se 659) .nil .nil) .nil)) (.node (se 211) (.node (se 339) (.node (se 595) .nil .nil) .nil) (.node (se 467) .nil .nil))) (.node (se 115) (.node (se 179) (.node (se 307) (.node (se 563) .nil .nil) .nil) (.node (se 435) (.node (se 691) .nil .nil) .nil)) (.node (se 243) (.node (se 371) (.node (se 627) .nil .nil) .nil) (.node (se 499) .nil .nil))))) (.node (Pre.o_20 P) (.node (Pre.o_40 P) (.node (oi 160) (.node (se 139) (.node (se 267) (.node (se 523) .nil .nil) .nil) (.node (se 395) (.node (se 651) .nil .nil) .nil)) (.node (se 203) (.node (se 331) (.node (se 587) .nil .nil) .nil) (.node (se 459) (.node (se 715) .nil .nil) .nil))) (.node (se 107) (.node (se 171) (.node (se 299) (.node (se 555) .nil .nil) .nil) (.node (se 427) (.node (se 683) .nil .nil) .nil)) (.node (se 235) (.node (se 363) (.node (se 619) .nil .nil) .nil) (.node (se 491) .nil .nil)))) (.node (Pre.o_60 P) (.node (se 91) (.node (se 155) (.node (se 283) (.node (se 539) .nil .nil) .nil) (.node (se 411) (.node (se 667) .nil .nil) .nil)) (.node (se 219) (.node (se 347) (.node (se 603) .nil .nil) .nil) (.node (se 475) .nil .nil))) (.node (se 123) (.node (se 187) (.node (se 315) (.node (se 571) .nil .nil) .nil) (.node (se 443) (.node (se 699) .nil .nil) .nil)) (.node (se 251) (.node (se 379) (.node (se 635) .nil .nil) .nil) (.node (se 507) .nil .nil))))))) (.node (PySem.W.boot_o_6 P) (.node (PySem.W.boot_o_10 P) (.node (Pre.o_10 P) (.node (Pre.o_26 P) (.node (Pre.o_66 P) (.node ri (.node ri (.node ri .nil .nil) .nil) (.node ri (.node ri .nil .nil) .nil)) (.node ri (.node ri (.node ri .nil .nil) .nil) (.node ri (.node ri .nil .nil) .nil))) (.node ri (.node ri (.node ri (.node ri .nil .nil) .nil) (.node ri (.node ri .nil .nil) .nil)) (.node ri (.node ri (.node ri .nil .nil) .nil) (.node ri .nil .nil)))) (.node (Pre.o_50 P) (.node ri (.node ri (.node ri (.node ri .nil .nil) .nil) (.node ri (.node ri .nil .nil) .nil)) (.node ri (.node ri (.node ri .nil .nil) .nil) (.node ri .nil .nil))) (.node ri (.node ri (.node ri (.node ri .nil .nil) .nil) (.node ri (.node ri .nil .nil) .nil)) (.node ri (.node ri (.node ri .nil .nil) .nil) (.node ri .nil .nil))))) (.node (Pre.o_18 P) (.node (Pre.o_38 P) (.node (ls 160) (.node ri (.node ri (.node ri .nil .nil) .nil) (.node ri (.node ri .nil .nil) .nil)) (.node ri (.node ri (.node ri .nil .nil) .nil) (.node ri (.node ri .nil .nil) .nil))) (.node ri (.node ri (.node ri (.node ri .nil .nil) .nil) (.node ri (.node ri .nil .nil) .nil)) (.node ri (.node ri (.node ri .nil .nil) .nil) (.node ri .nil .nil)))) (.node (Pre.o_58 P) (.node ri (.node ri (.node ri (.node ri .nil .nil) .nil) (.node ri (.node ri .nil .nil) .nil)) (.node ri (.node ri (.node ri .nil .nil) .nil) (.node ri .nil .nil))) (.node ri (.node ri (.node ri (.node ri .nil .nil) .nil) (.node ri (.node ri .nil .nil) .nil)) (.node ri (.node ri (.node ri .nil .nil) .nil) (.node ri .nil .nil)))))) (.node (Pre.o_4 P) (.node (Pre.o_14 P) (.node (Pre.o_34 P) (.node (Pre.o_70 P) (.node ri (.node ri (.node ri .nil .nil) .nil) (.node ri (.node ri .nil .nil) .nil)) (.node ri (.node ri (.node ri .nil .nil) .nil) (.node ri (.node ri .nil .nil) .nil))) (.node ri (.node ri (.node ri (.node ri .nil .nil) .nil) (.node ri (.node ri .nil .nil) .nil)) (.node ri (.node ri (.node ri .nil .nil) .nil) (.node ri .nil .nil)))) (.node (Pre.o_54 P) (.node ri (.node ri (.node ri (.node ri .nil .nil) .nil) (.node ri (.node ri .nil .nil) .nil)) (.node ri (.node ri (.node ri .nil .nil) .nil) (.node ri .nil .nil))) (.node ri (.node ri (.node ri (.node ri .nil .nil) .nil) (.node ri (.node ri .nil .nil) .nil)) (.node ri (.node ri (.node ri .nil .nil) .nil) (.node ri .nil .nil))))) (.node (Pre.o_22 P) (.node (Pre.o_42 P) (.node ri (.node ri (.node ri (.node ri .nil .nil) .nil) (.node ri (.node ri .nil .nil) .nil)) (.node ri (.node ri (.node ri .nil .nil) .nil) (.node ri .nil .nil))) (.node ri (.node ri (.node ri (.node ri .nil .nil) .nil) (.node ri (.node ri .nil .nil) .nil)) (.node ri (.node ri (.node ri .nil .nil) .nil) (.node ri .nil .nil)))) (.node (Pre.o_62 P) (.node ri (.node ri (.node ri (.node ri .nil .nil) .nil) (.node ri (.node ri .nil .nil) .nil)) (.node ri (.node ri (.node ri .nil .nil) .nil) (.node ri .nil .nil))) (.node ri (.node ri (.node ri (.node ri .nil .nil) .nil) (.node ri (.node ri .nil .nil) .nil)) (.node ri (.node ri (.node ri .nil .nil) .nil) (.node ri .nil .nil)))))))))
noncomputable def B11 (P : Params) : BT := (.node (PySem.W.boot_o_0 P) (.node (PySem.W.boot_o_1 P) (.node (Pre.o_44 P) (.node (PySem.W.boot_o_7 P) (.node (Pre.o_7 P) (.node (Pre.o_46 P) (.node (Pre.o_63 P) (.node tup0 (.node tup0 (.node tup0 .nil .nil) (.node tup0 .nil .nil)) (.node tup0 (.node tup0 .nil .nil) .nil)) (.node tup0 (.node tup0 (.node tup0 .nil .nil) .nil) (.node tup0 (.node tup0 .nil .nil) .nil))) (.node tup0 (.node tup0 (.node tup0 (.node tup0 .nil .nil) .nil) (.node tup0 (.node tup0 .nil .nil) .nil)) (.node tup0 (.node tup0 (.node tup0 .nil .nil) .nil) (.node tup0 (.node tup0 .nil .nil) .nil)))) (.node (Pre.o_47 P) (.node tup0 (.node tup0 (.node tup0 (.node tup0 .nil .nil) .nil) (.node tup0 (.node tup0 .nil .nil) .nil)) (.node tup0 (.node tup0 (.node tup0 .nil .nil) .nil) (.node tup0 (.node tup0 .nil .nil) .nil))) (.node tup0 (.node tup0 (.node tup0 (.node tup0 .nil .nil) .nil) (.node tup0 (.node tup0 .nil .nil) .nil)) (.node tup0 (.node tup0 (.node tup0 .nil .nil) .nil) (.node tup0 (.node tup0 .nil .nil) .nil))))) (.node (Pre.o_15 P) (.node (Pre.o_35 P) (.node (Pre.o_71 P) (.node tup0 (.node tup0 (.node tup0 .nil .nil) (.node tup0 .nil .nil)) (.node tup0 (.node tup0 .nil .nil) .nil)) (.node tup0 (.node tup0 (.node tup0 .nil .nil) .nil) (.node tup0 (.node tup0 .nil .nil) .nil))) (.node tup0 (.node tup0 (.node tup0 (.node tup0 .nil .nil) .nil) (.node tup0 (.node tup0 .nil .nil) .nil)) (.node tup0 (.node tup0 (.node tup0 .nil .nil) .nil) (.node tup0 (.node tup0 .nil .nil) .nil)))) (.node (Pre.o_55 P) (.node tup0 (.node tup0 (.node tup0 (.node tup0 .nil .nil) .nil) (.node tup0 (.node tup0 .nil .nil) .nil)) (.node tup0 (.node tup0 (.node tup0 .nil .nil) .nil) (.node tup0 (.node tup0 .nil .nil) .nil))) (.node tup0 (.node tup0 (.node tup0 (.node tup0 .nil .nil) .nil) (.node tup0 (.node tup0 .nil .nil) .nil)) (.node tup0 (.node tup0 (.node tup0 .nil .nil) .nil) (.node tup0 (.node tup0 .nil .nil) .nil)))))) (.node (Pre.o_1 P) (.node (Pre.o_11 P) (.node (Pre.o_31 P) (.node (Pre.o_67 P) (.node tup0 (.node tup0 (.node tup0 .nil .nil) (.node tup0 .nil .nil)) (.node tup0 (.node tup0 .nil .nil) .nil)) (.node tup0 (.node tup0 (.node tup0 .nil .nil) .nil) (.node tup0 (.node tup0 .nil .nil) .nil))) (.node tup0 (.node tup0 (.node tup0 (.node tup0 .nil .nil) .nil) (.node tup0 (.node tup0 .nil .nil) .nil)) (.node tup0 (.node tup0 (.node tup0 .nil .nil) .nil) (.node tup0 (.node tup0 .nil .nil) .nil)))) (.node (Pre.o_51 P) (.node tup0 (.node tup0 (.node tup0 (.node tup0 .nil .nil) .nil) (.node tup0 (.node tup0 .nil .nil) .nil)) (.node tup0 (.node tup0 (.node tup0 .nil .nil) .nil) (.node tup0 (.node tup0 .nil .nil) .nil))) (.node tup0 (.node tup0 (.node tup0 (.node tup0 .nil .nil) .nil) (.node tup0 (.node tup0 .nil .nil) .nil)) (.node tup0 (.node tup0 (.node tup0 .nil .nil) .nil) (.node tup0 (.node tup0 .nil .nil) .nil))))) (.node (Pre.o_19 P) (.node (Pre.o_39 P) (.node r256 (.node tup0 (.node tup0 (.node tup0 .nil .nil) (.node tup0 .nil .nil)) (.node tup0 (.node tup0 .nil .nil) .nil)) (.node tup0 (.node tup0 (.node tup0 .nil .nil) .nil) (.node tup0 (.node tup0 .nil .nil) .nil))) (.node tup0 (.node tup0 (.node tup0 (.node tup0 .nil .nil) .nil) (.node tup0 (.node tup0 .nil .nil) .nil)) (.node tup0 (.node tup0 (.node tup0 .nil .nil) .nil) (.node tup0 (.node tup0 .nil .nil) .nil)))) (.node (Pre.o_59 P) (.node tup0 (.node tup0 (.node tup0 (.node tup0 .nil .nil) .nil) (.node tup0 (.node tup0 .nil .nil) .nil)) (.node tup0 (.node tup0 (.node tup0 .nil .nil) .nil) (.node tup0 (.node tup0 .nil .nil) .nil))) (.node tup0 (.node tup0 (.node tup0 (.node tup0 .nil .nil) .nil) (.node tup0 (.node tup0 .nil .nil) .nil)) (.node tup0 (.node tup0 (.node tup0 .nil .nil) .nil) (.node tup0 (.node tup0 .nil .nil) .nil))))))) (.node (PySem.W.boot_o_5 P) (.node (PySem.W.boot_o_9 P) (.node (Pre.o_9 P) (.node (Pre.o_25 P) (.node (Pre.o_65 P) (.node (rg 1120) (.node (rg 3229) (.node (rg 7454) .nil .nil) (.node (rg 11678) .nil .nil)) (.node (rg 5345) (.node (rg 9569) .nil .nil) .nil)) (.node (rg 2173) (.node (rg 4298) (.node (rg 8523) .nil .nil) .nil) (.node (rg 6398) (.node (rg 10622) .nil .nil) .nil))) (.node (rg 599) (.node (rg 1644) (.node (rg 3761) (.node (rg 7986) .nil .nil) .nil) (.node (rg 5869) (.node (rg 10093) .nil .nil) .nil)) (.node (rg 2700) (.node (rg 4824) (.node (rg 9048) .nil .nil) .nil) (.node (rg 6925) (.node (rg 11149) .nil .nil) .nil)))) (.node (Pre.o_49 P) (.node (rg 342) (.node (rg 1383) (.node (rg 3496) (.node (rg 7721) .nil .nil) .nil) (.node (rg 5608) (.node (rg 9832) .nil .nil) .nil)) (.node (rg 2439) (.node (rg 4567) (.node (rg 8791) .nil .nil) .nil) (.node (rg 6664) (.node (rg 10888) .nil .nil) .nil))) (.node (rg 859) (.node (rg 1908) (.node (rg 4029) (.node (rg 8254) .nil .nil) .nil) (.node (rg 6133) (.node (rg 10357) .nil .nil) .nil)) (.node (rg 2964) (.node (rg 5084) (.node (rg 9308) .nil .nil) .nil) (.node (rg 7189) (.node (rg 11413) .nil .nil) .nil))))) (.node (Pre.o_17 P) (.node (Pre.o_37 P) (.node (lc P 176) (.node (rg 1252) (.node (rg 3363) (.node (rg 7588) .nil .nil) (.node (rg 11812) .nil .nil)) (.node (rg 5477) (.node (rg 9701) .nil .nil) .nil)) (.node (rg 2307) (.node (rg 4434) (.node (rg 8659) .nil .nil) .nil) (.node (rg 6532) (.node (rg 10756) .nil .nil) .nil))) (.node (rg 729) (.node (rg 1776) (.node (rg 3895) (.node (rg 8120) .nil .nil) .nil) (.node (rg 6001) (.node (rg 10225) .nil .nil) .nil)) (.node (rg 2832) (.node (rg 4954) (.node (rg 9178) .nil .nil) .nil) (.node (rg 7057) (.node (rg 11281) .nil .nil) .nil)))) (.node (Pre.o_57 P) (.node (rg 470) (.node (rg 1513) (.node (rg 3628) (.node (rg 7853) .nil .nil) .nil) (.node (rg 5738) (.node (rg 9962) .nil .nil) .nil)) (.node (rg 2569) (.node (rg 4695) (.node (rg 8919) .nil .nil) .nil) (.node (rg 6794) (.node (rg 11018) .nil .nil) .nil))) (.node (rg 989) (.node (rg 2040) (.node (rg 4163) (.node (rg 8388) .nil .nil) .nil) (.node (rg 6265) (.node (rg 10489) .nil .nil) .nil)) (.node (rg 3096) (.node (rg 5214) (.node (rg 9438) .nil .nil) .nil) (.node (rg 7321) (.node (rg 11545) .nil .nil) .nil)))))) (.node (Pre.o_3 P) (.node (Pre.o_13 P) (.node (Pre.o_33 P) (.node (Pre.o_69 P) (.node (rg 1186) (.node (rg 3296) (.node (rg 7520) .nil .nil) (.node (rg 11746) .nil .nil)) (.node (rg 5410) (.node (rg 9636) .nil .nil) .nil)) (.node (rg 2240) (.node (rg 4366) (.node (rg 8590) .nil .nil) .nil) (.node (rg 6464) (.node (rg 10690) .nil .nil) .nil))) (.node (rg 664) (.node (rg 1710) (.node (rg 3828) (.node (rg 8052) .nil .nil) .nil) (.node (rg 5934) (.node (rg 10160) .nil .nil) .nil)) (.node (rg 2766) (.node (rg 4888) (.node (rg 9114) .nil .nil) .nil) (.node (rg 6990) (.node (rg 11216) .nil .nil) .nil)))) (.node (Pre.o_53 P) (.node (rg 406) (.node (rg 1448) (.node (rg 3562) (.node (rg 7786) .nil .nil) .nil) (.node (rg 5672) (.node (rg 9898) .nil .nil) .nil)) (.node (rg 2504) (.node (rg 4630) (.node (rg 8856) .nil .nil) .nil) (.node (rg 6728) (.node (rg 10954) .nil .nil) .nil))) (.node (rg 924) (.node (rg 1974) (.node (rg 4096) (.node (rg 8320) .nil .nil) .nil) (.node (rg 6198) (.node (rg 10424) .nil .nil) .nil)) (.node (rg 3030) (.node (rg 5148) (.node (rg 9374) .nil .nil) .nil) (.node (rg 7254) (.node (rg 11480) .nil .nil) .nil))))) (.node (Pre.o_21 P) (.node (Pre.o_41 P) (.node (rg 280) (.node (rg 1320) (.node (rg 3432) (.node (rg 7656) .nil .nil) .nil) (.node (rg 5544) (.node (rg 9768) .nil .nil) .nil)) (.node (rg 2376) (.node (rg 4504) (.node (rg 8728) .nil .nil) .nil) (.node (rg 6600) (.node (rg 10824) .nil .nil) .nil))) (.node (rg 796) (.node (rg 1844) (.node (rg 3964) (.node (rg 8188) .nil .nil) .nil) (.node (rg 6068) (.node (rg 10292) .nil .nil) .nil)) (.node (rg 2900) (.node (rg 5020) (.node (rg 9244) .nil .nil) .nil) (.node (rg 7124) (.node (rg 11348) .nil .nil) .nil)))) (.node (Pre.o_61 P) (.node (rg 536) (.node (rg 1580) (.node (rg 3696) (.node (rg 7920) .nil .nil) .nil) (.node (rg 5804) (.node (rg 10028) .nil .nil) .nil)) (.node (rg 2636) (.node (rg 4760) (.node (rg 8984) .nil .nil) .nil) (.node (rg 6860) (.node (rg 11084) .nil .nil) .nil))) (.node (rg 1056) (.node (rg 2108) (.node (rg 4232) (.node (rg 8456) .nil .nil) .nil) (.node (rg 6332) (.node (rg 10556) .nil .nil) .nil)) (.node (rg 3164) (.node (rg 5280) (.node (rg 9504) .nil .nil) .nil) (.node (rg 7388) (.node (rg 11612) .nil .nil) .nil)))))))) (.node (PySem.W.boot_o_2 P) (.node (PySem.W.boot_o_4 P) (.node (PySem.W.boot_o_8 P) (.node (Pre.o_8 P) (.node (Pre.o_24 P) (.node (Pre.o_64 P) (.node (se 127) (.node (se 255) (.node (se 511) .nil .nil) (.node (se 767) .nil .nil)) (.node (se 383) (.node (se 639) .nil .nil) .nil)) (.node (se 191) (.node (se 319) (.node (se 575) .nil .nil) .nil) (.node (se 447) (.node (se 703) .nil .nil) .nil))) (.node (se 95) (.node (se 159) (.node (se 287) (.node (se 543) .nil .nil) .nil) (.node (se 415) (.node (se 671) .nil .nil) .nil)) (.node (se 223) (.node (se 351) (.node (se 607) .nil .nil) .nil) (.node (se 479) (.node (se 735) .nil .nil) .nil)))) (.node (Pre.o_48 P) (.node (se 79) (.node (se 143) (.node (se 271) (.node (se 527) .nil .nil) .nil) (.node (se 399) (.node (se 655) .nil .nil) .nil)) (.node (se 207) (.node (se 335) (.node (se 591) .nil .nil) .nil) (.node (se 463) (.node (se 719) .nil .nil) .nil))) (.node (se 111) (.node (se 175) (.node (se 303) (.node (se 559) .nil .nil) .nil) (.node (se 431) (.node (se 687) .nil .nil) .nil)) (.node (se 239) (.node (se 367) (.node (se 623) .nil .nil) .nil) (.node (se 495) (.node (se 751) .nil .nil) .nil))))) (.node (Pre.o_16 P) (.node (Pre.o_36 P) (.node (Pre.o_72 P) (.node (se 135) (.node (se 263) (.node (se 519) .nil .nil) (.node (se 775) .nil .nil)) (.node (se 391) (.node (se 647) .nil .nil) .nil)) (.node (se 199) (.node (se 327) (.node (se 583) .nil .nil) .nil) (.node (se 455) (.node (se 711) .nil .nil) .nil))) (.node (se 103) (.node (se 167) (.node (se 295) (.node (se 551) .nil .nil) .nil) (.node (se 423) (.node (se 679) .nil .nil) .nil)) (.node (se 231) (.node (se 359) (.node (se 615) .nil .nil) .nil) (.node (se 487) (.node (se 743) .nil .nil) .nil)))) (.node (Pre.o_56 P) (.node (se 87) (.node (se 151) (.node (se 279) (.node (se 535) .nil .nil) .nil) (.node (se 407) (.node (se 663) .nil .nil) .nil)) (.node (se 215) (.node (se 343) (.node (se 599) .nil .nil) .nil) (.node (se 471) (.node (se 727) .nil .nil) .nil))) (.node (se 119) (.node (se 183) (.node (se 311) (.node (se 567) .nil .nil) .nil) (.node (se 439) (.node (se 695) .nil .nil) .nil)) (.node (se 247) (.node (se 375) (.node (se 631) .nil .nil) .nil) (.node (se 503) (.node (se 759) .nil .nil) .nil)))))) (.node (Pre.o_45 P) (.node (Pre.o_12 P) (.node (Pre.o_32 P) (.node (Pre.o_68 P) (.node (se 131) (.node (se 259) (.node (se 515) .nil .nil) (.node (se 771) .nil .nil)) (.node (se 387) (.node (se 643) .nil .nil) .nil)) (.node (se 195) (.node (se 323) (.node (se 579) .nil .nil) .nil) (.node (se 451) (.node (se 707) .nil .nil) .nil))) (.node (se 99) (.node (se 163) (.node (se 291) (.node (se 547) .nil .nil) .nil) (.node (se 419) (.node (se 675) .nil .nil) .nil)) (.node (se 227) (.node (se 355) (.node (se 611) .nil .nil) .nil) (.node (se 483) (.node (se 739) .nil .nil) .nil)))) (.node (Pre.o_52 P) (.node (se 83) (.node (se 147) (.node (se 275) (.node (se 531) .nil .nil) .nil) (.node (se 403) (.node (se 659) .nil .nil) .nil)) (.node (se 211) (.node (se 339) (.node (se 595) .nil .nil) .nil) (.node (se 467) (.node (se 723) .nil .nil) .nil))) (.node (se 115) (.node (se 179) (.node (se 307) (.node (se 563) .nil .nil) .nil) (.node (se 435) (.node (se 691) .nil .nil) .nil)) (.node (se 243) (.node (se 371) (.node (se 627) .nil .nil) .nil) (.node (se 499) (.node (se 755) .nil .nil) .nil))))) (.node (Pre.o_20 P) (.node (Pre.o_40 P) (.node (oi 176) (.node (se 139) (.node (se 267) (.node (se 523) .nil .nil) (.node (se 779) .nil .nil)) (.node (se 395) (.node (se 651) .nil .nil) .nil)) (.node (se 203) (.node (se 331) (.node (se 587) .nil .nil) .nil) (.node (se 459) (.node (se 715) .nil .nil) .nil))) (.node (se 107) (.node (se 171) (.node (se 299) (.node (se 555) .nil .nil) .nil) (.node (se 427) (.node (se 683) .nil .nil) .nil)) (.node (se 235) (.node (se 363) (.node (se 619) .nil .nil) .nil) (.node (se 491) (.node (se 747) .nil .nil) .nil)))) (.node (Pre.o_60 P) (.node (se 91) (.node (se 155) (.node (se 283) (.node (se 539) .nil .nil) .nil) (.node (se 411) (.node (se 667) .nil .nil) .nil)) (.node (se 219) (.node (se 347) (.node (se 603) .nil .nil) .nil) (.node (se 475) (.node (se 731) .nil .nil) .nil))) (.node (se 123) (.node (se 187) (.node (se 315) (.node (se 571) .nil .nil) .nil) (.node (se 443) (.node (se 699) .nil .nil) .nil)) (.node (se 251) (.node (se 379) (.node (se 635) .nil .nil) .nil) (.node (se 507) (.node (se 763) .nil .nil) .nil))))))) (.node (PySem.W.boot_o_6 P) (.node (PySem.W.boot_o_10 P) (.node (Pre.o_10 P) (.node (Pre.o_26 P) (.node (Pre.o_66 P) (.node ri (.node ri (.node ri .nil .nil) (.node ri .nil .nil)) (.node ri (.node ri .nil .nil) .nil)) (.node ri (.node ri (.node ri .nil .nil) .nil) (.node ri (.node ri .nil .nil) .nil))) (.node ri (.node ri (.node ri (.node ri .nil .nil) .nil) (.node ri (.node ri .nil .nil) .nil)) (.node ri (.node ri (.node ri .nil .nil) .nil) (.node ri (.node ri .nil .nil) .nil)))) (.node (Pre.o_50 P) (.node ri (.node ri (.node ri (.node ri .nil .nil) .nil) (.node ri (.node ri .nil .nil) .nil)) (.node ri (.node ri (.node ri .nil .nil) .nil) (.node ri (.node ri .nil .nil) .nil))) (.node ri (.node ri (.node ri (.node ri .nil .nil) .nil) (.node ri (.node ri .nil .nil) .nil)) (.node ri (.node ri (.node ri .nil .nil) .nil) (.node ri (.node ri .nil .nil) .nil))))) (.node (Pre.o_18 P) (.node (Pre.o_38 P) (.node (ls 176) (.node ri (.node ri (.node ri .nil .nil) (.node ri .nil .nil)) (.node ri (.node ri .nil .nil) .nil)) (.node ri (.node ri (.node ri .nil .nil) .nil) (.node ri (.node ri .nil .nil) .nil))) (.node ri (.node ri (.node ri (.node ri .nil .nil) .nil) (.node ri (.node ri .nil .nil) .nil)) (.node ri (.node ri (.node ri .nil .nil) .nil) (.node ri (.node ri .nil .nil) .nil)))) (.node (Pre.o_58 P) (.node ri (.node ri (.node ri (.node ri .nil .nil) .nil) (.node ri (.node ri .nil .nil) .nil)) (.node ri (.node ri (.node ri .nil .nil) .nil) (.node ri (.node ri .nil .nil) .nil))) (.node ri (.node ri (.node ri (.node ri .nil .nil) .nil) (.node ri (.node ri .nil .nil) .nil)) (.node ri (.node ri (.node ri .nil .nil) .nil) (.node ri (.node ri .nil .nil) .nil)))))) (.node (Pre.o_4 P) (.node (Pre.o_14 P) (.node (Pre.o_34 P) (.node (Pre.o_70 P) (.node ri (.node ri (.node ri .nil .nil) (.node ri .nil .nil)) (.node ri (.node ri .nil .nil) .nil)) (.node ri (.node ri (.node ri .nil .nil) .nil) (.node ri (.node ri .nil .nil) .nil))) (.node ri (.node ri (.node ri (.node ri .nil .nil) .nil) (.node ri (.node ri .nil .nil) .nil)) (.node ri (.node ri (.node ri .nil .nil) .nil) (.node ri (.node ri .nil .nil) .nil)))) (.node (Pre.o_54 P) (.node ri (.node ri (.node ri (.node ri .nil .nil) .nil) (.node ri (.node ri .nil .nil) .nil)) (.node ri (.node ri (.node ri .nil .nil) .nil) (.node ri (.node ri .nil .nil) .nil))) (.node ri (.node ri (.node ri (.node ri .nil .nil) .nil) (.node ri (.node ri .nil .nil) .nil)) (.node ri (.node ri (.node ri .nil .nil) .nil) (.node ri (.node ri .nil .nil) .nil))))) (.node (Pre.o_22 P) (.node (Pre.o_42 P) (.node ri (.node ri (.node ri (.node ri .nil .nil) .nil) (.node ri (.node ri .nil .nil) .nil)) (.node ri (.node ri (.node ri .nil .nil) .nil) (.node ri (.node ri .nil .nil) .nil))) (.node ri (.node ri (.node ri (.node ri .nil .nil) .nil) (.node ri (.node ri .nil .nil) .nil)) (.node ri (.node ri (.node ri .nil .nil) .nil) (.node ri (.node ri .nil .nil) .nil)))) (.node (Pre.o_62 P) (.node ri (.node ri (.node ri (.node ri .nil .nil) .nil) (.node ri (.node ri .nil .nil) .nil)) (.node ri (.node ri (.node ri .nil .nil) .nil) (.node ri (.node ri .nil .nil) .nil))) (.node ri (.node ri (.node ri (.node ri .nil .nil) .nil) (.node ri (.node ri .nil .nil) .nil)) (.node ri (.node ri (.node ri .nil .nil) .nil) (.node ri (.node ri .nil .nil) .nil)))))))))
noncomputable def B12 (P : Params) : BT := (.node (PySem.W.boot_o_0 P) (.node (PySem.W.boot_o_1 P) (.node (Pre.o_44 P) (.node (PySem.W.boot_o_7 P) (.node (Pre.o_7 P) (.node (Pre.o_46 P) (.node (Pre.o_63 P) (.node tup0 (.node tup0 (.node tup0 .nil .nil) (.node tup0 .nil .nil)) (.node tup0 (.node tup0 .nil .nil) .nil)) (.node tup0 (.node tup0 (.node tup0 .nil .nil) (.node tup0 .nil .nil)) (.node tup0 (.node tup0 .nil .nil) .nil))) (.node tup0 (.node tup0 (.node tup0 (.node tup0 .nil .nil) (.node tup0 .nil .nil)) (.node tup0 (.node tup0 .nil .nil) .nil)) (.node tup0 (.node tup0 (.node tup0 .nil .nil) .nil) (.node tup0 (.node tup0 .nil .nil) .nil)))) (.node (Pre.o_47 P) (.node tup0 (.node tup0 (.node tup0 (.node tup0 .nil .nil) (.node tup0 .nil .nil)) (.node tup0 (.node tup0 .nil .nil) .nil)) (.node tup0 (.node tup0 (.node tup0 .nil .nil) .nil) (.node tup0 (.node tup0 .nil .nil) .nil))) (.node tup0 (.node tup0 (.node tup0 (.node tup0 .nil .nil) (.node tup0 .nil .nil)) (.node tup0 (.node tup0 .nil .nil) .nil)) (.node tup0 (.node tup0 (.node tup0 .nil .nil) .nil) (.node tup0 (.node tup0 .nil .nil) .nil))))) (.node (Pre.o_15 P) (.node (Pre.o_35 P) (.node (Pre.o_71 P) (.node tup0 (.node tup0 (.node tup0 .nil .nil) (.node tup0 .nil .nil)) (.node tup0 (.node tup0 .nil .nil) .nil)) (.node tup0 (.node tup0 (.node tup0 .nil .nil) (.node tup0 .nil .nil)) (.node tup0 (.node tup0 .nil .nil) .nil))) (.node tup0 (.node tup0 (.node tup0 (.node tup0 .nil .nil) (.node tup0 .nil .nil)) (.node tup0 (.node tup0 .nil .nil) .nil)) (.node tup0 (.node tup0 (.node tup0 .nil .nil) .nil) (.node tup0 (.node tup0 .nil .nil) .nil)))) (.node (Pre.o_55 P) (.node tup0 (.node tup0 (.node tup0 (.node tup0 .nil .nil) (.node tup0 .nil .nil)) (.node tup0 (.node tup0 .nil .nil) .nil)) (.node tup0 (.node tup0 (.node tup0 .nil .nil) .nil) (.node tup0 (.node tup0 .nil .nil) .nil))) (.node tup0 (.node tup0 (.node tup0 (.node tup0 .nil .nil) (.node tup0 .nil .nil)) (.node tup0 (.node tup0 .nil .nil) .nil)) (.node tup0 (.node tup0 (.node tup0 .nil .nil) .nil) (.node tup0 (.node tup0 .nil .nil) .nil)))))) (.node (Pre.o_1 P) (.node (Pre.o_11 P) (.node (Pre.o_31 P) (.node (Pre.o_67 P) (.node tup0 (.node tup0 (.node tup0 .nil .nil) (.node tup0 .nil .nil)) (.node tup0 (.node tup0 .nil .nil) .nil)) (.node tup0 (.node tup0 (.node tup0 .nil .nil) (.node tup0 .nil .nil)) (.node tup0 (.node tup0 .nil .nil) .nil))) (.node tup0 (.node tup0 (.node tup0 (.node tup0 .nil .nil) (.node tup0 .nil .nil)) (.node tup0 (.node tup0 .nil .nil) .nil)) (.node tup0 (.node tup0 (.node tup0 .nil .nil) .nil) (.node tup0 (.node tup0 .nil .nil) .nil)))) (.node (Pre.o_51 P) (.node tup0 (.node tup0 (.node tup0 (.node tup0 .nil .nil) (.node tup0 .nil .nil)) (.node tup0 (.node tup0 .nil .nil) .nil)) (.node tup0 (.node tup0 (.node tup0 .nil .nil) .nil) (.node tup0 (.node tup0 .nil .nil) .nil))) (.node tup0 (.node tup0 (.node tup0 (.node tup0 .nil .nil) (.node tup0 .nil .nil)) (.node tup0 (.node tup0 .nil .nil) .nil)) (.node tup0 (.node tup0 (.node tup0 .nil .nil) .nil) (.node tup0 (.node tup0 .nil .nil) .nil))))) (.node (Pre.o_19 P) (.node (Pre.o_39 P) (.node r256 (.node tup0 (.node tup0 (.node tup0 .nil .nil) (.node tup0 .nil .nil)) (.node tup0 (.node tup0 .nil .nil) .nil)) (.node tup0 (.node tup0 (.node tup0 .nil .nil) (.node tup0 .nil .nil)) (.node tup0 (.node tup0 .nil .nil) .nil))) (.node tup0 (.node tup0 (.node tup0 (.node tup0 .nil .nil) (.node tup0 .nil .nil)) (.node tup0 (.node tup0 .nil .nil) .nil)) (.node tup0 (.node tup0 (.node tup0 .nil .nil) .nil) (.node tup0 (.node tup0 .nil .nil) .nil)))) (.node (Pre.o_59 P) (.node tup0 (.node tup0 (.node tup0 (.node tup0 .nil .nil) (.node tup0 .nil .nil)) (.node tup0 (.node tup0 .nil .nil) .nil)) (.node tup0 (.node tup0 (.node tup0 .nil .nil) .nil) (.node tup0 (.node tup0 .nil .nil) .nil))) (.node tup0 (.node tup0 (.node tup0 (.node tup0 .nil .nil) (.node tup0 .nil .nil)) (.node tup0 (.node tup0 .nil .nil) .nil)) (.node tup0 (.node tup0 (.node tup0 .nil .nil) .nil) (.node tup0 (.node tup0 .nil .nil) .nil))))))) (.node (PySem.W.boot_o_5 P) (.node (PySem.W.boot_o_9 P) (.node (Pre.o_9 P) (.node (Pre.o_25 P) (.node (Pre.o_65 P) (.node (rg 1120) (.node (rg 3229) (.node (rg 7454) .nil .nil) (.node (rg 11678) .nil .nil)) (.node (rg 5345) (.node (rg 9569) .nil .nil) .nil)) (.node (rg 2173) (.node (rg 4298) (.node (rg 8523) .nil .nil) (.node (rg 12747) .nil .nil)) (.node (rg 6398) (.node (rg 10622) .nil .nil) .nil))) (.node (rg 599) (.node (rg 1644) (.node (rg 3761) (.node (rg 7986) .nil .nil) (.node (rg 12210) .nil .nil)) (.node (rg 5869) (.node (rg 10093) .nil .nil) .nil)) (.node (rg 2700) (.node (rg 4824) (.node (rg 9048) .nil .nil) .nil) (.node (rg 6925) (.node (rg 11149) .nil .nil) .nil)))) (.node (Pre.o_49 P) (.node (rg 342) (.node (rg 1383) (.node (rg 3496) (.node (rg 7721) .nil .nil) (.node (rg 11945) .nil .nil)) (.node (rg 5608) (.node (rg 9832) .nil .nil) .nil)) (.node (rg 2439) (.node (rg 4567) (.node (rg 8791) .nil .nil) .nil) (.node (rg 6664) (.node (rg 10888) .nil .nil) .nil))) (.node (rg 859) (.node (rg 1908) (.node (rg 4029) (.node (rg 8254) .nil .nil) (.node (rg 12478) .nil .nil)) (.node (rg 6133) (.node (rg 10357) .nil .nil) .nil)) (.node (rg 2964) (.node (rg 5084) (.node (rg 9308) .nil .nil) .nil) (.node (rg 7189) (.node (rg 11413) .nil .nil) .nil))))) (.node (Pre.o_17 P) (.node (Pre.o_37 P) (.node (lc P 192) (.node (rg 1252) (.node (rg 3363) (.node (rg 7588) .nil .nil) (.node (rg 11812) .nil .nil)) (.node (rg 5477) (.node (rg 9701) .nil .nil) .nil)) (.node (rg 2307) (.node (rg 4434) (.node (rg 8659) .nil .nil) (.node (rg 12883) .nil .nil)) (.node (rg 6532) (.node (rg 10756) .nil .nil) .nil))) (.node (rg 729) (.node (rg 1776) (.node (rg 3895) (.node (rg 8120) .nil .nil) (.node (rg 12344) .nil .nil)) (.node (rg 6001) (.node (rg 10225) .nil .nil) .nil)) (.node (rg 2832) (.node (rg 4954) (.node (rg 9178) .nil .nil) .nil) (.node (rg 7057) (.node (rg 11281) .nil .nil) .nil)))) (.node (Pre.o_57 P) (.node (rg 470) (.node (rg 1513) (.node (rg 3628) (.node (rg 7853) .nil .nil) (.node (rg 12077) .nil .nil)) (.node (rg 5738) (.node (rg 9962) .nil .nil) .nil)) (.node (rg 2569) (.node (rg 4695) (.node (rg 8919) .nil .nil) .nil) (.node (rg 6794) (.node (rg 11018) .nil .nil) .nil))) (.node (rg 989) (.node (rg 2040) (.node (rg 4163) (.node (rg 8388) .nil .nil) (.node (rg 12612) .nil .nil)) (.node (rg 6265) (.node (rg 10489) .nil .nil) .nil)) (.node (rg 3096) (.node (rg 5214) (.node (rg 9438) .nil .nil) .nil) (.node (rg 7321) (.node (rg 11545) .nil .nil) .nil)))))) (.node (Pre.o_3 P) (.node (Pre.o_13 P) (.node (Pre.o_33 P) (.node (Pre.o_69 P) (.node (rg 1186) (.node (rg 3296) (.node (rg 7520) .nil .nil) (.node (rg 11746) .nil .nil)) (.node (rg 5410) (.node (rg 9636) .nil .nil) .nil)) (.node (rg 2240) (.node (rg 4366) (.node (rg 8590) .nil .nil) (.node (rg 12816) .nil .nil)) (.node (rg 6464) (.node (rg 10690) .nil .nil) .nil))) (.node (rg 664) (.node (rg 1710) (.node (rg 3828) (.node (rg 8052) .nil .nil) (.node (rg 12278) .nil .nil)) (.node (rg 5934) (.node (rg 10160) .nil .nil) .nil)) (.node (rg 2766) (.node (rg 4888) (.node (rg 9114) .nil .nil) .nil) (.node (rg 6990) (.node (rg 11216) .nil .nil) .nil)))) (.node (Pre.o_53 P) (.node (rg 406) (.node (rg 1448) (.node (rg 3562) (.node (rg 7786) .nil .nil) (.node (rg 12012) .nil .nil)) (.node (rg 5672) (.node (rg 9898) .nil .nil) .nil)) (.node (rg 2504) (.node (rg 4630) (.node (rg 8856) .nil .nil) .nil) (.node (rg 6728) (.node (rg 10954) .nil .nil) .nil))) (.node (rg 924) (.node (rg 1974) (.node (rg 4096) (.node (rg 8320) .nil .nil) (.node (rg 12546) .nil .nil)) (.node (rg 6198) (.node (rg 10424) .nil .nil) .nil)) (.node (rg 3030) (.node (rg 5148) (.node (rg 9374) .nil .nil) .nil) (.node (rg 7254) (.node (rg 11480) .nil .nil) .nil))))) (.node (Pre.o_21 P) (.node (Pre.o_41 P) (.node (rg 280) (.node (rg 1320) (.node (rg 3432) (.node (rg 7656) .nil .nil) (.node (rg 11880) .nil .nil)) (.node (rg 5544) (.node (rg 9768) .nil .nil) .nil)) (.node (rg 2376) (.node (rg 4504) (.node (rg 8728) .nil .nil) .nil) (.node (rg 6600) (.node (rg 10824) .nil .nil) .nil))) (.node (rg 796) (.node (rg 1844) (.node (rg 3964) (.node (rg 8188) .nil .nil) (.node (rg 12412) .nil .nil)) (.node (rg 6068) (.node (rg 10292) .nil .nil) .nil)) (.node (rg 2900) (.node (rg 5020) (.node (rg 9244) .nil .nil) .nil) (.node (rg 7124) (.node (rg 11348) .nil .nil) .nil)))) (.node (Pre.o_61 P) (.node (rg 536) (.node (rg 1580) (.node (rg 3696) (.node (rg 7920) .nil .nil) (.node (rg 12144) .nil .nil)) (.node (rg 5804) (.node (rg 10028) .nil .nil) .nil)) (.node (rg 2636) (.node (rg 4760) (.node (rg 8984) .nil .nil) .nil) (.node (rg 6860) (.node (rg 11084) .nil .nil) .nil))) (.node (rg 1056) (.node (rg 2108) (.node (rg 4232) (.node (rg 8456) .nil .nil) (.node (rg 12680) .nil .nil)) (.node (rg 6332) (.node (rg 10556) .nil .nil) .nil)) (.node (rg 3164) (.node (rg 5280) (.node (rg 9504) .nil .nil) .nil) (.node (rg 7388) (.node (rg 11612) .nil .nil) .nil)))))))) (.node (PySem.W.boot_o_2 P) (.node (PySem.W.boot_o_4 P) (.node (PySem.W.boot_o_8 P) (.node (Pre.o_8 P) (.node (Pre.o_24 P) (.node (Pre.o_64 P) (.node (se 127) (.node (se 255) (.node (se 511) .nil .nil) (.node (se 767) .nil .nil)) (.node (se 383) (.node (se 639) .nil .nil) .nil)) (.node (se 191) (.node (se 319) (.node (se 575) .nil .nil) (.node (se 831) .nil .nil)) (.node (se 447) (.node (se 703) .nil .nil) .nil))) (.node (se 95) (.node (se 159) (.node (se 287) (.node (se 543) .nil .nil) (.node (se 799) .nil .nil)) (.node (se 415) (.node (se 671) .nil .nil) .nil)) (.node (se 223) (.node (se 351) (.node (se 607) .nil .nil) .nil) (.node (se 479) (.node (se 735) .nil .nil) .nil)))) (.node (Pre.o_48 P) (.node (se 79) (.node (se 143) (.node (se 271) (.node (se 527) .nil .nil) (.node (se 783) .nil .nil)) (.node (se 399) (.node (se 655) .nil .nil) .nil)) (.node (se 207) (.node (se 335) (.node (se 591) .nil .nil) .nil) (.node (se 463) (.node (se 719) .nil .nil) .nil))) (.node (se 111) (.node (se 175) (.node (se 303) (.node (se 559) .nil .nil) (.node (se 815) .nil .nil)) (.node (se 431) (.node (se 687) .nil .nil) .nil)) (.node (se 239) (.node (se 367) (.node (se 623) .nil .nil) .nil) (.node (se 495) (.node (se 751) .nil .nil) .nil))))) (.node (Pre.o_16 P) (.node (Pre.o_36 P) (.node (Pre.o_72 P) (.node (se 135) (.node (se 263) (.node (se 519) .nil .nil) (.node (se 775) .nil .nil)) (.node (se 391) (.node (se 647) .nil .nil) .nil)) (.node (se 199) (.node (se 327) (.node (se 583) .nil .nil) (.node (se 839) .nil .nil)) (.node (se 455) (.node (se 711) .nil .nil) .nil))) (.node (se 103) (.node (se 167) (.node (se 295) (.node (se 551) .nil .nil) (.node (se 807) .nil .nil)) (.node (se 423) (.node (se 679) .nil .nil) .nil)) (.node (se 231) (.node (se 359) (.node (se 615) .nil .nil) .nil) (.node (se 487) (.node (se 743) .nil .nil) .nil)))) (.node (Pre.o_56 P) (.node (se 87) (.node (se 151) (.node (se 279) (.node (se 535) .nil .nil) (.node (se 791) .nil .nil)) (.node (se 407) (.node (se 663) .nil .nil) .nil)) (.node (se 215) (.node (se 343) (.node (se 599) .nil .nil) .nil) (.node (se 471) (.node (se 727) .nil .nil) .nil))) (.node (se 119) (.node (se 183) (.node (se 311) (.node (se 567) .nil .nil) (.node (se 823) .nil .nil)) (.node (se 439) (.node (se 695) .nil .nil) .nil)) (.node (se 247) (.node (se 375) (.node (se 631) .nil .nil) .nil) (.node (se 503) (.node (se 759) .nil .nil) .nil)))))) (.node (Pre.o_45 P) (.node (Pre.o_12 P) (.node (Pre.o_32 P) (.node (Pre.o_68 P) (.node (se 131) (.node (se 259) (.node (se 515) .nil .nil) (.node (se 771) .nil .nil)) (.node (se 387) (.node (se 643) .nil .nil) .nil)) (.node (se 195) (.node (se 323) (.node (se 579) .nil .nil) (.node (se 835) .nil .nil)) (.node (se 451) (.node (se 707) .nil .nil) .nil))) (.node (se 99) (.node (se 163) (.node (se 291) (.node (se 547) .nil .nil) (.node (se 803) .nil .nil)) (.node (se 419) (.node (se 675) .nil .nil) .nil)) (.node (se 227) (.node (se 355) (.node (se 611) .nil .nil) .nil) (.node (se 483) (.node (se 739) .nil .nil) .nil)))) (.node (Pre.o_52 P) (.node (se 83) (.node (se 147) (.node (se 275) (.node (se 531) .nil .nil) (.node (se 787) .nil .nil)) (.node (se 403) (.node (se 659) .nil .nil) .nil)) (.node (se 211) (.node (se 339) (.node (se 595) .nil .nil) .nil) (.node (se 467) (.node (se 723) .nil .nil) .nil))) (.node (se 115) (.node (se 179) (.node (se 307) (.node (se 563) .nil .nil) (.node (se 819) .nil .nil)) (.node (se 435) (.node (se 691) .nil .nil) .nil)) (.node (se 243) (.node (se 371) (.node (se 627) .nil .nil) .nil) (.node (se 499) (.node (se 755) .nil .nil) .nil))))) (.node (Pre.o_20 P) (.node (Pre.o_40 P) (.node (oi 192) (.node (se 139) (.node (se 267) (.node (se 523) .nil .nil) (.node (se 779) .nil .nil)) (.node (se 395) (.node (se 651) .nil .nil) .nil)) (.node (se 203) (.node (se 331) (.node (se 587) .nil .nil) (.node (se 843) .nil .nil)) (.node (se 459) (.node (se 715) .nil .nil) .nil))) (.node (se 107) (.node (se 171) (.node (se 299) (.node (se 555) .nil .nil) (.node (se 811) .nil .nil)) (.node (se 427) (.node (se 683) .nil .nil) .nil)) (.node (se 235) (.node (se 363) (.node (se 619) .nil .nil) .nil) (.node (se 491) (.node (se 747) .nil .nil) .nil)))) (.node (Pre.o_60 P) (.node (se 91) (.node (se 155) (.node (se 283) (.node (se 539) .nil .nil) (.node (se 795) .nil .nil)) (.node (se 411) (.node (se 667) .nil .nil) .nil)) (.node (se 219) (.node (se 347) (.node (se 603) .nil .nil) .nil) (.node (se 475) (.node (se 731) .nil .nil) .nil))) (.node (se 123) (.node (se 187) (.node (se 315) (.node (se 571) .nil .nil) (.node (se 827) .nil .nil)) (.node (se 443) (.node (se 699) .nil .nil) .nil)) (.node (se 251) (.node (se 379) (.node (se 635) .nil .nil) .nil) (.node (se 507) (.node (se 763) .nil .nil) .nil))))))) (.node (PySem.W.boot_o_6 P) (.node (PySem.W.boot_o_10 P) (.node (Pre.o_10 P) (.node (Pre.o_26 P) (.node (Pre.o_66 P) (.node ri (.node ri (.node ri .nil .nil) (.node ri .nil .nil)) (.node ri (.node ri .nil .nil) .nil)) (.node ri (.node ri (.node ri .nil .nil) (.node ri .nil .nil)) (.node ri (.node ri .nil .nil) .nil))) (.node ri (.node ri (.node ri (.node ri .nil .nil) (.node ri .nil .nil)) (.node ri (.node ri .nil .nil) .nil)) (.node ri (.node ri (.node ri .nil .nil) .nil) (.node ri (.node ri .nil .nil) .nil)))) (.node (Pre.o_50 P) (.node ri (.node ri (.node ri (.node ri .nil .nil) (.node ri .nil .nil)) (.node ri (.node ri .nil .nil) .nil)) (.node ri (.node ri (.node ri .nil .nil) .nil) (.node ri (.node ri .nil .nil) .nil))) (.node ri (.node ri (.node ri (.node ri .nil .nil) (.node ri .nil .nil)) (.node ri (.node ri .nil .nil) .nil)) (.node ri (.node ri (.node ri .nil .nil) .nil) (.node ri (.node ri .nil .nil) .nil))))) (.node (Pre.o_18 P) (.node (Pre.o_38 P) (.node (ls 192) (.node ri (.node ri (.node ri .nil .nil) (.node ri .nil .nil)) (.node ri (.node ri .nil .nil) .nil)) (.node ri (.node ri (.node ri .nil .nil) (.node ri .nil .nil)) (.node ri (.node ri .nil .nil) .nil))) (.node ri (.node ri (.node ri (.node ri .nil .nil) (.node ri .nil .nil)) (.node ri (.node ri .nil .nil) .nil)) (.node ri (.node ri (.node ri .nil .nil) .nil) (.node ri (.node ri .nil .nil) .nil)))) (.node (Pre.o_58 P) (.node ri (.node ri (.node ri (.node ri .nil .nil) (.node ri .nil .nil)) (.node ri (.node ri .nil .nil) .nil)) (.node ri (.node ri (.node ri .nil .nil) .nil) (.node ri (.node ri .nil .nil) .nil))) (.node ri (.node ri (.node ri (.node ri .nil .nil) (.node ri .nil .nil)) (.node ri (.node ri .nil .nil) .nil)) (.node ri (.node ri (.node ri .nil .nil) .nil) (.node ri (.node ri .nil .nil) .nil)))))) (.node (Pre.o_4 P) (.node (Pre.o_14 P) (.node (Pre.o_34 P) (.node (Pre.o_70 P) (.node ri (.node ri (.node ri .nil .nil) (.node ri .nil .nil)) (.node ri (.node ri .nil .nil) .nil)) (.node ri (.node ri (.node ri .nil .nil) (.node ri .nil .nil)) (.node ri (.node ri .nil .nil) .nil))) (.node ri (.node ri (.node ri (.node ri .nil .nil) (.node ri .nil .nil)) (.node ri (.node ri .nil .nil) .nil)) (.node ri (.node ri (.node ri .nil .nil) .nil) (.node ri (.node ri .nil .nil) .nil)))) (.node (Pre.o_54 P) (.node ri (.node ri (.node ri (.node ri .nil .nil) (.node ri .nil .nil)) (.node ri (.node ri .nil .nil) .nil)) (.node ri (.node ri (.node ri .nil .nil) .nil) (.node ri (.node ri .nil .nil) .nil))) (.node ri (.node ri (.node ri (.node ri .nil .nil) (.node ri .nil .nil)) (.node ri (.node ri .nil .nil) .nil)) (.node ri (.node ri (.node ri .nil .nil) .nil) (.node ri (.node ri .nil .nil) .nil))))) (.node (Pre.o_22 P) (.node (Pre.o_42 P) (.node ri (.node ri (.node ri (.node ri .nil .nil) (.node ri .nil .nil)) (.node ri (.node ri .nil .nil) .nil)) (.node ri (.node ri (.node ri .nil .nil) .nil) (.node ri (.node ri .nil .nil) .nil))) (.node ri (.node ri (.node ri (.node ri .nil .nil) (.node ri .nil .nil)) (.node ri (.node ri .nil .nil) .nil)) (.node ri (.node ri (.node ri .nil .nil) .nil) (.node ri (.node ri .nil .nil) .nil)))) (.node (Pre.o_62 P) (.node ri (.node ri (.node ri (.node ri .nil .nil) (.node ri .nil .nil)) (.node ri (.node ri .nil .nil) .nil)) (.node ri (.node ri (.node ri .nil .nil) .nil) (.node ri (.node ri .nil .nil) .nil))) (.node ri (.node ri (.node ri (.node ri .nil .nil) (.node ri .nil .nil)) (.node ri (.node ri .nil .nil) .nil)) (.node ri (.node ri (.node ri .nil .nil) .nil) (.node ri (.node ri .nil .nil) .nil)))))))))
noncomputable def B13 (P : Params) : BT := (.node (PySem.W.boot_o_0 P) (.node (PySem.W.boot_o_1 P) (.node (Pre.o_44 P) (.node (PySem.W.boot_o_7 P) (.node (Pre.o_7 P) (.node (Pre.o_46 P) (.node (Pre.o_63 P) (.node tup0 (.node tup0 (.node tup0 .nil .nil) (.node tup0 .nil .nil)) (.node tup0 (.node tup0 .nil .nil) (.node tup0 .nil .nil))) (.node tup0 (.node tup0 (.node tup0 .nil .nil) (.node tup0 .nil .nil)) (.node tup0 (.node tup0 .nil .nil) .nil))) (.node tup0 (.node tup0 (.node tup0 (.node tup0 .nil .nil) (.node tup0 .nil .nil)) (.node tup0 (.node tup0 .nil .nil) .nil)) (.node tup0 (.node tup0 (.node tup0 .nil .nil) (.node tup0 .nil .nil)) (.node tup0 (.node tup0 .nil .nil) .nil)))) (.node (Pre.o_47 P) (.node tup0 (.node tup0 (.node tup0 (.node tup0 .nil .nil) (.node tup0 .nil .nil)) (.node tup0 (.node tup0 .nil .nil) .nil)) (.node tup0 (.node tup0 (.node tup0 .nil .nil) (.node tup0 .nil .nil)) (.node tup0 (.node tup0 .nil .nil) .nil))) (.node tup0 (.node tup0 (.node tup0 (.node tup0 .nil .nil) (.node tup0 .nil .nil)) (.node tup0 (.node tup0 .nil .nil) .nil)) (.node tup0 (.node tup0 (.node tup0 .nil .nil) (.node tup0 .nil .nil)) (.node tup0 (.node tup0 .nil .nil) .nil))))) (.node (Pre.o_15 P) (.node (Pre.o_35 P) (.node (Pre.o_71 P) (.node tup0 (.node tup0 (.node tup0 .nil .nil) (.node tup0 .nil .nil)) (.node tup0 (.node tup0 .nil .nil) (.node tup0 .nil .nil))) (.node tup0 (.node tup0 (.node tup0 .nil .nil) (.node tup0 .nil .nil)) (.node tup0 (.node tup0 .nil .nil) .nil))) (.node tup0 (.node tup0 (.node tup0 (.node tup0 .nil .nil) (.node tup0 .nil .nil)) (.node tup0 (.node tup0 .nil .nil) .nil)) (.node tup0 (.node tup0 (.node tup0 .nil .nil) (.node tup0 .nil .nil)) (.node tup0 (.node tup0 .nil .nil) .nil)))) (.node (Pre.o_55 P) (.node tup0 (.node tup0 (.node tup0 (.node tup0 .nil .nil) (.node tup0 .nil .nil)) (.node tup0 (.node tup0 .nil .nil) .nil)) (.node tup0 (.node tup0 (.node tup0 .nil .nil) (.node tup0 .nil .nil)) (.node tup0 (.node tup0 .nil .nil) .nil))) (.node tup0 (.node tup0 (.node tup0 (.node tup0 .nil .nil) (.node tup0 .nil .nil)) (.node tup0 (.node tup0 .nil .nil) .nil)) (.node tup0 (.node tup0 (.node tup0 .nil .nil) (.node tup0 .nil .nil)) (.node tup0 (.node tup0 .nil .nil) .nil)))))) (.node (Pre.o_1 P) (.node (Pre.o_11 P) (.node (Pre.o_31 P) (.node (Pre.o_67 P) (.node tup0 (.node tup0 (.node tup0 .nil .nil) (.node tup0 .nil .nil)) (.node tup0 (.node tup0 .nil .nil) (.node tup0 .nil .nil))) (.node tup0 (.node tup0 (.node tup0 .nil .nil) (.node tup0 .nil .nil)) (.node tup0 (.node tup0 .nil .nil) .nil))) (.node tup0 (.node tup0 (.node tup0 (.node tup0 .nil .nil) (.node tup0 .nil .nil)) (.node tup0 (.node tup0 .nil .nil) .nil)) (.node tup0 (.node tup0 (.node tup0 .nil .nil) (.node tup0 .nil .nil)) (.node tup0 (.node tup0 .nil .nil) .nil)))) (.node (Pre.o_51 P) (.node tup0 (.node tup0 (.node tup0 (.node tup0 .nil .nil) (.node tup0 .nil .nil)) (.node tup0 (.node tup0 .nil .nil) .nil)) (.node tup0 (.node tup0 (.node tup0 .nil .nil) (.node tup0 .nil .nil)) (.node tup0 (.node tup0 .nil .nil) .nil))) (.node tup0 (.node tup0 (.node tup0 (.node tup0 .nil .nil) (.node tup0 .nil .nil)) (.node tup0 (.node tup0 .nil .nil) .nil)) (.node tup0 (.node tup0 (.node tup0 .nil .nil) (.node tup0 .nil .nil)) (.node tup0 (.node tup0 .nil .nil) .nil))))) (.node (Pre.o_19 P) (.node (Pre.o_39 P) (.node r256 (.node tup0 (.node tup0 (.node tup0 .nil .nil) (.node tup0 .nil .nil)) (.node tup0 (.node tup0 .nil .nil) (.node tup0 .nil .nil))) (.node tup0 (.node tup0 (.node tup0 .nil .nil) (.node tup0 .nil .nil)) (.node tup0 (.node tup0 .nil .nil) .nil))) (.node tup0 (.node tup0 (.node tup0 (.node tup0 .nil .nil) (.node tup0 .nil .nil)) (.node tup0 (.node tup0 .nil .nil) .nil)) (.node tup0 (.node tup0 (.node tup0 .nil .nil) (.node tup0 .nil .nil)) (.node tup0 (.node tup0 .nil .nil) .nil)))) (.node (Pre.o_59 P) (.node tup0 (.node tup0 (.node tup0 (.node tup0 .nil .nil) (.node tup0 .nil .nil)) (.node tup0 (.node tup0 .nil .nil) .nil)) (.node tup0 (.node tup0 (.node tup0 .nil .nil) (.node tup0 .nil .nil)) (.node tup0 (.node tup0 .nil .nil) .nil))) (.node tup0 (.node tup0 (.node tup0 (.node tup0 .nil .nil) (.node tup0 .nil .nil)) (.node tup0 (.node tup0 .nil .nil) .nil)) (.node tup0 (.node tup0 (.node tup0 .nil .nil) (.node tup0 .nil .nil)) (.node tup0 (.node tup0 .nil .nil) .nil))))))) (.node (PySem.W.boot_o_5 P) (.node (PySem.W.boot_o_9 P) (.node (Pre.o_9 P) (.node (Pre.o_25 P) (.node (Pre.o_65 P) (.node (rg 1120) (.node (rg 3229) (.node (rg 7454) .nil .nil) (.node (rg 11678) .nil .nil)) (.node (rg 5345) (.node (rg 9569) .nil .nil) (.node (rg 13794) .nil .nil))) (.node (rg 2173) (.node (rg 4298) (.node (rg 8523) .nil .nil) (.node (rg 12747) .nil .nil)) (.node (rg 6398) (.node (rg 10622) .nil .nil) .nil))) (.node (rg 599) (.node (rg 1644) (.node (rg 3761) (.node (rg 7986) .nil .nil) (.node (rg 12210) .nil .nil)) (.node (rg 5869) (.node (rg 10093) .nil .nil) .nil)) (.node (rg 2700) (.node (rg 4824) (.node (rg 9048) .nil .nil) (.node (rg 13273) .nil .nil)) (.node (rg 6925) (.node (rg 11149) .nil .nil) .nil)))) (.node (Pre.o_49 P) (.node (rg 342) (.node (rg 1383) (.node (rg 3496) (.node (rg 7721) .nil .nil) (.node (rg 11945) .nil .nil)) (.node (rg 5608) (.node (rg 9832) .nil .nil) .nil)) (.node (rg 2439) (.node (rg 4567) (.node (rg 8791) .nil .nil) (.node (rg 13016) .nil .nil)) (.node (rg 6664) (.node (rg 10888) .nil .nil) .nil))) (.node (rg 859) (.node (rg 1908) (.node (rg 4029) (.node (rg 8254) .nil .nil) (.node (rg 12478) .nil .nil)) (.node (rg 6133) (.node (rg 10357) .nil .nil) .nil)) (.node (rg 2964) (.node (rg 5084) (.node (rg 9308) .nil .nil) (.node (rg 13533) .nil .nil)) (.node (rg 7189) (.node (rg 11413) .nil .nil) .nil))))) (.node (Pre.o_17 P) (.node (Pre.o_37 P) (.node (lc P 208) (.node (rg 1252) (.node (rg 3363) (.node (rg 7588) .nil .nil) (.node (rg 11812) .nil .nil)) (.node (rg 5477) (.node (rg 9701) .nil .nil) (.node (rg 13926) .nil .nil))) (.node (rg 2307) (.node (rg 4434) (.node (rg 8659) .nil .nil) (.node (rg 12883) .nil .nil)) (.node (rg 6532) (.node (rg 10756) .nil .nil) .nil))) (.node (rg 729) (.node (rg 1776) (.node (rg 3895) (.node (rg 8120) .nil .nil) (.node (rg 12344) .nil .nil)) (.node (rg 6001) (.node (rg 10225) .nil .nil) .nil)) (.node (rg 2832) (.node (rg 4954) (.node (rg 9178) .nil .nil) (.node (rg 13403) .nil .nil)) (.node (rg 7057) (.node (rg 11281) .nil .nil) .nil)))) (.node (Pre.o_57 P) (.node (rg 470) (.node (rg 1513) (.node (rg 3628) (.node (rg 7853) .nil .nil) (.node (rg 12077) .nil .nil)) (.node (rg 5738) (.node (rg 9962) .nil .nil) .nil)) (.node (rg 2569) (.node (rg 4695) (.node (rg 8919) .nil .nil) (.node (rg 13144) .nil .nil)) (.node (rg 6794) (.node (rg 11018) .nil .nil) .nil))) (.node (rg 989) (.node (rg 2040) (.node (rg 4163) (.node (rg 8388) .nil .nil) (.node (rg 12612) .nil .nil)) (.node (rg 6265) (.node (rg 10489) .nil .nil) .nil)) (.node (rg 3096) (.node (rg 5214) (.node (rg 9438) .nil .nil) (.node (rg 13663) .nil .nil)) (.node (rg 7321) (.node (rg 11545) .nil .nil) .nil)))))) (.node (Pre.o_3 P) (.node (Pre.o_13 P) (.node (Pre.o_33 P) (.node (Pre.o_69 P) (.node (rg 1186) (.node (rg 3296) (.node (rg 7520) .nil .nil) (.node (rg 11746) .nil .nil)) (.node (rg 5410) (.node (rg 9636) .nil .nil) (.node (rg 13860) .nil .nil))) (.node (rg 2240) (.node (rg 4366) (.node (rg 8590) .nil .nil) (.node (rg 12816) .nil .nil)) (.node (rg 6464) (.node (rg 10690) .nil .nil) .nil))) (.node (rg 664) (.node (rg 1710) (.node (rg 3828) (.node (rg 8052) .nil .nil) (.node (rg 12278) .nil .nil)) (.node (rg 5934) (.node (rg 10160) .nil .nil) .nil)) (.node (rg 2766) (.node (rg 4888) (.node (rg 9114) .nil .nil) (.node (rg 13338) .nil .nil)) (.node (rg 6990) (.node (rg 11216) .nil .nil) .nil)))) (.node (Pre.o_53 P) (.node (rg 406) (.node (rg 1448) (.node (rg 3562) (.node (rg 7786) .nil .nil) (.node (rg 12012) .nil .nil)) (.node (rg 5672) (.node (rg 9898) .nil .nil) .nil)) (.node (rg 2504) (.node (rg 4630) (.node (rg 8856) .nil .nil) (.node (rg 13080) .nil .nil)) (.node (rg 6728) (.node (rg 10954) .nil .nil) .nil))) (.node (rg 924) (.node (rg 1974) (.node (rg 4096) (.node (rg 8320) .nil .nil) (.node (rg 12546) .nil .nil)) (.node (rg 6198) (.node (rg 10424) .nil .nil) .nil)) (.node (rg 3030) (.node (rg 5148) (.node (rg 9374) .nil .nil) (.node (rg 13598) .nil .nil)) (.node (rg 7254) (.node (rg 11480) .nil .nil) .nil))))) (.node (Pre.o_21 P) (.node (Pre.o_41 P) (.node (rg 280) (.node (rg 1320) (.node (rg 3432) (.node (rg 7656) .nil .nil) (.node (rg 11880) .nil .nil)) (.node (rg 5544) (.node (rg 9768) .nil .nil) .nil)) (.node (rg 2376) (.node (rg 4504) (.node (rg 8728) .nil .nil) (.node (rg 12952) .nil .nil)) (.node (rg 6600) (.node (rg 10824) .nil .nil) .nil))) (.node (rg 796) (.node (rg 1844) (.node (rg 3964) (.node (rg 8188) .nil .nil) (.node (rg 12412) .nil .nil)) (.node (rg 6068) (.node (rg 10292) .nil .nil) .nil)) (.node (rg 2900) (.node (rg 5020) (.node (rg 9244) .nil .nil) (.node (rg 13468) .nil .nil)) (.node (rg 7124) (.node (rg 11348) .nil .nil) .nil)))) (.node (Pre.o_61 P) (.node (rg 536) (.node (rg 1580) (.node (rg 3696) (.node (rg 7920) .nil .nil) (.node (rg 12144) .nil .nil)) (.node (rg 5804) (.node (rg 10028) .nil .nil) .nil)) (.node (rg 2636) (.node (rg 4760) (.node (rg 8984) .nil .nil) (.node (rg 13208) .nil .nil)) (.node (rg 6860) (.node (rg 11084) .nil .nil) .nil))) (.node (rg 1056) (.node (rg 2108) (.node (rg 4232) (.node (rg 8456) .nil .nil) (.node (rg 12680) .nil .nil)) (.node (rg 6332) (.node (rg 10556) .nil .nil) .nil)) (.node (rg 3164) (.node (rg 5280) (.node (rg 9504) .nil .nil) (.node (rg 13728) .nil .nil)) (.node (rg 7388) (.node (rg 11612) .nil .nil) .nil)))))))) (.node (PySem.W.boot_o_2 P) (.node (PySem.W.boot_o_4 P) (.node (PySem.W.boot_o_8 P) (.node (Pre.o_8 P) (.node (Pre.o_24 P) (.node (Pre.o_64 P) (.node (se 127) (.node (se 255) (.node (se 511) .nil .nil) (.node (se 767) .nil .nil)) (.node (se 383) (.node (se 639) .nil .nil) (.node (se 895) .nil .nil))) (.node (se 191) (.node (se 319) (.node (se 575) .nil .nil) (.node (se 831) .nil .nil)) (.node (se 447) (.node (se 703) .nil .nil) .nil))) (.node (se 95) (.node (se 159) (.node (se 287) (.node (se 543) .nil .nil) (.node (se 799) .nil .nil)) (.node (se 415) (.node (se 671) .nil .nil) .nil)) (.node (se 223) (.node (se 351) (.node (se 607) .nil .nil) (.node (se 863) .nil .nil)) (.node (se 479) (.node (se 735) .nil .nil) .nil)))) (.node (Pre.o_48 P) (.node (se 79) (.node (se 143) (.node (se 271) (.node (se 527) .nil .nil) (.node (se 783) .nil .nil)) (.node (se 399) (.node (se 655) .nil .nil) .nil)) (.node (se 207) (.node (se 335) (.node (se 591) .nil .nil) (.node (se 847) .nil .nil)) (.node (se 463) (.node (se 719) .nil .nil) .nil))) (.node (se 111) (.node (se 175) (.node (se 303) (.node (se 559) .nil .nil) (.node (se 815) .nil .nil)) (.node (se 431) (.node (se 687) .nil .nil) .nil)) (.node (se 239) (.node (se 367) (.node (se 623) .nil .nil) (.node (se 879) .nil .nil)) (.node (se 495) (.node (se 751) .nil .nil) .nil))))) (.node (Pre.o_16 P) (.node (Pre.o_36 P) (.node (Pre.o_72 P) (.node (se 135) (.node (se 263) (.node (se 519) .nil .nil) (.node (se 775) .nil .nil)) (.node (se 391) (.node (se 647) .nil .nil) (.node (se 903) .nil .nil))) (.node (se 199) (.node (se 327) (.node (se 583) .nil .nil) (.node (se 839) .nil .nil)) (.node (se 455) (.node (se 711) .nil .nil) .nil))) (.node (se 103) (.node (se 167) (.node (se 295) (.node (se 551) .nil .nil) (.node (se 807) .nil .nil)) (.node (se 423) (.node (se 679) .nil .nil) .nil)) (.node (se 231) (.node (se 359) (.node (se 615) .nil .nil) (.node (se 871) .nil .nil)) (.node (se 487) (.node (se 743) .nil .nil) .nil)))) (.node (Pre.o_56 P) (.node (se 87) (.node (se 151) (.node (se 279) (.node (se 535) .nil .nil) (.node (se 791) .nil .nil)) (.node (se 407) (.node (se 663) .nil .nil) .nil)) (.node (se 215) (.node (se 343) (.node (se 599) .nil .nil) (.node (se 855) .nil .nil)) (.node (se 471) (.node (se 727) .nil .nil) .nil))) (.node (se 119) (.node (se 183) (.node (se 311) (.node (se 567) .nil .nil) (.node (se 823) .nil .nil)) (.node (se 439) (.node (se 695) .nil .nil) .nil)) (.node (se 247) (.node (se 375) (.node (se 631) .nil .nil) (.node (se 887) .nil .nil)) (.node (se 503) (.node (se 759) .nil .nil) .nil)))))) (.node (Pre.o_45 P) (.node (Pre.o_12 P) (.node (Pre.o_32 P) (.node (Pre.o_68 P) (.node (se 131) (.node (se 259) (.node (se 515) .nil .nil) (.node (se 771) .nil .nil)) (.node (se 387) (.node (se 643) .nil .nil) (.node (se 899) .nil .nil))) (.node (se 195) (.node (se 323) (.node (se 579) .nil .nil) (.node (se 835) .nil .nil)) (.node (se 451) (.node (se 707) .nil .nil) .nil))) (.node (se 99) (.node (se 163) (.node (se 291) (.node (se 547) .nil .nil) (.node (se 803) .nil .nil)) (.node (se 419) (.node (se 675) .nil .nil) .nil)) (.node (se 227) (.node (se 355) (.node (se 611) .nil .nil) (.node (se 867) .nil .nil)) (.node (se 483) (.node (se 739) .nil .nil) .nil)))) (.node (Pre.o_52 P) (.node (se 83) (.node (se 147) (.node (se 275) (.node (se 531) .nil .nil) (.node (se 787) .nil .nil)) (.node (se 403) (.node (se 659) .nil .nil) .nil)) (.node (se 211) (.node (se 339) (.node (se 595) .nil .nil) (.node (se 851) .nil .nil)) (.node (se 467) (.node (se 723) .nil .nil) .nil))) (.node (se 115) (.node (se 179) (.node (se 307) (.node (se 563) .nil .nil) (.node (se 819) .nil .nil)) (.node (se 435) (.node (se 691) .nil .nil) .nil)) (.node (se 243) (.node (se 371) (.node (se 627) .nil .nil) (.node (se 883) .nil .nil)) (.node (se 499) (.node (se 755) .nil .nil) .nil))))) (.node (Pre.o_20 P) (.node (Pre.o_40 P) (.node (oi 208) (.node (se 139) (.node (se 267) (.node (se 523) .nil .nil) (.node (se 779) .nil .nil)) (.node (se 395) (.node (se 651) .nil .nil) (.node (se 907) .nil .nil))) (.node (se 203) (.node (se 331) (.node (se 587) .nil .nil) (.node (se 843) .nil .nil)) (.node (se 459) (.node (se 715) .nil .nil) .nil))) (.node (se 107) (.node (se 171) (.node (se 299) (.node (se 555) .nil .nil) (.node (se 811) .nil .nil)) (.node (se 427) (.node (se 683) .nil .nil) .nil)) (.node (se 235) (.node (se 363) (.node (se 619) .nil .nil) (.node (se 875) .nil .nil)) (.node (se 491) (.node (se 747) .nil .nil) .nil)))) (.node (Pre.o_60 P) (.node (se 91) (.node (se 155) (.node (se 283) (.node (se 539) .nil .nil) (.node (se 795) .nil .nil)) (.node (se 411) (.node (se 667) .nil .nil) .nil)) (.node (se 219) (.node (se 347) (.node (se 603) .nil .nil) (.node (se 859) .nil .nil)) (.node (se 475) (.node (se 731) .nil .nil) .nil))) (.node (se 123) (.node (se 187) (.node (se 315) (.node (se 571) .nil .nil) (.node (se 827) .nil .nil)) (.node (se 443) (.node (se 699) .nil .nil) .nil)) (.node (se 251) (.node (se 379) (.node (se 635) .nil .nil) (.node (se 891) .nil .nil)) (.node (se 507) (.node (se 763) .nil .nil) .nil))))))) (.node (PySem.W.boot_o_6 P) (.node (PySem.W.boot_o_10 P) (.node (Pre.o_10 P) (.node (Pre.o_26 P) (.node (Pre.o_66 P) (.node ri (.node ri (.node ri .nil .nil) (.node ri .nil .nil)) (.node ri (.node ri .nil .nil) (.node ri .nil .nil))) (.node ri (.node ri (.node ri .nil .nil) (.node ri .nil .nil)) (.node ri (.node ri .nil .nil) .nil))) (.node ri (.node ri (.node ri (.node ri .nil .nil) (.node ri .nil .nil)) (.node ri (.node ri .nil .nil) .nil)) (.node ri (.node ri (.node ri .nil .nil) (.node ri .nil .nil)) (.node ri (.node ri .nil .nil) .nil)))) (.node (Pre.o_50 P) (.node ri (.node ri (.node ri (.node ri .nil .nil) (.node ri .nil .nil)) (.node ri (.node ri .nil .nil) .nil)) (.node ri (.node ri (.node ri .nil .nil) (.node ri .nil .nil)) (.node ri (.node ri .nil .nil) .nil))) (.node ri (.node ri (.node ri (.node ri .nil .nil) (.node ri .nil .nil)) (.node ri (.node ri .nil .nil) .nil)) (.node ri (.node ri (.node ri .nil .nil) (.node ri .nil .nil)) (.node ri (.node ri .nil .nil) .nil))))) (.node (Pre.o_18 P) (.node (Pre.o_38 P) (.node (ls 208) (.node ri (.node ri (.node ri .nil .nil) (.node ri .nil .nil)) (.node ri (.node ri .nil .nil) (.node ri .nil .nil))) (.node ri (.node ri (.node ri .nil .nil) (.node ri .nil .nil)) (.node ri (.node ri .nil .nil) .nil))) (.node ri (.node ri (.node ri (.node ri .nil .nil) (.node ri .nil .nil)) (.node ri (.node ri .nil .nil) .nil)) (.node ri (.node ri (.node ri .nil .nil) (.node ri .nil .nil)) (.node ri (.node ri .nil .nil) .nil)))) (.node (Pre.o_58 P) (.node ri (.node ri (.node ri (.node ri .nil .nil) (.node ri .nil .nil)) (.node ri (.node ri .nil .nil) .nil)) (.node ri (.node ri (.node ri .nil .nil) (.node ri .nil .nil)) (.node ri (.node ri .nil .nil) .nil))) (.node ri (.node ri (.node ri (.node ri .nil .nil) (.node ri .nil .nil)) (.node ri (.node ri .nil .nil) .nil)) (.node ri (.node ri (.node ri .nil .nil) (.node ri .nil .nil)) (.node ri (.node ri .nil .nil) .nil)))))) (.node (Pre.o_4 P) (.node (Pre.o_14 P) (.node (Pre.o_34 P) (.node (Pre.o_70 P) (.node ri (.node ri (.node ri .nil .nil) (.node ri .nil .nil)) (.node ri (.node ri .nil .nil) (.node ri .nil .nil))) (.node ri (.node ri (.node ri .nil .nil) (.node ri .nil .nil)) (.node ri (.node ri .nil .nil) .nil))) (.node ri (.node ri (.node ri (.node ri .nil .nil) (.node ri .nil .nil)) (.node ri (.node ri .nil .nil) .nil)) (.node ri (.node ri (.node ri .nil .nil) (.node ri .nil .nil)) (.node ri (.node ri .nil .nil) .nil)))) (.node (Pre.o_54 P) (.node ri (.node ri (.node ri (.node ri .nil .nil) (.node ri .nil .nil)) (.node ri (.node ri .nil .nil) .nil)) (.node ri (.node ri (.node ri .nil .nil) (.node ri .nil .nil)) (.node ri (.node ri .nil .nil) .nil))) (.node ri (.node ri (.node ri (.node ri .nil .nil) (.node ri .nil .nil)) (.node ri (.node ri .nil .nil) .nil)) (.node ri (.node ri (.node ri .nil .nil) (.node ri .nil .nil)) (.node ri (.node ri .nil .nil) .nil))))) (.node (Pre.o_22 P) (.node (Pre.o_42 P) (.node ri (.node ri (.node ri (.node ri .nil .nil) (.node ri .nil .nil)) (.node ri (.node ri .nil .nil) .nil)) (.node ri (.node ri (.node ri .nil .nil) (.node ri .nil .nil)) (.node ri (.node ri .nil .nil) .nil))) (.node ri (.node ri (.node ri (.node ri .nil .nil) (.node ri .nil .nil)) (.node ri (.node ri .nil .nil) .nil)) (.node ri (.node ri (.node ri .nil .nil) (.node ri .nil .nil)) (.node ri (.node ri .nil .nil) .nil)))) (.node (Pre.o_62 P) (.node ri (.node ri (.node ri (.node ri .nil .nil) (.node ri .nil .nil)) (.node ri (.node ri .nil .nil) .nil)) (.node ri (.node ri (.node ri .nil .nil) (.node ri .nil .nil)) (.node ri (.node ri .nil .nil) .nil))) (.node ri (.node ri (.node ri (.node ri .nil .nil) (.node ri .nil .nil)) (.node ri (.node ri .nil .nil) .nil)) (.node ri (.node ri (.node ri .nil .nil) (.node ri .nil .nil)) (.node ri (.node ri .nil .nil) .nil)))))))))
noncomputable def B14 (P : Params) : BT := (.node (PySem.W.boot_o_0 P) (.node (PySem.W.boot_o_1 P) (.node (Pre.o_44 P) (.node (PySem.W.boot_o_7 P) (.node (Pre.o_7 P) (.node (Pre.o_46 P) (.node (Pre.o_63 P) (.node tup0 (.node tup0 (.node tup0 .nil .nil) (.node tup0 .nil .nil)) (.node tup0 (.node tup0 .nil .nil) (.node tup0 .nil .nil))) (.node tup0 (.node tup0 (.node tup0 .nil .nil) (.node tup0 .nil .nil)) (.node tup0 (.node tup0 .nil .nil) (.node tup0 .nil .nil)))) (.node tup0 (.node tup0 (.node tup0 (.node tup0 .nil .nil) (.node tup0 .nil .nil)) (.node tup0 (.node tup0 .nil .nil) (.node tup0 .nil .nil))) (.node tup0 (.node tup0 (.node tup0 .nil .nil) (.node tup0 .nil .nil)) (.node tup0 (.node tup0 .nil .nil) .nil)))) (.node (Pre.o_47 P) (.node tup0 (.node tup0 (.node tup0 (.node tup0 .nil .nil) (.node tup0 .nil .nil)) (.node tup0 (.node tup0 .nil .nil) (.node tup0 .nil .nil))) (.node tup0 (.node tup0 (.node tup0 .nil .nil) (.node tup0 .nil .nil)) (.node tup0 (.node tup0 .nil .nil) .nil))) (.node tup0 (.node tup0 (.node tup0 (.node tup0 .nil .nil) (.node tup0 .nil .nil)) (.node tup0 (.node tup0 .nil .nil) (.node tup0 .nil .nil))) (.node tup0 (.node tup0 (.node tup0 .nil .nil) (.node tup0 .nil .nil)) (.node tup0 (.node tup0 .nil .nil) .nil))))) (.node (Pre.o_15 P) (.node (Pre.o_35 P) (.node (Pre.o_71 P) (.node tup0 (.node tup0 (.node tup0 .nil .nil) (.node tup0 .nil .nil)) (.node tup0 (.node tup0 .nil .nil) (.node tup0 .nil .nil))) (.node tup0 (.node tup0 (.node tup0 .nil .nil) (.node tup0 .nil .nil)) (.node tup0 (.node tup0 .nil .nil) (.node tup0 .nil .nil)))) (.node tup0 (.node tup0 (.node tup0 (.node tup0 .nil .nil) (.node tup0 .nil .nil)) (.node tup0 (.node tup0 .nil .nil) (.node tup0 .nil .nil))) (.node tup0 (.node tup0 (.node tup0 .nil .nil) (.node tup0 .nil .nil)) (.node tup0 (.node tup0 .nil .nil) .nil)))) (.node (Pre.o_55 P) (.node tup0 (.node tup0 (.node tup0 (.node tup0 .nil .nil) (.node tup0 .nil .nil)) (.node tup0 (.node tup0 .nil .nil) (.node tup0 .nil .nil))) (.node tup0 (.node tup0 (.node tup0 .nil .nil) (.node tup0 .nil .nil)) (.node tup0 (.node tup0 .nil .nil) .nil))) (.node tup0 (.node tup0 (.node tup0 (.node tup0 .nil .nil) (.node tup0 .nil .nil)) (.node tup0 (.node tup0 .nil .nil) (.node tup0 .nil .nil))) (.node tup0 (.node tup0 (.node tup0 .nil .nil) (.node tup0 .nil .nil)) (.node tup0 (.node tup0 .nil .nil) .nil)))))) (.node (Pre.o_1 P) (.node (Pre.o_11 P) (.node (Pre.o_31 P) (.node (Pre.o_67 P) (.node tup0 (.node tup0 (.node tup0 .nil .nil) (.node tup0 .nil .nil)) (.node tup0 (.node tup0 .nil .nil) (.node tup0 .nil .nil))) (.node tup0 (.node tup0 (.node tup0 .nil .nil) (.node tup0 .nil .nil)) (.node tup0 (.node tup0 .nil .nil) (.node tup0 .nil .nil)))) (.node tup0 (.node tup0 (.node tup0 (.node tup0 .nil .nil) (.node tup0 .nil .nil)) (.node tup0 (.node tup0 .nil .nil) (.node tup0 .nil .nil))) (.node tup0 (.node tup0 (.node tup0 .nil .nil) (.node tup0 .nil .nil)) (.node tup0 (.node tup0 .nil .nil) .nil)))) (.node (Pre.o_51 P) (.node tup0 (.node tup0 (.node tup0 (.node tup0 .nil .nil) (.node tup0 .nil .nil)) (.node tup0 (.node tup0 .nil .nil) (.node tup0 .nil .nil))) (.node tup0 (.node tup0 (.node tup0 .nil .nil) (.node tup0 .nil .nil)) (.node tup0 (.node tup0 .nil .nil) .nil))) (.node tup0 (.node tup0 (.node tup0 (.node tup0 .nil .nil) (.node tup0 .nil .nil)) (.node tup0 (.node tup0 .nil .nil) (.node tup0 .nil .nil))) (.node tup0 (.node tup0 (.node tup0 .nil .nil) (.node tup0 .nil .nil)) (.node tup0 (.node tup0 .nil .nil) .nil))))) (.node (Pre.o_19 P) (.node (Pre.o_39 P) (.node r256 (.node tup0 (.node tup0 (.node tup0 .nil .nil) (.node tup0 .nil .nil)) (.node tup0 (.node tup0 .nil .nil) (.node tup0 .nil .nil))) (.node tup0 (.node tup0 (.node tup0 .nil .nil) (.node tup0 .nil .nil)) (.node tup0 (.node tup0 .nil .nil) (.node tup0 .nil .nil)))) (.node tup0 (.node tup0 (.node tup0 (.node tup0 .nil .nil) (.node tup0 .nil .nil)) (.node tup0 (.node tup0 .nil .nil) (.node tup0 .nil .nil))) (.node tup0 (.node tup0 (.node tup0 .nil .nil) (.node tup0 .nil .nil)) (.node tup0 (.node tup0 .nil .nil) .nil)))) (.node (Pre.o_59 P) (.node tup0 (.node tup0 (.node tup0 (.node tup0 .nil .nil) (.node tup0 .nil .nil)) (.node tup0 (.node tup0 .nil .nil) (.node tup0 .nil .nil))) (.node tup0 (.node tup0 (.node tup0 .nil .nil) (.node tup0 .nil .nil)) (.node tup0 (.node tup0 .nil .nil) .nil))) (.node tup0 (.node tup0 (.node tup0 (.node tup0 .nil .nil) (.node tup0 .nil .nil)) (.node tup0 (.node tup0 .nil .nil) (.node tup0 .nil .nil))) (.node tup0 (.node tup0 (.node tup0 .nil .nil) (.node tup0 .nil .nil)) (.node tup0 (.node tup0 .nil .nil) .nil))))))) (.node (PySem.W.boot_o_5 P) (.node (PySem.W.boot_o_9 P) (.node (Pre.o_9 P) (.node (Pre.o_25 P) (.node (Pre.o_65 P) (.node (rg 1120) (.node (rg 3229) (.node (rg 7454) .nil .nil) (.node (rg 11678) .nil .nil)) (.node (rg 5345) (.node (rg 9569) .nil .nil) (.node (rg 13794) .nil .nil))) (.node (rg 2173) (.node (rg 4298) (.node (rg 8523) .nil .nil) (.node (rg 12747) .nil .nil)) (.node (rg 6398) (.node (rg 10622) .nil .nil) (.node (rg 14847) .nil .nil)))) (.node (rg 599) (.node (rg 1644) (.node (rg 3761) (.node (rg 7986) .nil .nil) (.node (rg 12210) .nil .nil)) (.node (rg 5869) (.node (rg 10093) .nil .nil) (.node (rg 14318) .nil .nil))) (.node (rg 2700) (.node (rg 4824) (.node (rg 9048) .nil .nil) (.node (rg 13273) .nil .nil)) (.node (rg 6925) (.node (rg 11149) .nil .nil) .nil)))) (.node (Pre.o_49 P) (.node (rg 342) (.node (rg 1383) (.node (rg 3496) (.node (rg 7721) .nil .nil) (.node (rg 11945) .nil .nil)) (.node (rg 5608) (.node (rg 9832) .nil .nil) (.node (rg 14057) .nil .nil))) (.node (rg 2439) (.node (rg 4567) (.node (rg 8791) .nil .nil) (.node (rg 13016) .nil .nil)) (.node (rg 6664) (.node (rg 10888) .nil .nil) .nil))) (.node (rg 859) (.node (rg 1908) (.node (rg 4029) (.node (rg 8254) .nil .nil) (.node (rg 12478) .nil .nil)) (.node (rg 6133) (.node (rg 10357) .nil .nil) (.node (rg 14582) .nil .nil))) (.node (rg 2964) (.node (rg 5084) (.node (rg 9308) .nil .nil) (.node (rg 13533) .nil .nil)) (.node (rg 7189) (.node (rg 11413) .nil .nil) .nil))))) (.node (Pre.o_17 P) (.node (Pre.o_37 P) (.node (lc P 224) (.node (rg 1252) (.node (rg 3363) (.node (rg 7588) .nil .nil) (.node (rg 11812) .nil .nil)) (.node (rg 5477) (.node (rg 9701) .nil .nil) (.node (rg 13926) .nil .nil))) (.node (rg 2307) (.node (rg 4434) (.node (rg 8659) .nil .nil) (.node (rg 12883) .nil .nil)) (.node (rg 6532) (.node (rg 10756) .nil .nil) (.node (rg 14981) .nil .nil)))) (.node (rg 729) (.node (rg 1776) (.node (rg 3895) (.node (rg 8120) .nil .nil) (.node (rg 12344) .nil .nil)) (.node (rg 6001) (.node (rg 10225) .nil .nil) (.node (rg 14450) .nil .nil))) (.node (rg 2832) (.node (rg 4954) (.node (rg 9178) .nil .nil) (.node (rg 13403) .nil .nil)) (.node (rg 7057) (.node (rg 11281) .nil .nil) .nil)))) (.node (Pre.o_57 P) (.node (rg 470) (.node (rg 1513) (.node (rg 3628) (.node (rg 7853) .nil .nil) (.node (rg 12077) .nil .nil)) (.node (rg 5738) (.node (rg 9962) .nil .nil) (.node (rg 14187) .nil .nil))) (.node (rg 2569) (.node (rg 4695) (.node (rg 8919) .nil .nil) (.node (rg 13144) .nil .nil)) (.node (rg 6794) (.node (rg 11018) .nil .nil) .nil))) (.node (rg 989) (.node (rg 2040) (.node (rg 4163) (.node (rg 8388) .nil .nil) (.node (rg 12612) .nil .nil)) (.node (rg 6265) (.node (rg 10489) .nil .nil) (.node (rg 14714) .nil .nil))) (.node (rg 3096) (.node (rg 5214) (.node (rg 9438) .nil .nil) (.node (rg 13663) .nil .nil)) (.node (rg 7321) (.node (rg 11545) .nil .nil) .nil)))))) (.node (Pre.o_3 P) (.node (Pre.o_13 P) (.node (Pre.o_33 P) (.node (Pre.o_69 P) (.node (rg 1186) (.node (rg 3296) (.node (rg 7520) .nil .nil) (.node (rg 11746) .nil .nil)) (.node (rg 5410) (.node (rg 9636) .nil .nil) (.node (rg 13860) .nil .nil))) (.node (rg 2240) (.node (rg 4366) (.node (rg 8590) .nil .nil) (.node (rg 12816) .nil .nil)) (.node (rg 6464) (.node (rg 10690) .nil .nil) (.node (rg 14914) .nil .nil)))) (.node (rg 664) (.node (rg 1710) (.node (rg 3828) (.node (rg 8052) .nil .nil) (.node (rg 12278) .nil .nil)) (.node (rg 5934) (.node (rg 10160) .nil .nil) (.node (rg 14384) .nil .nil))) (.node (rg 2766) (.node (rg 4888) (.node (rg 9114) .nil .nil) (.node (rg 13338) .nil .nil)) (.node (rg 6990) (.node (rg 11216) .nil .nil) .nil)))) (.node (Pre.o_53 P) (.node (rg 406) (.node (rg 1448) (.node (rg 3562) (.node (rg 7786) .nil .nil) (.node (rg 12012) .nil .nil)) (.node (rg 5672) (.node (rg 9898) .nil .nil) (.node (rg 14122) .nil .nil))) (.node (rg 2504) (.node (rg 4630) (.node (rg 8856) .nil .nil) (.node (rg 13080) .nil .nil)) (.node (rg 6728) (.node (rg 10954) .nil .nil) .nil))) (.node (rg 924) (.node (rg 1974) (.node (rg 4096) (.node (rg 8320) .nil .nil) (.node (rg 12546) .nil .nil)) (.node (rg 6198) (.node (rg 10424) .nil .nil) (.node (rg 14648) .nil .nil))) (.node (rg 3030) (.node (rg 5148) (.node (rg 9374) .nil .nil) (.node (rg 13598) .nil .nil)) (.node (rg 7254) (.node (rg 11480) .nil .nil) .nil))))) (.node (Pre.o_21 P) (.node (Pre.o_41 P) (.node (rg 280) (.node (rg 1320) (.node (rg 3432) (.node (rg 7656) .nil .nil) (.node (rg 11880) .nil .nil)) (.node (rg 5544) (.node (rg 9768) .nil .nil) (.node (rg 13992) .nil .nil))) (.node (rg 2376) (.node (rg 4504) (.node (rg 8728) .nil .nil) (.node (rg 12952) .nil .nil)) (.node (rg 6600) (.node (rg 10824) .nil .nil) .nil))) (.node (rg 796) (.node (rg 1844) (.node (rg 3964) (.node (rg 8188) .nil .nil) (.node (rg 12412) .nil .nil)) (.node (rg 6068) (.node (rg 10292) .nil .nil) (.node (rg 14516) .nil .nil))) (.node (rg 2900) (.node (rg 5020) (.node (rg 9244) .nil .nil) (.node (rg 13468) .nil .nil)) (.node (rg 7124) (.node (rg 11348) .nil .nil) .nil)))) (.node (Pre.o_61 P) (.node (rg 536) (.node (rg 1580) (.node (rg 3696) (.node (rg 7920) .nil .nil) (.node (rg 12144) .nil .nil)) (.node (rg 5804) (.node (rg 10028) .nil .nil) (.node (rg 14252) .nil .nil))) (.node (rg 2636) (.node (rg 4760) (.node (rg 8984) .nil .nil) (.node (rg 13208) .nil .nil)) (.node (rg 6860) (.node (rg 11084) .nil .nil) .nil))) (.node (rg 1056) (.node (rg 2108) (.node (rg 4232) (.node (rg 8456) .nil .nil) (.node (rg 12680) .nil .nil)) (.node (rg 6332) (.node (rg 10556) .nil .nil) (.node (rg 14780) .nil .nil))) (.node (rg 3164) (.node (rg 5280) (.node (rg 9504) .nil .nil) (.node (rg 13728) .nil .nil)) (.node (rg 7388) (.node (rg 11612) .nil .nil) .nil)))))))) (.node (PySem.W.boot_o_2 P) (.node (PySem.W.boot_o_4 P) (.node (PySem.W.boot_o_8 P) (.node (Pre.o_8 P) (.node (Pre.o_24 P) (.node (Pre.o_64 P) (.node (se 127) (.node (se 255) (.node (se 511) .nil .nil) (.node (se 767) .nil .nil)) (.node (se 383) (.node (se 639) .nil .nil) (.node (se 895) .nil .nil))) (.node (se 191) (.node (se 319) (.node (se 575) .nil .nil) (.node (se 831) .nil .nil)) (.node (se 447) (.node (se 703) .nil .nil) (.node (se 959) .nil .nil)))) (.node (se 95) (.node (se 159) (.node (se 287) (.node (se 543) .nil .nil) (.node (se 799) .nil .nil)) (.node (se 415) (.node (se 671) .nil .nil) (.node (se 927) .nil .nil))) (.node (se 223) (.node (se 351) (.node (se 607) .nil .nil) (.node (se 863) .nil .nil)) (.node (se 479) (.node (se 735) .nil .nil) .nil)))) (.node (Pre.o_48 P) (.node (se 79) (.node (se 143) (.node (se 271) (.node (se 527) .nil .nil) (.node (se 783) .nil .nil)) (.node (se 399) (.node (se 655) .nil .nil) (.node (se 911) .nil .nil))) (.node (se 207) (.node (se 335) (.node (se 591) .nil .nil) (.node (se 847) .nil .nil)) (.node (se 463) (.node (se 719) .nil .nil) .nil))) (.node (se 111) (.node (se 175) (.node (se 303) (.node (se 559) .nil .nil) (.node (se 815) .nil .nil)) (.node (se 431) (.node (se 687) .nil .nil) (.node (se 943) .nil .nil))) (.node (se 239) (.node (se 367) (.node (se 623) .nil .nil) (.node (se 879) .nil .nil)) (.node (se 495) (.node (se 751) .nil .nil) .nil))))) (.node (Pre.o_16 P) (.node (Pre.o_36 P) (.node (Pre.o_72 P) (.node (se 135) (.node (se 263) (.node (se 519) .nil .nil) (.node (se 775) .nil .nil)) (.node (se 391) (.node (se 647) .nil .nil) (.node (se 903) .nil .nil))) (.node (se 199) (.node (se 327) (.node (se 583) .nil .nil) (.node (se 839) .nil .nil)) (.node (se 455) (.node (se 711) .nil .nil) (.node (se 967) .nil .nil)))) (.node (se 103) (.node (se 167) (.node (se 295) (.node (se 551) .nil .nil) (.node (se 807) .nil .nil)) (.node (se 423) (.node (se 679) .nil .nil) (.node (se 935) .nil .nil))) (.node (se 231) (.node (se 359) (.node (se 615) .nil .nil) (.node (se 871) .nil .nil)) (.node (se 487) (.node (se 743) .nil .nil) .nil)))) (.node (Pre.o_56 P) (.node (se 87) (.node (se 151) (.node (se 279) (.node (se 535) .nil .nil) (.node (se 791) .nil .nil)) (.node (se 407) (.node (se 663) .nil .nil) (.node (se 919) .nil .nil))) (.node (se 215) (.node (se 343) (.node (se 599) .nil .nil) (.node (se 855) .nil .nil)) (.node (se 471) (.node (se 727) .nil .nil) .nil))) (.node (se 119) (.node (se 183) (.node (se 311) (.node (se 567) .nil .nil) (.node (se 823) .nil .nil)) (.node (se 439) (.node (se 695) .nil .nil) (.node (se 951) .nil .nil))) (.node (se 247) (.node (se 375) (.node (se 631) .nil .nil) (.node (se 887) .nil .nil)) (.node (se 503) (.node (se 759) .nil .nil) .nil)))))) (.node (Pre.o_45 P) (.node (Pre.o_12 P) (.node (Pre.o_32 P) (.node (Pre.o_68 P) (.node (se 131) (.node (se 259) (.node (se 515) .nil .nil) (.node (se 771) .nil .nil)) (.node (se 387) (.node (se 643) .nil .nil) (.node (se 899) .nil .nil))) (.node (se 195) (.node (se 323) (.node (se 579) .nil .nil) (.node (se 835) .nil .nil)) (.node (se 451) (.node (se 707) .nil .nil) (.node (se 963) .nil .nil)))) (.node (se 99) (.node (se 163) (.node (se 291) (.node (se 547) .nil .nil) (.node (se 803) .nil .nil)) (.node (se 419) (.node (se 675) .nil .nil) (.node (se 931) .nil .nil))) (.node (se 227) (.node (se 355) (.node (se 611) .nil .nil) (.node (se 867) .nil .nil)) (.node (se 483) (.node (se 739) .nil .nil) .nil)))) (.node (Pre.o_52 P) (.node (se 83) (.node (se 147) (.node (se 275) (.node (se 531) .nil .nil) (.node (se 787) .nil .nil)) (.node (se 403) (.node (se 659) .nil .nil) (.node (se 915) .nil .nil))) (.node (se 211) (.node (se 339) (.node (se 595) .nil .nil) (.node (se 851) .nil .nil)) (.node (se 467) (.node (se 723) .nil .nil) .nil))) (.node (se 115) (.node (se 179) (.node (se 307) (.node (se 563) .nil .nil) (.node (se 819) .nil .nil)) (.node (se 435) (.node (se 691) .nil .nil) (.node (se 947) .nil .nil))) (.node (se 243) (.node (se 371) (.node (se 627) .nil .nil) (.node (se 883) .nil .nil)) (.node (se 499) (.node (se 755) .nil .nil) .nil))))) (.node (Pre.o_20 P) (.node (Pre.o_40 P) (.node (oi 224) (.node (se 139) (.node (se 267) (.node (se 523) .nil .nil) (.node (se 779) .nil .nil)) (.node (se 395) (.node (se 651) .nil .nil) (.node (se 907) .nil .nil))) (.node (se 203) (.node (se 331) (.node (se 587) .nil .nil) (.node (se 843) .nil .nil)) (.node (se 459) (.node (se 715) .nil .nil) (.node (se 971) .nil .nil)))) (.node (se 107) (.node (se 171) (.node (se 299) (.node (se 555) .nil .nil) (.node (se 811) .nil .nil)) (.node (se 427) (.node (se 683) .nil .nil) (.node (se 939) .nil .nil))) (.node (se 235) (.node (se 363) (.node (se 619) .nil .nil) (.node (se 875) .nil .nil)) (.node (se 491) (.node (se 747) .nil .nil) .nil)))) (.node (Pre.o_60 P) (.node (se 91) (.node (se 155) (.node (se 283) (.node (se 539) .nil .nil) (.node (se 795) .nil .nil)) (.node (se 411) (.node (se 667) .nil .nil) (.node (se 923) .nil .nil))) (.node (se 219) (.node (se 347) (.node (se 603) .nil .nil) (.node (se 859) .nil .nil)) (.node (se 475) (.node (se 731) .nil .nil) .nil))) (.node (se 123) (.node (se 187) (.node (se 315) (.node (se 571) .nil .nil) (.node (se 827) .nil .nil)) (.node (se 443) (.node (se 699) .nil .nil) (.node (se 955) .nil .nil))) (.node (se 251) (.node (se 379) (.node (se 635) .nil .nil) (.node (se 891) .nil .nil)) (.node (se 507) (.node (se 763) .nil .nil) .nil))))))) (.node (PySem.W.boot_o_6 P) (.node (PySem.W.boot_o_10 P) (.node (Pre.o_10 P) (.node (Pre.o_26 P) (.node (Pre.o_66 P) (.node ri (.node ri (.node ri .nil .nil) (.node ri .nil .nil)) (.node ri (.node ri .nil .nil) (.node ri .nil .nil))) (.node ri (.node ri (.node ri .nil .nil) (.node ri .nil .nil)) (.node ri (.node ri .nil .nil) (.node ri .nil .nil)))) (.node ri (.node ri (.node ri (.node ri .nil .nil) (.node ri .nil .nil)) (.node ri (.node ri .nil .nil) (.node ri .nil .nil))) (.node ri (.node ri (.node ri .nil .nil) (.node ri .nil .nil)) (.node ri (.node ri .nil .nil) .nil)))) (.node (Pre.o_50 P) (.node ri (.node ri (.node ri (.node ri .nil .nil) (.node ri .nil .nil)) (.node ri (.node ri .nil .nil) (.node ri .nil .nil))) (.node ri (.node ri (.node ri .nil .nil) (.node ri .nil .nil)) (.node ri (.node ri .nil .nil) .nil))) (.node ri (.node ri (.node ri (.node ri .nil .nil) (.node ri .nil .nil)) (.node ri (.node ri .nil .nil) (.node ri .nil .nil))) (.node ri (.node ri (.node ri .nil .nil) (.node ri .nil .nil)) (.node ri (.node ri .nil .nil) .nil))))) (.node (Pre.o_18 P) (.node (Pre.o_38 P) (.node (ls 224) (.node ri (.node ri (.node ri .nil .nil) (.node ri .nil .nil)) (.node ri (.node ri .nil .nil) (.node ri .nil .nil))) (.node ri (.node ri (.node ri .nil .nil) (.node ri .nil .nil)) (.node ri (.node ri .nil .nil) (.node ri .nil .nil)))) (.node ri (.node ri (.node ri (.node ri .nil .nil) (.node ri .nil .nil)) (.node ri (.node ri .nil .nil) (.node ri .nil .nil))) (.node ri (.node ri (.node ri .nil .nil) (.node ri .nil .nil)) (.node ri (.node ri .nil .nil) .nil)))) (.node (Pre.o_58 P) (.node ri (.node ri (.node ri (.node ri .nil .nil) (.node ri .nil .nil)) (.node ri (.node ri .nil .nil) (.node ri .nil .nil))) (.node ri (.node ri (.node ri .nil .nil) (.node ri .nil .nil)) (.node ri (.node ri .nil .nil) .nil))) (.node ri (.node ri (.node ri (.node ri .nil .nil) (.node ri .nil .nil)) (.node ri (.node ri .nil .nil) (.node ri .nil .nil))) (.node ri (.node ri (.node ri .nil .nil) (.node ri .nil .nil)) (.node ri (.node ri .nil .nil) .nil)))))) (.node (Pre.o_4 P) (.node (Pre.o_14 P) (.node (Pre.o_34 P) (.node (Pre.o_70 P) (.node ri (.node ri (.node ri .nil .nil) (.node ri .nil .nil)) (.node ri (.node ri .nil .nil) (.node ri .nil .nil))) (.node ri (.node ri (.node ri .nil .nil) (.node ri .nil .nil)) (.node ri (.node ri .nil .nil) (.node ri .nil .nil)))) (.node ri (.node ri (.node ri (.node ri .nil .nil) (.node ri .nil .nil)) (.node ri (.node ri .nil .nil) (.node ri .nil .nil))) (.node ri (.node ri (.node ri .nil .nil) (.node ri .nil .nil)) (.node ri (.node ri .nil .nil) .nil)))) (.node (Pre.o_54 P) (.node ri (.node ri (.node ri (.node ri .nil .nil) (.node ri .nil .nil)) (.node ri (.node ri .nil .nil) (.node ri .nil .nil))) (.node ri (.node ri (.node ri .nil .nil) (.node ri .nil .nil)) (.node ri (.node ri .nil .nil) .nil))) (.node ri (.node ri (.node ri (.node ri .nil .nil) (.node ri .nil .nil)) (.node ri (.node ri .nil .nil) (.node ri .nil .nil))) (.node ri (.node ri (.node ri .nil .nil) (.node ri .nil .nil)) (.node ri (.node ri .nil .nil) .nil))))) (.node (Pre.o_22 P) (.node (Pre.o_42 P) (.node ri (.node ri (.node ri (.node ri .nil .nil) (.node ri .nil .nil)) (.node ri (.node ri .nil .nil) (.node ri .nil .nil))) (.node ri (.node ri (.node ri .nil .nil) (.node ri .nil .nil)) (.node ri (.node ri .nil .nil) .nil))) (.node ri (.node ri (.node ri (.node ri .nil .nil) (.node ri .nil .nil)) (.node ri (.node ri .nil .nil) (.node ri .nil .nil))) (.node ri (.node ri (.node ri .nil .nil) (.node ri .nil .nil)) (.node ri (.node ri .nil .nil) .nil)))) (.node (Pre.o_62 P) (.node ri (.node ri (.node ri (.node ri .nil .nil) (.node ri .nil .nil)) (.node ri (.node ri .nil .nil) (.node ri .nil .nil))) (.node ri (.node ri (.node ri .nil .nil) (.node ri .nil .nil)) (.node ri (.node ri .nil .nil) .nil))) (.node ri (.node ri (.node ri (.node ri .nil .nil) (.node ri .nil .nil)) (.node ri (.node ri .nil .nil) (.node ri .nil .nil))) (.node ri (.node ri (.node ri .nil .nil) (.node ri .nil .nil)) (.node ri (.node ri .nil .nil) .nil)))))))))
noncomputable def B15 (P : Params) : BT := (.node (PySem.W.boot_o_0 P) (.node (PySem.W.boot_o_1 P) (.node (Pre.o_44 P) (.node (PySem.W.boot_o_7 P) (.node (Pre.o_7 P) (.node (Pre.o_46 P) (.node (Pre.o_63 P) (.node tup0 (.node tup0 (.node tup0 (.node tup0 .nil .nil) .nil) (.node tup0 .nil .nil)) (.node tup0 (.node tup0 .nil .nil) (.node tup0 .nil .nil))) (.node tup0 (.node tup0 (.node tup0 .nil .nil) (.node tup0 .nil .nil)) (.node tup0 (.node tup0 .nil .nil) (.node tup0 .nil .nil)))) (.node tup0 (.node tup0 (.node tup0 (.node tup0 .nil .nil) (.node tup0 .nil .nil)) (.node tup0 (.node tup0 .nil .nil) (.node tup0 .nil .nil))) (.node tup0 (.node tup0 (.node tup0 .nil .nil) (.node tup0 .nil .nil)) (.node tup0 (.node tup0 .nil .nil) (.node tup0 .nil .nil))))) (.node (Pre.o_47 P) (.node tup0 (.node tup0 (.node tup0 (.node tup0 .nil .nil) (.node tup0 .nil .nil)) (.node tup0 (.node tup0 .nil .nil) (.node tup0 .nil .nil))) (.node tup0 (.node tup0 (.node tup0 .nil .nil) (.node tup0 .nil .nil)) (.node tup0 (.node tup0 .nil .nil) (.node tup0 .nil .nil)))) (.node tup0 (.node tup0 (.node tup0 (.node tup0 .nil .nil) (.node tup0 .nil .nil)) (.node tup0 (.node tup0 .nil .nil) (.node tup0 .nil .nil))) (.node tup0 (.node tup0 (.node tup0 .nil .nil) (.node tup0 .nil .nil)) (.node tup0 (.node tup0 .nil .nil) (.node tup0 .nil .nil)))))) (.node (Pre.o_15 P) (.node (Pre.o_35 P) (.node (Pre.o_71 P) (.node tup0 (.node tup0 (.node tup0 (.node tup0 .nil .nil) .nil) (.node tup0 .nil .nil)) (.node tup0 (.node tup0 .nil .nil) (.node tup0 .nil .nil))) (.node tup0 (.node tup0 (.node tup0 .nil .nil) (.node tup0 .nil .nil)) (.node tup0 (.node tup0 .nil .nil) (.node tup0 .nil .nil)))) (.node tup0 (.node tup0 (.node tup0 (.node tup0 .nil .nil) (.node tup0 .nil .nil)) (.node tup0 (.node tup0 .nil .nil) (.node tup0 .nil .nil))) (.node tup0 (.node tup0 (.node tup0 .nil .nil) (.node tup0 .nil .nil)) (.node tup0 (.node tup0 .nil .nil) (.node tup0 .nil .nil))))) (.node (Pre.o_55 P) (.node tup0 (.node tup0 (.node tup0 (.node tup0 .nil .nil) (.node tup0 .nil .nil)) (.node tup0 (.node tup0 .nil .nil) (.node tup0 .nil .nil))) (.node tup0 (.node tup0 (.node tup0 .nil .nil) (.node tup0 .nil .nil)) (.node tup0 (.node tup0 .nil .nil) (.node tup0 .nil .nil)))) (.node tup0 (.node tup0 (.node tup0 (.node tup0 .nil .nil) (.node tup0 .nil .nil)) (.node tup0 (.node tup0 .nil .nil) (.node tup0 .nil .nil))) (.node tup0 (.node tup0 (.node tup0 .nil .nil) (.node tup0 .nil .nil)) (.node tup0 (.node tup0 .nil .nil) (.node tup0 .nil .nil))))))) (.node (Pre.o_1 P) (.node (Pre.o_11 P) (.node (Pre.o_31 P) (.node (Pre.o_67 P) (.node tup0 (.node tup0 (.node tup0 (.node tup0 .nil .nil) .nil) (.node tup0 .nil .nil)) (.node tup0 (.node tup0 .nil .nil) (.node tup0 .nil .nil))) (.node tup0 (.node tup0 (.node tup0 .nil .nil) (.node tup0 .nil .nil)) (.node tup0 (.node tup0 .nil .nil) (.node tup0 .nil .nil)))) (.node tup0 (.node tup0 (.node tup0 (.node tup0 .nil .nil) (.node tup0 .nil .nil)) (.node tup0 (.node tup0 .nil .nil) (.node tup0 .nil .nil))) (.node tup0 (.node tup0 (.node tup0 .nil .nil) (.node tup0 .nil .nil)) (.node tup0 (.node tup0 .nil .nil) (.node tup0 .nil .nil))))) (.node (Pre.o_51 P) (.node tup0 (.node tup0 (.node tup0 (.node tup0 .nil .nil) (.node tup0 .nil .nil)) (.node tup0 (.node tup0 .nil .nil) (.node tup0 .nil .nil))) (.node tup0 (.node tup0 (.node tup0 .nil .nil) (.node tup0 .nil .nil)) (.node tup0 (.node tup0 .nil .nil) (.node tup0 .nil .nil)))) (.node tup0 (.node tup0 (.node tup0 (.node tup0 .nil .nil) (.node tup0 .nil .nil)) (.node tup0 (.node tup0 .nil .nil) (.node tup0 .nil .nil))) (.node tup0 (.node tup0 (.node tup0 .nil .nil) (.node tup0 .nil .nil)) (.node tup0 (.node tup0 .nil .nil) (.node tup0 .nil .nil)))))) (.node (Pre.o_19 P) (.node (Pre.o_39 P) (.node r256 (.node tup0 (.node tup0 (.node tup0 (.node tup0 .nil .nil) .nil) (.node tup0 .nil .nil)) (.node tup0 (.node tup0 .nil .nil) (.node tup0 .nil .nil))) (.node tup0 (.node tup0 (.node tup0 .nil .nil) (.node tup0 .nil .nil)) (.node tup0 (.node tup0 .nil .nil) (.node tup0 .nil .nil)))) (.node tup0 (.node tup0 (.node tup0 (.node tup0 .nil .nil) (.node tup0 .nil .nil)) (.node tup0 (.node tup0 .nil .nil) (.node tup0 .nil .nil))) (.node tup0 (.node tup0 (.node tup0 .nil .nil) (.node tup0 .nil .nil)) (.node tup0 (.node tup0 .nil .nil) (.node tup0 .nil .nil))))) (.node (Pre.o_59 P) (.node tup0 (.node tup0 (.node tup0 (.node tup0 .nil .nil) (.node tup0 .nil .nil)) (.node tup0 (.node tup0 .nil .nil) (.node tup0 .nil .nil))) (.node tup0 (.node tup0 (.node tup0 .nil .nil) (.node tup0 .nil .nil)) (.node tup0 (.node tup0 .nil .nil) (.node tup0 .nil .nil)))) (.node tup0 (.node tup0 (.node tup0 (.node tup0 .nil .nil) (.node tup0 .nil .nil)) (.node tup0 (.node tup0 .nil .nil) (.node tup0 .nil .nil))) (.node tup0 (.node tup0 (.node tup0 .nil .nil) (.node tup0 .nil .nil)) (.node tup0 (.node tup0 .nil .nil) (.node tup0 .nil .nil)))))))) (.node (PySem.W.boot_o_5 P) (.node (PySem.W.boot_o_9 P) (.node (Pre.o_9 P) (.node (Pre.o_25 P) (.node (Pre.o_65 P) (.node (rg 1120) (.node (rg 3229) (.node (rg 7454) (.node (rg 15903) .nil .nil) .nil) (.node (rg 11678) .nil .nil)) (.node (rg 5345) (.node (rg 9569) .nil .nil) (.node (rg 13794) .nil .nil))) (.node (rg 2173) (.node (rg 4298) (.node (rg 8523) .nil .nil) (.node (rg 12747) .nil .nil)) (.node (rg 6398) (.node (rg 10622) .nil .nil) (.node (rg 14847) .nil .nil)))) (.node (rg 599) (.node (rg 1644) (.node (rg 3761) (.node (rg 7986) .nil .nil) (.node (rg 12210) .nil .nil)) (.node (rg 5869) (.node (rg 10093) .nil .nil) (.node (rg 14318) .nil .nil))) (.node (rg 2700) (.node (rg 4824) (.node (rg 9048) .nil .nil) (.node (rg 13273) .nil .nil)) (.node (rg 6925) (.node (rg 11149) .nil .nil) (.node (rg 15374) .nil .nil))))) (.node (Pre.o_49 P) (.node (rg 342) (.node (rg 1383) (.node (rg 3496) (.node (rg 7721) .nil .nil) (.node (rg 11945) .nil .nil)) (.node (rg 5608) (.node (rg 9832) .nil .nil) (.node (rg 14057) .nil .nil))) (.node (rg 2439) (.node (rg 4567) (.node (rg 8791) .nil .nil) (.node (rg 13016) .nil .nil)) (.node (rg 6664) (.node (rg 10888) .nil .nil) (.node (rg 15113) .nil .nil)))) (.node (rg 859) (.node (rg 1908) (.node (rg 4029) (.node (rg 8254) .nil .nil) (.node (rg 12478) .nil .nil)) (.node (rg 6133) (.node (rg 10357) .nil .nil) (.node (rg 14582) .nil .nil))) (.node (rg 2964) (.node (rg 5084) (.node (rg 9308) .nil .nil) (.node (rg 13533) .nil .nil)) (.node (rg 7189) (.node (rg 11413) .nil .nil) (.node (rg 15638) .nil .nil)))))) (.node (Pre.o_17 P) (.node (Pre.o_37 P) (.node (lc P 240) (.node (rg 1252) (.node (rg 3363) (.node (rg 7588) (.node (rg 16037) .nil .nil) .nil) (.node (rg 11812) .nil .nil)) (.node (rg 5477) (.node (rg 9701) .nil .nil) (.node (rg 13926) .nil .nil))) (.node (rg 2307) (.node (rg 4434) (.node (rg 8659) .nil .nil) (.node (rg 12883) .nil .nil)) (.node (rg 6532) (.node (rg 10756) .nil .nil) (.node (rg 14981) .nil .nil)))) (.node (rg 729) (.node (rg 1776) (.node (rg 3895) (.node (rg 8120) .nil .nil) (.node (rg 12344) .nil .nil)) (.node (rg 6001) (.node (rg 10225) .nil .nil) (.node (rg 14450) .nil .nil))) (.node (rg 2832) (.node (rg 4954) (.node (rg 9178) .nil .nil) (.node (rg 13403) .nil .nil)) (.node (rg 7057) (.node (rg 11281) .nil .nil) (.node (rg 15506) .nil .nil))))) (.node (Pre.o_57 P) (.node (rg 470) (.node (rg 1513) (.node (rg 3628) (.node (rg 7853) .nil .nil) (.node (rg 12077) .nil .nil)) (.node (rg 5738) (.node (rg 9962) .nil .nil) (.node (rg 14187) .nil .nil))) (.node (rg 2569) (.node (rg 4695) (.node (rg 8919) .nil .nil) (.node (rg 13144) .nil .nil)) (.node (rg 6794) (.node (rg 11018) .nil .nil) (.node (rg 15243) .nil .nil)))) (.node (rg 989) (.node (rg 2040) (.node (rg 4163) (.node (rg 8388) .nil .nil) (.node (rg 12612) .nil .nil)) (.node (rg 6265) (.node (rg 10489) .nil .nil) (.node (rg 14714) .nil .nil))) (.node (rg 3096) (.node (rg 5214) (.node (rg 9438) .nil .nil) (.node (rg 13663) .nil .nil)) (.node (rg 7321) (.node (rg 11545) .nil .nil) (.node (rg 15770) .nil .nil))))))) (.node (Pre.o_3 P) (.node (Pre.o_13 P) (.node (Pre.o_33 P) (.node (Pre.o_69 P) (.node (rg 1186) (.node (rg 3296) (.node (rg 7520) (.node (rg 15970) .nil .nil) .nil) (.node (rg 11746) .nil .nil)) (.node (rg 5410) (.node (rg 9636) .nil .nil) (.node (rg 13860) .nil .nil))) (.node (rg 2240) (.node (rg 4366) (.node (rg 8590) .nil .nil) (.node (rg 12816) .nil .nil)) (.node (rg 6464) (.node (rg 10690) .nil .nil) (.node (rg 14914) .nil .nil)))) (.node (rg 664) (.node (rg 1710) (.node (rg 3828) (.node (rg 8052) .nil .nil) (.node (rg 12278) .nil .nil)) (.node (rg 5934) (.node (rg 10160) .nil .nil) (.node (rg 14384) .nil .nil))) (.node (rg 2766) (.node (rg 4888) (.node (rg 9114) .nil .nil) (.node (rg 13338) .nil .nil)) (.node (rg 6990) (.node (rg 11216) .nil .nil) (.node (rg 15440) .nil .nil))))) (.node (Pre.o_53 P) (.node (rg 406) (.node (rg 1448) (.node (rg 3562) (.node (rg 7786) .nil .nil) (.node (rg 12012) .nil .nil)) (.node (rg 5672) (.node (rg 9898) .nil .nil) (.node (rg 14122) .nil .nil))) (.node (rg 2504) (.node (rg 4630) (.node (rg 8856) .nil .nil) (.node (rg 13080) .nil .nil)) (.node (rg 6728) (.node (rg 10954) .nil .nil) (.node (rg 15178) .nil .nil)))) (.node (rg 924) (.node (rg 1974) (.node (rg 4096) (.node (rg 8320) .nil .nil) (.node (rg 12546) .nil .nil)) (.node (rg 6198) (.node (rg 10424) .nil .nil) (.node (rg 14648) .nil .nil))) (.node (rg 3030) (.node (rg 5148) (.node (rg 9374) .nil .nil) (.node (rg 13598) .nil .nil)) (.node (rg 7254) (.node (rg 11480) .nil .nil) (.node (rg 15704) .nil .nil)))))) (.node (Pre.o_21 P) (.node (Pre.o_41 P) (.node (rg 280) (.node (rg 1320) (.node (rg 3432) (.node (rg 7656) .nil .nil) (.node (rg 11880) .nil .nil)) (.node (rg 5544) (.node (rg 9768) .nil .nil) (.node (rg 13992) .nil .nil))) (.node (rg 2376) (.node (rg 4504) (.node (rg 8728) .nil .nil) (.node (rg 12952) .nil .nil)) (.node (rg 6600) (.node (rg 10824) .nil .nil) (.node (rg 15048) .nil .nil)))) (.node (rg 796) (.node (rg 1844) (.node (rg 3964) (.node (rg 8188) .nil .nil) (.node (rg 12412) .nil .nil)) (.node (rg 6068) (.node (rg 10292) .nil .nil) (.node (rg 14516) .nil .nil))) (.node (rg 2900) (.node (rg 5020) (.node (rg 9244) .nil .nil) (.node (rg 13468) .nil .nil)) (.node (rg 7124) (.node (rg 11348) .nil .nil) (.node (rg 15572) .nil .nil))))) (.node (Pre.o_61 P) (.node (rg 536) (.node (rg 1580) (.node (rg 3696) (.node (rg 7920) .nil .nil) (.node (rg 12144) .nil .nil)) (.node (rg 5804) (.node (rg 10028) .nil .nil) (.node (rg 14252) .nil .nil))) (.node (rg 2636) (.node (rg 4760) (.node (rg 8984) .nil .nil) (.node (rg 13208) .nil .nil)) (.node (rg 6860) (.node (rg 11084) .nil .nil) (.node (rg 15308) .nil .nil)))) (.node (rg 1056) (.node (rg 2108) (.node (rg 4232) (.node (rg 8456) .nil .nil) (.node (rg 12680) .nil .nil)) (.node (rg 6332) (.node (rg 10556) .nil .nil) (.node (rg 14780) .nil .nil))) (.node (rg 3164) (.node (rg 5280) (.node (rg 9504) .nil .nil) (.node (rg 13728) .nil .nil)) (.node (rg 7388) (.node (rg 11612) .nil .nil) (.node (rg 15836) .nil .nil))))))))) (.node (PySem.W.boot_o_2 P) (.node (PySem.W.boot_o_4 P) (.node (PySem.W.boot_o_8 P) (.node (Pre.o_8 P) (.node (Pre.o_24 P) (.node (Pre.o_64 P) (.node (se 127) (.node (se 255) (.node (se 511) (.node (se 1023) .nil .nil) .nil) (.node (se 767) .nil .nil)) (.node (se 383) (.node (se 639) .nil .nil) (.node (se 895) .nil .nil))) (.node (se 191) (.node (se 319) (.node (se 575) .nil .nil) (.node (se 831) .nil .nil)) (.node (se 447) (.node (se 703) .nil .nil) (.node (se 959) .nil .nil)))) (.node (se 95) (.node (se 159) (.node (se 287) (.node (se 543) .nil .nil) (.node (se 799) .nil .nil)) (.node (se 415) (.node (se 671) .nil .nil) (.node (se 927) .nil .nil))) (.node (se 223) (.node (se 351) (.node (se 607) .nil .nil) (.node (se 863) .nil .nil)) (.node (se 479) (.node (se 735) .nil .nil) (.node (se 991) .nil .nil))))) (.node (Pre.o_48 P) (.node (se 79) (.node (se 143) (.node (se 271) (.node (se 527) .nil .nil) (.node (se 783) .nil .nil)) (.node (se 399) (.node (se 655) .nil .nil) (.node (se 911) .nil .nil))) (.node (se 207) (.node (se 335) (.node (se 591) .nil .nil) (.node (se 847) .nil .nil)) (.node (se 463) (.node (se 719) .nil .nil) (.node (se 975) .nil .nil)))) (.node (se 111) (.node (se 175) (.node (se 303) (.node (se 559) .nil .nil) (.node (se 815) .nil .nil)) (.node (se 431) (.node (se 687) .nil .nil) (.node (se 943) .nil .nil))) (.node (se 239) (.node (se 367) (.node (se 623) .nil .nil) (.node (se 879) .nil .nil)) (.node (se 495) (.node (se 751) .nil .nil) (.node (se 1007) .nil .nil)))))) (.node (Pre.o_16 P) (.node (Pre.o_36 P) (.node (Pre.o_72 P) (.node (se 135) (.node (se 263) (.node (se 519) (.node (se 1031) .nil .nil) .nil) (.node (se 775) .nil .nil)) (.node (se 391) (.node (se 647) .nil .nil) (.node (se 903) .nil .nil))) (.node (se 199) (.node (se 327) (.node (se 583) .nil .nil) (.node (se 839) .nil .nil)) (.node (se 455) (.node (se 711) .nil .nil) (.node (se 967) .nil .nil)))) (.node (se 103) (.node (se 167) (.node (se 295) (.node (se 551) .nil .nil) (.node (se 807) .nil .nil)) (.node (se 423) (.node (se 679) .nil .nil) (.node (se 935) .nil .nil))) (.node (se 231) (.node (se 359) (.node (se 615) .nil .nil) (.node (se 871) .nil .nil)) (.node (se 487) (.node (se 743) .nil .nil) (.node (se 999) .nil .nil))))) (.node (Pre.o_56 P) (.node (se 87) (.node (se 151) (.node (se 279) (.node (se 535) .nil .nil) (.node (se 791) .nil .nil)) (.node (se 407) (.node (se 663) .nil .nil) (.node (se 919) .nil .nil))) (.node (se 215) (.node (se 343) (.node (se 599) .nil .nil) (.node (se 855) .nil .nil)) (.node (se 471) (.node (se 727) .nil .nil) (.node (se 983) .nil .nil)))) (.node (se 119) (.node (se 183) (.node (se 311) (.node (se 567) .nil .nil) (.node (se 823) .nil .nil)) (.node (se 439) (.node (se 695) .nil .nil) (.node (se 951) .nil .nil))) (.node (se 247) (.node (se 375) (.node (se 631) .nil .nil) (.node (se 887) .nil .nil)) (.node (se 503) (.node (se 759) .nil .nil) (.node (se 1015) .nil .nil))))))) (.node (Pre.o_45 P) (.node (Pre.o_12 P) (.node (Pre.o_32 P) (.node (Pre.o_68 P) (.node (se 131) (.node (se 259) (.node (se 515) (.node (se 1027) .nil .nil) .nil) (.node (se 771) .nil .nil)) (.node (se 387) (.node (se 643) .nil .nil) (.node (se 899) .nil .nil))) (.node (se 195) (.node (se 323) (.node (se 579) .nil .nil) (.node (se 835) .nil .nil)) (.node (se 451) (.node (se 707) .nil .nil) (.node (se 963) .nil .nil)))) (.node (se 99) (.node (se 163) (.node (se 291) (.node (se 547) .nil .nil) (.node (se 803) .nil .nil)) (.node (se 419) (.node (se 675) .nil .nil) (.node (se 931) .nil .nil))) (.node (se 227) (.node (se 355) (.node (se 611) .nil .nil) (.node (se 867) .nil .nil)) (.node (se 483) (.node (se 739) .nil .nil) (.node (se 995) .nil .nil))))) (.node (Pre.o_52 P) (.node (se 83) (.node (se 147) (.node (se 275) (.node (se 531) .nil .nil) (.node (se 787) .nil .nil)) (.node (se 403) (.node (se 659) .nil .nil) (.node (se 915) .nil .nil))) (.node (se 211) (.node (se 339) (.node (se 595) .nil .nil) (.node (se 851) .nil .nil)) (.node (se 467) (.node (se 723) .nil .nil) (.node (se 979) .nil .nil)))) (.node (se 115) (.node (se 179) (.node (se 307) (.node (se 563) .nil .nil) (.node (se 819) .nil .nil)) (.node (se 435) (.node (se 691) .nil .nil) (.node (se 947) .nil .nil))) (.node (se 243) (.node (se 371) (.node (se 627) .nil .nil) (.node (se 883) .nil .nil)) (.node (se 499) (.node (se 755) .nil .nil) (.node (se 1011) .nil .nil)))))) (.node (Pre.o_20 P) (.node (Pre.o_40 P) (.node (oi 240) (.node (se 139) (.node (se 267) (.node (se 523) (.node (se 1035) .nil .nil) .nil) (.node (se 779) .nil .nil)) (.node (se 395) (.node (se 651) .nil .nil) (.node (se 907) .nil .nil))) (.node (se 203) (.node (se 331) (.node (se 587) .nil .nil) (.node (se 843) .nil .nil)) (.node (se 459) (.node (se 715) .nil .nil) (.node (se 971) .nil .nil)))) (.node (se 107) (.node (se 171) (.node (se 299) (.node (se 555) .nil .nil) (.node (se 811) .nil .nil)) (.node (se 427) (.node (se 683) .nil .nil) (.node (se 939) .nil .nil))) (.node (se 235) (.node (se 363) (.node (se 619) .nil .nil) (.node (se 875) .nil .nil)) (.node (se 491) (.node (se 747) .nil .nil) (.node (se 1003) .nil .nil))))) (.node (Pre.o_60 P) (.node (se 91) (.node (se 155) (.node (se 283) (.node (se 539) .nil .nil) (.node (se 795) .nil .nil)) (.node (se 411) (.node (se 667) .nil .nil) (.node (se 923) .nil .nil))) (.node (se 219) (.node (se 347) (.node (se 603) .nil .nil) (.node (se 859) .nil .nil)) (.node (se 475) (.node (se 731) .nil .nil) (.node (se 987) .nil .nil)))) (.node (se 123) (.node (se 187) (.node (se 315) (.node (se 571) .nil .nil) (.node (se 827) .nil .nil)) (.node (se 443) (.node (se 699) .nil .nil) (.node (se 955) .nil .nil))) (.node (se 251) (.node (se 379) (.node (se 635) .nil .nil) (.node (se 891) .nil .nil)) (.node (se 507) (.node (se 763) .nil .nil) (.node (se 1019) .nil .nil)))))))) (.node (PySem.W.boot_o_6 P) (.node (PySem.W.boot_o_10 P) (.node (Pre.o_10 P) (.node (Pre.o_26 P) (.node (Pre.o_66 P) (.node ri (.node ri (.node ri (.node ri .nil .nil) .nil) (.node ri .nil .nil)) (.node ri (.node ri .nil .nil) (.node ri .nil .nil))) (.node ri (.node ri (.node ri .nil .nil) (.node ri .nil .nil)) (.node ri (.node ri .nil .nil) (.node ri .nil .nil)))) (.node ri (.node ri (.node ri (.node ri .nil .nil) (.node ri .nil .nil)) (.node ri (.node ri .nil .nil) (.node ri .nil .nil))) (.node ri (.node ri (.node ri .nil .nil) (.node ri .nil .nil)) (.node ri (.node ri .nil .nil) (.node ri .nil .nil))))) (.node (Pre.o_50 P) (.node ri (.node ri (.node ri (.node ri .nil .nil) (.node ri .nil .nil)) (.node ri (.node ri .nil .nil) (.node ri .nil .nil))) (.node ri (.node ri (.node ri .nil .nil) (.node ri .nil .nil)) (.node ri (.node ri .nil .nil) (.node ri .nil .nil)))) (.node ri (.node ri (.node ri (.node ri .nil .nil) (.node ri .nil .nil)) (.node ri (.node ri .nil .nil) (.node ri .nil .nil))) (.node ri (.node ri (.node ri .nil .nil) (.node ri .nil .nil)) (.node ri (.node ri .nil .nil) (.node ri .nil .nil)))))) (.node (Pre.o_18 P) (.node (Pre.o_38 P) (.node (ls 240) (.node ri (.node ri (.node ri (.node ri .nil .nil) .nil) (.node ri .nil .nil)) (.node ri (.node ri .nil .nil) (.node ri .nil .nil))) (.node ri (.node ri (.node ri .nil .nil) (.node ri .nil .nil)) (.node ri (.node ri .nil .nil) (.node ri .nil .nil)))) (.node ri (.node ri (.node ri (.node ri .nil .nil) (.node ri .nil .nil)) (.node ri (.node ri .nil .nil) (.node ri .nil .nil))) (.node ri (.node ri (.node ri .nil .nil) (.node ri .nil .nil)) (.node ri (.node ri .nil .nil) (.node ri .nil .nil))))) (.node (Pre.o_58 P) (.node ri (.node ri (.node ri (.node ri .nil .nil) (.node ri .nil .nil)) (.node ri (.node ri .nil .nil) (.node ri .nil .nil))) (.node ri (.node ri (.node ri .nil .nil) (.node ri .nil .nil)) (.node ri (.node ri .nil .nil) (.node ri .nil .nil)))) (.node ri (.node ri (.node ri (.node ri .nil .nil) (.node ri .nil .nil)) (.node ri (.node ri .nil .nil) (.node ri .nil .nil))) (.node ri (.node ri (.node ri .nil .nil) (.node ri .nil .nil)) (.node ri (.node ri .nil .nil) (.node ri .nil .nil))))))) (.node (Pre.o_4 P) (.node (Pre.o_14 P) (.node (Pre.o_34 P) (.node (Pre.o_70 P) (.node ri (.node ri (.node ri (.node ri .nil .nil) .nil) (.node ri .nil .nil)) (.node ri (.node ri .nil .nil) (.node ri .nil .nil))) (.node ri (.node ri (.node ri .nil .nil) (.node ri .nil .nil)) (.node ri (.node ri .nil .nil) (.node ri .nil .nil)))) (.node ri (.node ri (.node ri (.node ri .nil .nil) (.node ri .nil .nil)) (.node ri (.node ri .nil .nil) (.node ri .nil .nil))) (.node ri (.node ri (.node ri .nil .nil) (.node ri .nil .nil)) (.node ri (.node ri .nil .nil) (.node ri .nil .nil))))) (.node (Pre.o_54 P) (.node ri (.node ri (.node ri (.node ri .nil .nil) (.node ri .nil .nil)) (.node ri (.node ri .nil .nil) (.node ri .nil .nil))) (.node ri (.node ri (.node ri .nil .nil) (.node ri .nil .nil)) (.node ri (.node ri .nil .nil) (.node ri .nil .nil)))) (.node ri (.node ri (.node ri (.node ri .nil .nil) (.node ri .nil .nil)) (.node ri (.node ri .nil .nil) (.node ri .nil .nil))) (.node ri (.node ri (.node ri .nil .nil) (.node ri .nil .nil)) (.node ri (.node ri .nil .nil) (.node ri .nil .nil)))))) (.node (Pre.o_22 P) (.node (Pre.o_42 P) (.node ri (.node ri (.node ri (.node ri .nil .nil) (.node ri .nil .nil)) (.node ri (.node ri .nil .nil) (.node ri .nil .nil))) (.node ri (.node ri (.node ri .nil .nil) (.node ri .nil .nil)) (.node ri (.node ri .nil .nil) (.node ri .nil .nil)))) (.node ri (.node ri (.node ri (.node ri .nil .nil) (.node ri .nil .nil)) (.node ri (.node ri .nil .nil) (.node ri .nil .nil))) (.node ri (.node ri (.node ri .nil .nil) (.node ri .nil .nil)) (.node ri (.node ri .nil .nil) (.node ri .nil .nil))))) (.node (Pre.o_62 P) (.node ri (.node ri (.node ri (.node ri .nil .nil) (.node ri .nil .nil)) (.node ri (.node ri .nil .nil) (.node ri .nil .nil))) (.node ri (.node ri (.node ri .nil .nil) (.node ri .nil .nil)) (.node ri (.node ri .nil .nil) (.node ri .nil .nil)))) (.node ri (.node ri (.node ri (.node ri .nil .nil) (.node ri .nil .nil)) (.node ri (.node ri .nil .nil) (.node ri .nil .nil))) (.node ri (.node ri (.node ri .nil .nil) (.node ri .nil .nil)) (.node ri (.node ri .nil .nil) (.node ri .nil .nil))))))))))
def n0 : List Obj := []
noncomputable def t0 (P : Params) : BT := B0 P
noncomputable def a0 (P : Params) (os : OsState) : SharedT := shr (t0 P) 77 279 os
noncomputable def b0 (P : Params) (os : OsState) : SharedT := shr (insL (t0 P) 77 [rg 280, rit 0 8]) 79 282 os
def n1 : List Obj := n0 ++ [(rg 280), ri, tup0, (se 79)]
noncomputable def t1 (P : Params) : BT := insL (top3 (B0 P) P 1) 77 n1
noncomputable def a1 (P : Params) (os : OsState) : SharedT := shr (t1 P) 81 341 os
noncomputable def b1 (P : Params) (os : OsState) : SharedT := shr (insL (t1 P) 81 [rg 342, rit 0 8]) 83 344 os
def n2 : List Obj := n1 ++ [(rg 342), ri, tup0, (se 83)]
noncomputable def t2 (P : Params) : BT := insL (top3 (B0 P) P 2) 77 n2
noncomputable def a2 (P : Params) (os : OsState) : SharedT := shr (t2 P) 85 405 os
noncomputable def b2 (P : Params) (os : OsState) : SharedT := shr (insL (t2 P) 85 [rg 406, rit 0 8]) 87 408 os
def n3 : List Obj := n2 ++ [(rg 406), ri, tup0, (se 87)]
noncomputable def t3 (P : Params) : BT := insL (top3 (B0 P) P 3) 77 n3
noncomputable def a3 (P : Params) (os : OsState) : SharedT := shr (t3 P) 89 469 os
noncomputable def b3 (P : Params) (os : OsState) : SharedT := shr (insL (t3 P) 89 [rg 470, rit 0 8]) 91 472 os
def n4 : List Obj := n3 ++ [(rg 470), ri, tup0, (se 91)]
noncomputable def t4 (P : Params) : BT := insL (top3 (B0 P) P 4) 77 n4
noncomputable def a4 (P : Params) (os : OsState) : SharedT := shr (t4 P) 93 535 os
noncomputable def b4 (P : Params) (os : OsState) : SharedT := shr (insL (t4 P) 93 [rg 536, rit 0 8]) 95 538 os
def n5 : List Obj := n4 ++ [(rg 536), ri, tup0, (se 95)]
noncomputable def t5 (P : Params) : BT := insL (top3 (B0 P) P 5) 77 n5
noncomputable def a5 (P : Params) (os : OsState) : SharedT := shr (t5 P) 97 598 os
noncomputable def b5 (P : Params) (os : OsState) : SharedT := shr (insL (t5 P) 97 [rg 599, rit 0 8]) 99 601 os
def n6 : List Obj := n5 ++ [(rg 599), ri, tup0, (se 99)]
noncomputable def t6 (P : Params) : BT := insL (top3 (B0 P) P 6) 77 n6
noncomputable def a6 (P : Params) (os : OsState) : SharedT := shr (t6 P) 101 663 os
noncomputable def b6 (P : Params) (os : OsState) : SharedT := shr (insL (t6 P) 101 [rg 664, rit 0 8]) 103 666 os
def n7 : List Obj := n6 ++ [(rg 664), ri, tup0, (se 103)]
noncomputable def t7 (P : Params) : BT := insL (top3 (B0 P) P 7) 77 n7
noncomputable def a7 (P : Params) (os : OsState) : SharedT := shr (t7 P) 105 728 os
noncomputable def b7 (P : Params) (os : OsState) : SharedT := shr (insL (t7 P) 105 [rg 729, rit 0 8]) 107 731 os
def n8 : List Obj := n7 ++ [(rg 729), ri, tup0, (se 107)]
noncomputable def t8 (P : Params) : BT := insL (top3 (B0 P) P 8) 77 n8
noncomputable def a8 (P : Params) (os : OsState) : SharedT := shr (t8 P) 109 795 os
noncomputable def b8 (P : Params) (os : OsState) : SharedT := shr (insL (t8 P) 109 [rg 796, rit 0 8]) 111 798 os
def n9 : List Obj := n8 ++ [(rg 796), ri, tup0, (se 111)]
noncomputable def t9 (P : Params) : BT := insL (top3 (B0 P) P 9) 77 n9
noncomputable def a9 (P : Params) (os : OsState) : SharedT := shr (t9 P) 113 858 os
noncomputable def b9 (P : Params) (os : OsState) : SharedT := shr (insL (t9 P) 113 [rg 859, rit 0 8]) 115 861 os
def n10 : List Obj := n9 ++ [(rg 859), ri, tup0, (se 115)]
noncomputable def t10 (P : Params) : BT := insL (top3 (B0 P) P 10) 77 n10
noncomputable def a10 (P : Params) (os : OsState) : SharedT := shr (t10 P) 117 923 os
noncomputable def b10 (P : Params) (os : OsState) : SharedT := shr (insL (t10 P) 117 [rg 924, rit 0 8]) 119 926 os
def n11 : List Obj := n10 ++ [(rg 924), ri, tup0, (se 119)]
noncomputable def t11 (P : Params) : BT := insL (top3 (B0 P) P 11) 77 n11
noncomputable def a11 (P : Params) (os : OsState) : SharedT := shr (t11 P) 121 988 os
noncomputable def b11 (P : Params) (os : OsState) : SharedT := shr (insL (t11 P) 121 [rg 989, rit 0 8]) 123 991 os
def n12 : List Obj := n11 ++ [(rg 989), ri, tup0, (se 123)]
noncomputable def t12 (P : Params) : BT := insL (top3 (B0 P) P 12) 77 n12
noncomputable def a12 (P : Params) (os : OsState) : SharedT := shr (t12 P) 125 1055 os
noncomputable def b12 (P : Params) (os : OsState) : SharedT := shr (insL (t12 P) 125 [rg 1056, rit 0 8]) 127 1058 os
def n13 : List Obj := n12 ++ [(rg 1056), ri, tup0, (se 127)]
noncomputable def t13 (P : Params) : BT := insL (top3 (B0 P) P 13) 77 n13
noncomputable def a13 (P : Params) (os : OsState) : SharedT := shr (t13 P) 129 1119 os
noncomputable def b13 (P : Params) (os : OsState) : SharedT := shr (insL (t13 P) 129 [rg 1120, rit 0 8]) 131 1122 os
def n14 : List Obj := n13 ++ [(rg 1120), ri, tup0, (se 131)]
noncomputable def t14 (P : Params) : BT := insL (top3 (B0 P) P 14) 77 n14
noncomputable def a14 (P : Params) (os : OsState) : SharedT := shr (t14 P) 133 1185 os
noncomputable def b14 (P : Params) (os : OsState) : SharedT := shr (insL (t14 P) 133 [rg 1186, rit 0 8]) 135 1188 os
def n15 : List Obj := n14 ++ [(rg 1186), ri, tup0, (se 135)]
noncomputable def t15 (P : Params) : BT := insL (top3 (B0 P) P 15) 77 n15
noncomputable def a15 (P : Params) (os : OsState) : SharedT := shr (t15 P) 137 1251 os
noncomputable def b15 (P : Params) (os : OsState) : SharedT := shr (insL (t15 P) 137 [rg 1252, rit 0 8]) 139 1254 os
def n16 : List Obj := []
noncomputable def t16 (P : Params) : BT := B1 P
noncomputable def a16 (P : Params) (os : OsState) : SharedT := shr (t16 P) 141 1319 os
noncomputable def b16 (P : Params) (os : OsState) : SharedT := shr (insL (t16 P) 141 [rg 1320, rit 0 8]) 143 1322 os
def n17 : List Obj := n16 ++ [(rg 1320), ri, tup0, (se 143)]
noncomputable def t17 (P : Params) : BT := insL (top3 (B1 P) P 17) 141 n17
noncomputable def a17 (P : Params) (os : OsState) : SharedT := shr (t17 P) 145 1382 os
noncomputable def b17 (P : Params) (os : OsState) : SharedT := shr (insL (t17 P) 145 [rg 1383, rit 0 8]) 147 1385 os
def n18 : List Obj := n17 ++ [(rg 1383), ri, tup0, (se 147)]
noncomputable def t18 (P : Params) : BT := insL (top3 (B1 P) P 18) 141 n18
noncomputable def a18 (P : Params) (os : OsState) : SharedT := shr (t18 P) 149 1447 os
noncomputable def b18 (P : Params) (os : OsState) : SharedT := shr (insL (t18 P) 149 [rg 1448, rit 0 8]) 151 1450 os
def n19 : List Obj := n18 ++ [(rg 1448), ri, tup0, (se 151)]
noncomputable def t19 (P : Params) : BT := insL (top3 (B1 P) P 19) 141 n19
noncomputable def a19 (P : Params) (os : OsState) : SharedT := shr (t19 P) 153 1512 os
noncomputable def b19 (P : Params) (os : OsState) : SharedT := shr (insL (t19 P) 153 [rg 1513, rit 0 8]) 155 1515 os
def n20 : List Obj := n19 ++ [(rg 1513), ri, tup0, (se 155)]
noncomputable def t20 (P : Params) : BT := insL (top3 (B1 P) P 20) 141 n20
noncomputable def a20 (P : Params) (os : OsState) : SharedT := shr (t20 P) 157 1579 os
noncomputable def b20 (P : Params) (os : OsState) : SharedT := shr (insL (t20 P) 157 [rg 1580, rit 0 8]) 159 1582 os
def n21 : List Obj := n20 ++ [(rg 1580), ri, tup0, (se 159)]
noncomputable def t21 (P : Params) : BT := insL (top3 (B1 P) P 21) 141 n21
noncomputable def a21 (P : Params) (os : OsState) : SharedT := shr (t21 P) 161 1643 os
noncomputable def b21 (P : Params) (os : OsState) : SharedT := shr (insL (t21 P) 161 [rg 1644, rit 0 8]) 163 1646 os
def n22 : List Obj := n21 ++ [(rg 1644), ri, tup0, (se 163)]
noncomputable def t22 (P : Params) : BT := insL (top3 (B1 P) P 22) 141 n22
noncomputable def a22 (P : Params) (os : OsState) : SharedT := shr (t22 P) 165 1709 os
noncomputable def b22 (P : Params) (os : OsState) : SharedT := shr (insL (t22 P) 165 [rg 1710, rit 0 8]) 167 1712 os
def n23 : List Obj := n22 ++ [(rg 1710), ri, tup0, (se 167)]
noncomputable def t23 (P : Params) : BT := insL (top3 (B1 P) P 23) 141 n23
noncomputable def a23 (P : Params) (os : OsState) : SharedT := shr (t23 P) 169 1775 os
noncomputable def b23 (P : Params) (os : OsState) : SharedT := shr (insL (t23 P) 169 [rg 1776, rit 0 8]) 171 1778 os
def n24 : List Obj := n23 ++ [(rg 1776), ri, tup0, (se 171)]
noncomputable def t24 (P : Params) : BT := insL (top3 (B1 P) P 24) 141 n24
noncomputable def a24 (P : Params) (os : OsState) : SharedT := shr (t24 P) 173 1843 os
noncomputable def b24 (P : Params) (os : OsState) : SharedT := shr (insL (t24 P) 173 [rg 1844, rit 0 8]) 175 1846 os
def n25 : List Obj := n24 ++ [(rg 1844), ri, tup0, (se 175)]
noncomputable def t25 (P : Params) : BT := insL (top3 (B1 P) P 25) 141 n25
noncomputable def a25 (P : Params) (os : OsState) : SharedT := shr (t25 P) 177 1907 os
noncomputable def b25 (P : Params) (os : OsState) : SharedT := shr (insL (t25 P) 177 [rg 1908, rit 0 8]) 179 1910 os
def n26 : List Obj := n25 ++ [(rg 1908), ri, tup0, (se 179)]
noncomputable def t26 (P : Params) : BT := insL (top3 (B1 P) P 26) 141 n26
noncomputable def a26 (P : Params) (os : OsState) : SharedT := shr (t26 P) 181 1973 os
noncomputable def b26 (P : Params) (os : OsState) : SharedT := shr (insL (t26 P) 181 [rg 1974, rit 0 8]) 183 1976 os
def n27 : List Obj := n26 ++ [(rg 1974), ri, tup0, (se 183)]
noncomputable def t27 (P : Params) : BT := insL (top3 (B1 P) P 27) 141 n27
noncomputable def a27 (P : Params) (os : OsState) : SharedT := shr (t27 P) 185 2039 os
noncomputable def b27 (P : Params) (os : OsState) : SharedT := shr (insL (t27 P) 185 [rg 2040, rit 0 8]) 187 2042 os
def n28 : List Obj := n27 ++ [(rg 2040), ri, tup0, (se 187)]
noncomputable def t28 (P : Params) : BT := insL (top3 (B1 P) P 28) 141 n28
noncomputable def a28 (P : Params) (os : OsState) : SharedT := shr (t28 P) 189 2107 os
noncomputable def b28 (P : Params) (os : OsState) : SharedT := shr (insL (t28 P) 189 [rg 2108, rit 0 8]) 191 2110 os
def n29 : List Obj := n28 ++ [(rg 2108), ri, tup0, (se 191)]
noncomputable def t29 (P : Params) : BT := insL (top3 (B1 P) P 29) 141 n29
noncomputable def a29 (P : Params) (os : OsState) : SharedT := shr (t29 P) 193 2172 os
noncomputable def b29 (P : Params) (os : OsState) : SharedT := shr (insL (t29 P) 193 [rg 2173, rit 0 8]) 195 2175 os
def n30 : List Obj := n29 ++ [(rg 2173), ri, tup0, (se 195)]
noncomputable def t30 (P : Params) : BT := insL (top3 (B1 P) P 30) 141 n30
noncomputable def a30 (P : Params) (os : OsState) : SharedT := shr (t30 P) 197 2239 os
noncomputable def b30 (P : Params) (os : OsState) : SharedT := shr (insL (t30 P) 197 [rg 2240, rit 0 8]) 199 2242 os
def n31 : List Obj := n30 ++ [(rg 2240), ri, tup0, (se 199)]
noncomputable def t31 (P : Params) : BT := insL (top3 (B1 P) P 31) 141 n31
noncomputable def a31 (P : Params) (os : OsState) : SharedT := shr (t31 P) 201 2306 os
noncomputable def b31 (P : Params) (os : OsState) : SharedT := shr (insL (t31 P) 201 [rg 2307, rit 0 8]) 203 2309 os
def n32 : List Obj := []
noncomputable def t32 (P : Params) : BT := B2 P
noncomputable def a32 (P : Params) (os : OsState) : SharedT := shr (t32 P) 205 2375 os
noncomputable def b32 (P : Params) (os : OsState) : SharedT := shr (insL (t32 P) 205 [rg 2376, rit 0 8]) 207 2378 os
def n33 : List Obj := n32 ++ [(rg 2376), ri, tup0, (se 207)]
noncomputable def t33 (P : Params) : BT := insL (top3 (B2 P) P 33) 205 n33
noncomputable def a33 (P : Params) (os : OsState) : SharedT := shr (t33 P) 209 2438 os
noncomputable def b33 (P : Params) (os : OsState) : SharedT := shr (insL (t33 P) 209 [rg 2439, rit 0 8]) 211 2441 os
def n34 : List Obj := n33 ++ [(rg 2439), ri, tup0, (se 211)]
noncomputable def t34 (P : Params) : BT := insL (top3 (B2 P) P 34) 205 n34
noncomputable def a34 (P : Params) (os : OsState) : SharedT := shr (t34 P) 213 2503 os
noncomputable def b34 (P : Params) (os : OsState) : SharedT := shr (insL (t34 P) 213 [rg 2504, rit 0 8]) 215 2506 os
def n35 : List Obj := n34 ++ [(rg 2504), ri, tup0, (se 215)]
noncomputable def t35 (P : Params) : BT := insL (top3 (B2 P) P 35) 205 n35
noncomputable def a35 (P : Params) (os : OsState) : SharedT := shr (t35 P) 217 2568 os
noncomputable def b35 (P : Params) (os : OsState) : SharedT := shr (insL (t35 P) 217 [rg 2569, rit 0 8]) 219 2571 os
def n36 : List Obj := n35 ++ [(rg 2569), ri, tup0, (se 219)]
noncomputable def t36 (P : Params) : BT := insL (top3 (B2 P) P 36) 205 n36
noncomputable def a36 (P : Params) (os : OsState) : SharedT := shr (t36 P) 221 2635 os
noncomputable def b36 (P : Params) (os : OsState) : SharedT := shr (insL (t36 P) 221 [rg 2636, rit 0 8]) 223 2638 os
def n37 : List Obj := n36 ++ [(rg 2636), ri, tup0, (se 223)]
noncomputable def t37 (P : Params) : BT := insL (top3 (B2 P) P 37) 205 n37
noncomputable def a37 (P : Params) (os : OsState) : SharedT := shr (t37 P) 225 2699 os
noncomputable def b37 (P : Params) (os : OsState) : SharedT := shr (insL (t37 P) 225 [rg 2700, rit 0 8]) 227 2702 os
def n38 : List Obj := n37 ++ [(rg 2700), ri, tup0, (se 227)]
noncomputable def t38 (P : Params) : BT := insL (top3 (B2 P) P 38) 205 n38
noncomputable def a38 (P : Params) (os : OsState) : SharedT := shr (t38 P) 229 2765 os
noncomputable def b38 (P : Params) (os : OsState) : SharedT := shr (insL (t38 P) 229 [rg 2766, rit 0 8]) 231 2768 os
def n39 : List Obj := n38 ++ [(rg 2766), ri, tup0, (se 231)]
noncomputable def t39 (P : Params) : BT := insL (top3 (B2 P) P 39) 205 n39
noncomputable def a39 (P : Params) (os : OsState) : SharedT := shr (t39 P) 233 2831 os
noncomputable def b39 (P : Params) (os : OsState) : SharedT := shr (insL (t39 P) 233 [rg 2832, rit 0 8]) 235 2834 os
def n40 : List Obj := n39 ++ [(rg 2832), ri, tup0, (se 235)]
noncomputable def t40 (P : Params) : BT := insL (top3 (B2 P) P 40) 205 n40
noncomputable def a40 (P : Params) (os : OsState) : SharedT := shr (t40 P) 237 2899 os
noncomputable def b40 (P : Params) (os : OsState) : SharedT := shr (insL (t40 P) 237 [rg 2900, rit 0 8]) 239 2902 os
def n41 : List Obj := n40 ++ [(rg 2900), ri, tup0, (se 239)]
noncomputable def t41 (P : Params) : BT := insL (top3 (B2 P) P 41) 205 n41
noncomputable def a41 (P : Params) (os : OsState) : SharedT := shr (t41 P) 241 2963 os
noncomputable def b41 (P : Params) (os : OsState) : SharedT := shr (insL (t41 P) 241 [rg 2964, rit 0 8]) 243 2966 os
def n42 : List Obj := n41 ++ [(rg 2964), ri, tup0, (se 243)]
noncomputable def t42 (P : Params) : BT := insL (top3 (B2 P) P 42) 205 n42
noncomputable def a42 (P : Params) (os : OsState) : SharedT := shr (t42 P) 245 3029 os
noncomputable def b42 (P : Params) (os : OsState) : SharedT := shr (insL (t42 P) 245 [rg 3030, rit 0 8]) 247 3032 os
def n43 : List Obj := n42 ++ [(rg 3030), ri, tup0, (se 247)]
noncomputable def t43 (P : Params) : BT := insL (top3 (B2 P) P 43) 205 n43
noncomputable def a43 (P : Params) (os : OsState) : SharedT := shr (t43 P) 249 3095 os
noncomputable def b43 (P : Params) (os : OsState) : SharedT := shr (insL (t43 P) 249 [rg 3096, rit 0 8]) 251 3098 os
def n44 : List Obj := n43 ++ [(rg 3096), ri, tup0, (se 251)]
noncomputable def t44 (P : Params) : BT := insL (top3 (B2 P) P 44) 205 n44
noncomputable def a44 (P : Params) (os : OsState) : SharedT := shr (t44 P) 253 3163 os
noncomputable def b44 (P : Params) (os : OsState) : SharedT := shr (insL (t44 P) 253 [rg 3164, rit 0 8]) 255 3166 os
def n45 : List Obj := n44 ++ [(rg 3164), ri, tup0, (se 255)]
noncomputable def t45 (P : Params) : BT := insL (top3 (B2 P) P 45) 205 n45
noncomputable def a45 (P : Params) (os : OsState) : SharedT := shr (t45 P) 257 3228 os
noncomputable def b45 (P : Params) (os : OsState) : SharedT := shr (insL (t45 P) 257 [rg 3229, rit 0 8]) 259 3231 os
def n46 : List Obj := n45 ++ [(rg 3229), ri, tup0, (se 259)]
noncomputable def t46 (P : Params) : BT := insL (top3 (B2 P) P 46) 205 n46
noncomputable def a46 (P : Params) (os : OsState) : SharedT := shr (t46 P) 261 3295 os
noncomputable def b46 (P : Params) (os : OsState) : SharedT := shr (insL (t46 P) 261 [rg 3296, rit 0 8]) 263 3298 os
def n47 : List Obj := n46 ++ [(rg 3296), ri, tup0, (se 263)]
noncomputable def t47 (P : Params) : BT := insL (top3 (B2 P) P 47) 205 n47
noncomputable def a47 (P : Params) (os : OsState) : SharedT := shr (t47 P) 265 3362 os
noncomputable def b47 (P : Params) (os : OsState) : SharedT := shr (insL (t47 P) 265 [rg 3363, rit 0 8]) 267 3365 os
def n48 : List Obj := []
noncomputable def t48 (P : Params) : BT := B3 P
noncomputable def a48 (P : Params) (os : OsState) : SharedT := shr (t48 P) 269 3431 os
noncomputable def b48 (P : Params) (os : OsState) : SharedT := shr (insL (t48 P) 269 [rg 3432, rit 0 8]) 271 3434 os
def n49 : List Obj := n48 ++ [(rg 3432), ri, tup0, (se 271)]
noncomputable def t49 (P : Params) : BT := insL (top3 (B3 P) P 49) 269 n49
noncomputable def a49 (P : Params) (os : OsState) : SharedT := shr (t49 P) 273 3495 os
noncomputable def b49 (P : Params) (os : OsState) : SharedT := shr (insL (t49 P) 273 [rg 3496, rit 0 8]) 275 3498 os
def n50 : List Obj := n49 ++ [(rg 3496), ri, tup0, (se 275)]
noncomputable def t50 (P : Params) : BT := insL (top3 (B3 P) P 50) 269 n50
noncomputable def a50 (P : Params) (os : OsState) : SharedT := shr (t50 P) 277 3561 os
noncomputable def b50 (P : Params) (os : OsState) : SharedT := shr (insL (t50 P) 277 [rg 3562, rit 0 8]) 279 3564 os
def n51 : List Obj := n50 ++ [(rg 3562), ri, tup0, (se 279)]
noncomputable def t51 (P : Params) : BT := insL (top3 (B3 P) P 51) 269 n51
noncomputable def a51 (P : Params) (os : OsState) : SharedT := shr (t51 P) 281 3627 os
noncomputable def b51 (P : Params) (os : OsState) : SharedT := shr (insL (t51 P) 281 [rg 3628, rit 0 8]) 283 3630 os
def n52 : List Obj := n51 ++ [(rg 3628), ri, tup0, (se 283)]
noncomputable def t52 (P : Params) : BT := insL (top3 (B3 P) P 52) 269 n52
noncomputable def a52 (P : Params) (os : OsState) : SharedT := shr (t52 P) 285 3695 os
noncomputable def b52 (P : Params) (os : OsState) : SharedT := shr (insL (t52 P) 285 [rg 3696, rit 0 8]) 287 3698 os
def n53 : List Obj := n52 ++ [(rg 3696), ri, tup0, (se 287)]
noncomputable def t53 (P : Params) : BT := insL (top3 (B3 P) P 53) 269 n53
noncomputable def a53 (P : Params) (os : OsState) : SharedT := shr (t53 P) 289 3760 os
noncomputable def b53 (P : Params) (os : OsState) : SharedT := shr (insL (t53 P) 289 [rg 3761, rit 0 8]) 291 3763 os
def n54 : List Obj := n53 ++ [(rg 3761), ri, tup0, (se 291)]
noncomputable def t54 (P : Params) : BT := insL (top3 (B3 P) P 54) 269 n54
noncomputable def a54 (P : Params) (os : OsState) : SharedT := shr (t54 P) 293 3827 os
noncomputable def b54 (P : Params) (os : OsState) : SharedT := shr (insL (t54 P) 293 [rg 3828, rit 0 8]) 295 3830 os
def n55 : List Obj := n54 ++ [(rg 3828), ri, tup0, (se 295)]
noncomputable def t55 (P : Params) : BT := insL (top3 (B3 P) P 55) 269 n55
noncomputable def a55 (P : Params) (os : OsState) : SharedT := shr (t55 P) 297 3894 os
noncomputable def b55 (P : Params) (os : OsState) : SharedT := shr (insL (t55 P) 297 [rg 3895, rit 0 8]) 299 3897 os
def n56 : List Obj := n55 ++ [(rg 3895), ri, tup0, (se 299)]
noncomputable def t56 (P : Params) : BT := insL (top3 (B3 P) P 56) 269 n56
noncomputable def a56 (P : Params) (os : OsState) : SharedT := shr (t56 P) 301 3963 os
noncomputable def b56 (P : Params) (os : OsState) : SharedT := shr (insL (t56 P) 301 [rg 3964, rit 0 8]) 303 3966 os
def n57 : List Obj := n56 ++ [(rg 3964), ri, tup0, (se 303)]
noncomputable def t57 (P : Params) : BT := insL (top3 (B3 P) P 57) 269 n57
noncomputable def a57 (P : Params) (os : OsState) : SharedT := shr (t57 P) 305 4028 os
noncomputable def b57 (P : Params) (os : OsState) : SharedT := shr (insL (t57 P) 305 [rg 4029, rit 0 8]) 307 4031 os
def n58 : List Obj := n57 ++ [(rg 4029), ri, tup0, (se 307)]
noncomputable def t58 (P : Params) : BT := insL (top3 (B3 P) P 58) 269 n58
noncomputable def a58 (P : Params) (os : OsState) : SharedT := shr (t58 P) 309 4095 os
noncomputable def b58 (P : Params) (os : OsState) : SharedT := shr (insL (t58 P) 309 [rg 4096, rit 0 8]) 311 4098 os
def n59 : List Obj := n58 ++ [(rg 4096), ri, tup0, (se 311)]
noncomputable def t59 (P : Params) : BT := insL (top3 (B3 P) P 59) 269 n59
noncomputable def a59 (P : Params) (os : OsState) : SharedT := shr (t59 P) 313 4162 os
noncomputable def b59 (P : Params) (os : OsState) : SharedT := shr (insL (t59 P) 313 [rg 4163, rit 0 8]) 315 4165 os
def n60 : List Obj := n59 ++ [(rg 4163), ri, tup0, (se 315)]
noncomputable def t60 (P : Params) : BT := insL (top3 (B3 P) P 60) 269 n60
noncomputable def a60 (P : Params) (os : OsState) : SharedT := shr (t60 P) 317 4231 os
noncomputable def b60 (P : Params) (os : OsState) : SharedT := shr (insL (t60 P) 317 [rg 4232, rit 0 8]) 319 4234 os
def n61 : List Obj := n60 ++ [(rg 4232), ri, tup0, (se 319)]
noncomputable def t61 (P : Params) : BT := insL (top3 (B3 P) P 61) 269 n61
noncomputable def a61 (P : Params) (os : OsState) : SharedT := shr (t61 P) 321 4297 os
noncomputable def b61 (P : Params) (os : OsState) : SharedT := shr (insL (t61 P) 321 [rg 4298, rit 0 8]) 323 4300 os
def n62 : List Obj := n61 ++ [(rg 4298), ri, tup0, (se 323)]
noncomputable def t62 (P : Params) : BT := insL (top3 (B3 P) P 62) 269 n62
noncomputable def a62 (P : Params) (os : OsState) : SharedT := shr (t62 P) 325 4365 os
noncomputable def b62 (P : Params) (os : OsState) : SharedT := shr (insL (t62 P) 325 [rg 4366, rit 0 8]) 327 4368 os
def n63 : List Obj := n62 ++ [(rg 4366), ri, tup0, (se 327)]
noncomputable def t63 (P : Params) : BT := insL (top3 (B3 P) P 63) 269 n63
noncomputable def a63 (P : Params) (os : OsState) : SharedT := shr (t63 P) 329 4433 os
noncomputable def b63 (P : Params) (os : OsState) : SharedT := shr (insL (t63 P) 329 [rg 4434, rit 0 8]) 331 4436 os
def n64 : List Obj := []
noncomputable def t64 (P : Params) : BT := B4 P
noncomputable def a64 (P : Params) (os : OsState) : SharedT := shr (t64 P) 333 4503 os
noncomputable def b64 (P : Params) (os : OsState) : SharedT := shr (insL (t64 P) 333 [rg 4504, rit 0 8]) 335 4506 os
def n65 : List Obj := n64 ++ [(rg 4504), ri, tup0, (se 335)]
noncomputable def t65 (P : Params) : BT := insL (top3 (B4 P) P 65) 333 n65
noncomputable def a65 (P : Params) (os : OsState) : SharedT := shr (t65 P) 337 4566 os
noncomputable def b65 (P : Params) (os : OsState) : SharedT := shr (insL (t65 P) 337 [rg 4567, rit 0 8]) 339 4569 os
def n66 : List Obj := n65 ++ [(rg 4567), ri, tup0, (se 339)]
noncomputable def t66 (P : Params) : BT := insL (top3 (B4 P) P 66) 333 n66
noncomputable def a66 (P : Params) (os : OsState) : SharedT := shr (t66 P) 341 4629 os
noncomputable def b66 (P : Params) (os : OsState) : SharedT := shr (insL (t66 P) 341 [rg 4630, rit 0 8]) 343 4632 os
def n67 : List Obj := n66 ++ [(rg 4630), ri, tup0, (se 343)]
noncomputable def t67 (P : Params) : BT := insL (top3 (B4 P) P 67) 333 n67
noncomputable def a67 (P : Params) (os : OsState) : SharedT := shr (t67 P) 345 4694 os
noncomputable def b67 (P : Params) (os : OsState) : SharedT := shr (insL (t67 P) 345 [rg 4695, rit 0 8]) 347 4697 os
def n68 : List Obj := n67 ++ [(rg 4695), ri, tup0, (se 347)]
noncomputable def t68 (P : Params) : BT := insL (top3 (B4 P) P 68) 333 n68
noncomputable def a68 (P : Params) (os : OsState) : SharedT := shr (t68 P) 349 4759 os
noncomputable def b68 (P : Params) (os : OsState) : SharedT := shr (insL (t68 P) 349 [rg 4760, rit 0 8]) 351 4762 os
def n69 : List Obj := n68 ++ [(rg 4760), ri, tup0, (se 351)]
noncomputable def t69 (P : Params) : BT := insL (top3 (B4 P) P 69) 333 n69
noncomputable def a69 (P : Params) (os : OsState) : SharedT := shr (t69 P) 353 4823 os
noncomputable def b69 (P : Params) (os : OsState) : SharedT := shr (insL (t69 P) 353 [rg 4824, rit 0 8]) 355 4826 os
def n70 : List Obj := n69 ++ [(rg 4824), ri, tup0, (se 355)]
noncomputable def t70 (P : Params) : BT := insL (top3 (B4 P) P 70) 333 n70
noncomputable def a70 (P : Params) (os : OsState) : SharedT := shr (t70 P) 357 4887 os
noncomputable def b70 (P : Params) (os : OsState) : SharedT := shr (insL (t70 P) 357 [rg 4888, rit 0 8]) 359 4890 os
def n71 : List Obj := n70 ++ [(rg 4888), ri, tup0, (se 359)]
noncomputable def t71 (P : Params) : BT := insL (top3 (B4 P) P 71) 333 n71
noncomputable def a71 (P : Params) (os : OsState) : SharedT := shr (t71 P) 361 4953 os
noncomputable def b71 (P : Params) (os : OsState) : SharedT := shr (insL (t71 P) 361 [rg 4954, rit 0 8]) 363 4956 os
def n72 : List Obj := n71 ++ [(rg 4954), ri, tup0, (se 363)]
noncomputable def t72 (P : Params) : BT := insL (top3 (B4 P) P 72) 333 n72
noncomputable def a72 (P : Params) (os : OsState) : SharedT := shr (t72 P) 365 5019 os
noncomputable def b72 (P : Params) (os : OsState) : SharedT := shr (insL (t72 P) 365 [rg 5020, rit 0 8]) 367 5022 os
def n73 : List Obj := n72 ++ [(rg 5020), ri, tup0, (se 367)]
noncomputable def t73 (P : Params) : BT := insL (top3 (B4 P) P 73) 333 n73
noncomputable def a73 (P : Params) (os : OsState) : SharedT := shr (t73 P) 369 5083 os
noncomputable def b73 (P : Params) (os : OsState) : SharedT := shr (insL (t73 P) 369 [rg 5084, rit 0 8]) 371 5086 os
def n74 : List Obj := n73 ++ [(rg 5084), ri, tup0, (se 371)]
noncomputable def t74 (P : Params) : BT := insL (top3 (B4 P) P 74) 333 n74
noncomputable def a74 (P : Params) (os : OsState) : SharedT := shr (t74 P) 373 5147 os
noncomputable def b74 (P : Params) (os : OsState) : SharedT := shr (insL (t74 P) 373 [rg 5148, rit 0 8]) 375 5150 os
def n75 : List Obj := n74 ++ [(rg 5148), ri, tup0, (se 375)]
noncomputable def t75 (P : Params) : BT := insL (top3 (B4 P) P 75) 333 n75
noncomputable def a75 (P : Params) (os : OsState) : SharedT := shr (t75 P) 377 5213 os
noncomputable def b75 (P : Params) (os : OsState) : SharedT := shr (insL (t75 P) 377 [rg 5214, rit 0 8]) 379 5216 os
def n76 : List Obj := n75 ++ [(rg 5214), ri, tup0, (se 379)]
noncomputable def t76 (P : Params) : BT := insL (top3 (B4 P) P 76) 333 n76
noncomputable def a76 (P : Params) (os : OsState) : SharedT := shr (t76 P) 381 5279 os
noncomputable def b76 (P : Params) (os : OsState) : SharedT := shr (insL (t76 P) 381 [rg 5280, rit 0 8]) 383 5282 os
def n77 : List Obj := n76 ++ [(rg 5280), ri, tup0, (se 383)]
noncomputable def t77 (P : Params) : BT := insL (top3 (B4 P) P 77) 333 n77
noncomputable def a77 (P : Params) (os : OsState) : SharedT := shr (t77 P) 385 5344 os
noncomputable def b77 (P : Params) (os : OsState) : SharedT := shr (insL (t77 P) 385 [rg 5345, rit 0 8]) 387 5347 os
def n78 : List Obj := n77 ++ [(rg 5345), ri, tup0, (se 387)]
noncomputable def t78 (P : Params) : BT := insL (top3 (B4 P) P 78) 333 n78
noncomputable def a78 (P : Params) (os : OsState) : SharedT := shr (t78 P) 389 5409 os
noncomputable def b78 (P : Params) (os : OsState) : SharedT := shr (insL (t78 P) 389 [rg 5410, rit 0 8]) 391 5412 os
def n79 : List Obj := n78 ++ [(rg 5410), ri, tup0, (se 391)]
noncomputable def t79 (P : Params) : BT := insL (top3 (B4 P) P 79) 333 n79
noncomputable def a79 (P : Params) (os : OsState) : SharedT := shr (t79 P) 393 5476 os
noncomputable def b79 (P : Params) (os : OsState) : SharedT := shr (insL (t79 P) 393 [rg 5477, rit 0 8]) 395 5479 os
def n80 : List Obj := []
noncomputable def t80 (P : Params) : BT := B5 P
noncomputable def a80 (P : Params) (os : OsState) : SharedT := shr (t80 P) 397 5543 os
noncomputable def b80 (P : Params) (os : OsState) : SharedT := shr (insL (t80 P) 397 [rg 5544, rit 0 8]) 399 5546 os
def n81 : List Obj := n80 ++ [(rg 5544), ri, tup0, (se 399)]
noncomputable def t81 (P : Params) : BT := insL (top3 (B5 P) P 81) 397 n81
noncomputable def a81 (P : Params) (os : OsState) : SharedT := shr (t81 P) 401 5607 os
noncomputable def b81 (P : Params) (os : OsState) : SharedT := shr (insL (t81 P) 401 [rg 5608, rit 0 8]) 403 5610 os
def n82 : List Obj := n81 ++ [(rg 5608), ri, tup0, (se 403)]
noncomputable def t82 (P : Params) : BT := insL (top3 (B5 P) P 82) 397 n82
noncomputable def a82 (P : Params) (os : OsState) : SharedT := shr (t82 P) 405 5671 os
noncomputable def b82 (P : Params) (os : OsState) : SharedT := shr (insL (t82 P) 405 [rg 5672, rit 0 8]) 407 5674 os
def n83 : List Obj := n82 ++ [(rg 5672), ri, tup0, (se 407)]
noncomputable def t83 (P : Params) : BT := insL (top3 (B5 P) P 83) 397 n83
noncomputable def a83 (P : Params) (os : OsState) : SharedT := shr (t83 P) 409 5737 os
noncomputable def b83 (P : Params) (os : OsState) : SharedT := shr (insL (t83 P) 409 [rg 5738, rit 0 8]) 411 5740 os
def n84 : List Obj := n83 ++ [(rg 5738), ri, tup0, (se 411)]
noncomputable def t84 (P : Params) : BT := insL (top3 (B5 P) P 84) 397 n84
noncomputable def a84 (P : Params) (os : OsState) : SharedT := shr (t84 P) 413 5803 os
noncomputable def b84 (P : Params) (os : OsState) : SharedT := shr (insL (t84 P) 413 [rg 5804, rit 0 8]) 415 5806 os
def n85 : List Obj := n84 ++ [(rg 5804), ri, tup0, (se 415)]
noncomputable def t85 (P : Params) : BT := insL (top3 (B5 P) P 85) 397 n85
noncomputable def a85 (P : Params) (os : OsState) : SharedT := shr (t85 P) 417 5868 os
noncomputable def b85 (P : Params) (os : OsState) : SharedT := shr (insL (t85 P) 417 [rg 5869, rit 0 8]) 419 5871 os
def n86 : List Obj := n85 ++ [(rg 5869), ri, tup0, (se 419)]
noncomputable def t86 (P : Params) : BT := insL (top3 (B5 P) P 86) 397 n86
noncomputable def a86 (P : Params) (os : OsState) : SharedT := shr (t86 P) 421 5933 os
noncomputable def b86 (P : Params) (os : OsState) : SharedT := shr (insL (t86 P) 421 [rg 5934, rit 0 8]) 423 5936 os
def n87 : List Obj := n86 ++ [(rg 5934), ri, tup0, (se 423)]
noncomputable def t87 (P : Params) : BT := insL (top3 (B5 P) P 87) 397 n87
noncomputable def a87 (P : Params) (os : OsState) : SharedT := shr (t87 P) 425 6000 os
noncomputable def b87 (P : Params) (os : OsState) : SharedT := shr (insL (t87 P) 425 [rg 6001, rit 0 8]) 427 6003 os
def n88 : List Obj := n87 ++ [(rg 6001), ri, tup0, (se 427)]
noncomputable def t88 (P : Params) : BT := insL (top3 (B5 P) P 88) 397 n88
noncomputable def a88 (P : Params) (os : OsState) : SharedT := shr (t88 P) 429 6067 os
noncomputable def b88 (P : Params) (os : OsState) : SharedT := shr (insL (t88 P) 429 [rg 6068, rit 0 8]) 431 6070 os
def n89 : List Obj := n88 ++ [(rg 6068), ri, tup0, (se 431)]
noncomputable def t89 (P : Params) : BT := insL (top3 (B5 P) P 89) 397 n89
noncomputable def a89 (P : Params) (os : OsState) : SharedT := shr (t89 P) 433 6132 os
noncomputable def b89 (P : Params) (os : OsState) : SharedT := shr (insL (t89 P) 433 [rg 6133, rit 0 8]) 435 6135 os
def n90 : List Obj := n89 ++ [(rg 6133), ri, tup0, (se 435)]
noncomputable def t90 (P : Params) : BT := insL (top3 (B5 P) P 90) 397 n90
noncomputable def a90 (P : Params) (os : OsState) : SharedT := shr (t90 P) 437 6197 os
noncomputable def b90 (P : Params) (os : OsState) : SharedT := shr (insL (t90 P) 437 [rg 6198, rit 0 8]) 439 6200 os
def n91 : List Obj := n90 ++ [(rg 6198), ri, tup0, (se 439)]
noncomputable def t91 (P : Params) : BT := insL (top3 (B5 P) P 91) 397 n91
noncomputable def a91 (P : Params) (os : OsState) : SharedT := shr (t91 P) 441 6264 os
noncomputable def b91 (P : Params) (os : OsState) : SharedT := shr (insL (t91 P) 441 [rg 6265, rit 0 8]) 443 6267 os
def n92 : List Obj := n91 ++ [(rg 6265), ri, tup0, (se 443)]
noncomputable def t92 (P : Params) : BT := insL (top3 (B5 P) P 92) 397 n92
noncomputable def a92 (P : Params) (os : OsState) : SharedT := shr (t92 P) 445 6331 os
noncomputable def b92 (P : Params) (os : OsState) : SharedT := shr (insL (t92 P) 445 [rg 6332, rit 0 8]) 447 6334 os
def n93 : List Obj := n92 ++ [(rg 6332), ri, tup0, (se 447)]
noncomputable def t93 (P : Params) : BT := insL (top3 (B5 P) P 93) 397 n93
noncomputable def a93 (P : Params) (os : OsState) : SharedT := shr (t93 P) 449 6397 os
noncomputable def b93 (P : Params) (os : OsState) : SharedT := shr (insL (t93 P) 449 [rg 6398, rit 0 8]) 451 6400 os
def n94 : List Obj := n93 ++ [(rg 6398), ri, tup0, (se 451)]
noncomputable def t94 (P : Params) : BT := insL (top3 (B5 P) P 94) 397 n94
noncomputable def a94 (P : Params) (os : OsState) : SharedT := shr (t94 P) 453 6463 os
noncomputable def b94 (P : Params) (os : OsState) : SharedT := shr (insL (t94 P) 453 [rg 6464, rit 0 8]) 455 6466 os
def n95 : List Obj := n94 ++ [(rg 6464), ri, tup0, (se 455)]
noncomputable def t95 (P : Params) : BT := insL (top3 (B5 P) P 95) 397 n95
noncomputable def a95 (P : Params) (os : OsState) : SharedT := shr (t95 P) 457 6531 os
noncomputable def b95 (P : Params) (os : OsState) : SharedT := shr (insL (t95 P) 457 [rg 6532, rit 0 8]) 459 6534 os
def n96 : List Obj := []
noncomputable def t96 (P : Params) : BT := B6 P
noncomputable def a96 (P : Params) (os : OsState) : SharedT := shr (t96 P) 461 6599 os
noncomputable def b96 (P : Params) (os : OsState) : SharedT := shr (insL (t96 P) 461 [rg 6600, rit 0 8]) 463 6602 os
def n97 : List Obj := n96 ++ [(rg 6600), ri, tup0, (se 463)]
noncomputable def t97 (P : Params) : BT := insL (top3 (B6 P) P 97) 461 n97
noncomputable def a97 (P : Params) (os : OsState) : SharedT := shr (t97 P) 465 6663 os
noncomputable def b97 (P : Params) (os : OsState) : SharedT := shr (insL (t97 P) 465 [rg 6664, rit 0 8]) 467 6666 os
def n98 : List Obj := n97 ++ [(rg 6664), ri, tup0, (se 467)]
noncomputable def t98 (P : Params) : BT := insL (top3 (B6 P) P 98) 461 n98
noncomputable def a98 (P : Params) (os : OsState) : SharedT := shr (t98 P) 469 6727 os
noncomputable def b98 (P : Params) (os : OsState) : SharedT := shr (insL (t98 P) 469 [rg 6728, rit 0 8]) 471 6730 os
def n99 : List Obj := n98 ++ [(rg 6728), ri, tup0, (se 471)]
noncomputable def t99 (P : Params) : BT := insL (top3 (B6 P) P 99) 461 n99
noncomputable def a99 (P : Params) (os : OsState) : SharedT := shr (t99 P) 473 6793 os
noncomputable def b99 (P : Params) (os : OsState) : SharedT := shr (insL (t99 P) 473 [rg 6794, rit 0 8]) 475 6796 os
def n100 : List Obj := n99 ++ [(rg 6794), ri, tup0, (se 475)]
noncomputable def t100 (P : Params) : BT := insL (top3 (B6 P) P 100) 461 n100
noncomputable def a100 (P : Params) (os : OsState) : SharedT := shr (t100 P) 477 6859 os
noncomputable def b100 (P : Params) (os : OsState) : SharedT := shr (insL (t100 P) 477 [rg 6860, rit 0 8]) 479 6862 os
def n101 : List Obj := n100 ++ [(rg 6860), ri, tup0, (se 479)]
noncomputable def t101 (P : Params) : BT := insL (top3 (B6 P) P 101) 461 n101
noncomputable def a101 (P : Params) (os : OsState) : SharedT := shr (t101 P) 481 6924 os
noncomputable def b101 (P : Params) (os : OsState) : SharedT := shr (insL (t101 P) 481 [rg 6925, rit 0 8]) 483 6927 os
def n102 : List Obj := n101 ++ [(rg 6925), ri, tup0, (se 483)]
noncomputable def t102 (P : Params) : BT := insL (top3 (B6 P) P 102) 461 n102
noncomputable def a102 (P : Params) (os : OsState) : SharedT := shr (t102 P) 485 6989 os
noncomputable def b102 (P : Params) (os : OsState) : SharedT := shr (insL (t102 P) 485 [rg 6990, rit 0 8]) 487 6992 os
def n103 : List Obj := n102 ++ [(rg 6990), ri, tup0, (se 487)]
noncomputable def t103 (P : Params) : BT := insL (top3 (B6 P) P 103) 461 n103
noncomputable def a103 (P : Params) (os : OsState) : SharedT := shr (t103 P) 489 7056 os
noncomputable def b103 (P : Params) (os : OsState) : SharedT := shr (insL (t103 P) 489 [rg 7057, rit 0 8]) 491 7059 os
def n104 : List Obj := n103 ++ [(rg 7057), ri, tup0, (se 491)]
noncomputable def t104 (P : Params) : BT := insL (top3 (B6 P) P 104) 461 n104
noncomputable def a104 (P : Params) (os : OsState) : SharedT := shr (t104 P) 493 7123 os
noncomputable def b104 (P : Params) (os : OsState) : SharedT := shr (insL (t104 P) 493 [rg 7124, rit 0 8]) 495 7126 os
def n105 : List Obj := n104 ++ [(rg 7124), ri, tup0, (se 495)]
noncomputable def t105 (P : Params) : BT := insL (top3 (B6 P) P 105) 461 n105
noncomputable def a105 (P : Params) (os : OsState) : SharedT := shr (t105 P) 497 7188 os
noncomputable def b105 (P : Params) (os : OsState) : SharedT := shr (insL (t105 P) 497 [rg 7189, rit 0 8]) 499 7191 os
def n106 : List Obj := n105 ++ [(rg 7189), ri, tup0, (se 499)]
noncomputable def t106 (P : Params) : BT := insL (top3 (B6 P) P 106) 461 n106
noncomputable def a106 (P : Params) (os : OsState) : SharedT := shr (t106 P) 501 7253 os
noncomputable def b106 (P : Params) (os : OsState) : SharedT := shr (insL (t106 P) 501 [rg 7254, rit 0 8]) 503 7256 os
def n107 : List Obj := n106 ++ [(rg 7254), ri, tup0, (se 503)]
noncomputable def t107 (P : Params) : BT := insL (top3 (B6 P) P 107) 461 n107
noncomputable def a107 (P : Params) (os : OsState) : SharedT := shr (t107 P) 505 7320 os
noncomputable def b107 (P : Params) (os : OsState) : SharedT := shr (insL (t107 P) 505 [rg 7321, rit 0 8]) 507 7323 os
def n108 : List Obj := n107 ++ [(rg 7321), ri, tup0, (se 507)]
noncomputable def t108 (P : Params) : BT := insL (top3 (B6 P) P 108) 461 n108
noncomputable def a108 (P : Params) (os : OsState) : SharedT := shr (t108 P) 509 7387 os
noncomputable def b108 (P : Params) (os : OsState) : SharedT := shr (insL (t108 P) 509 [rg 7388, rit 0 8]) 511 7390 os
def n109 : List Obj := n108 ++ [(rg 7388), ri, tup0, (se 511)]
noncomputable def t109 (P : Params) : BT := insL (top3 (B6 P) P 109) 461 n109
noncomputable def a109 (P : Params) (os : OsState) : SharedT := shr (t109 P) 513 7453 os
noncomputable def b109 (P : Params) (os : OsState) : SharedT := shr (insL (t109 P) 513 [rg 7454, rit 0 8]) 515 7456 os
def n110 : List Obj := n109 ++ [(rg 7454), ri, tup0, (se 515)]
noncomputable def t110 (P : Params) : BT := insL (top3 (B6 P) P 110) 461 n110
noncomputable def a110 (P : Params) (os : OsState) : SharedT := shr (t110 P) 517 7519 os
noncomputable def b110 (P : Params) (os : OsState) : SharedT := shr (insL (t110 P) 517 [rg 7520, rit 0 8]) 519 7522 os
def n111 : List Obj := n110 ++ [(rg 7520), ri, tup0, (se 519)]
noncomputable def t111 (P : Params) : BT := insL (top3 (B6 P) P 111) 461 n111
noncomputable def a111 (P : Params) (os : OsState) : SharedT := shr (t111 P) 521 7587 os
noncomputable def b111 (P : Params) (os : OsState) : SharedT := shr (insL (t111 P) 521 [rg 7588, rit 0 8]) 523 7590 os
def n112 : List Obj := []
noncomputable def t112 (P : Params) : BT := B7 P
noncomputable def a112 (P : Params) (os : OsState) : SharedT := shr (t112 P) 525 7655 os
noncomputable def b112 (P : Params) (os : OsState) : SharedT := shr (insL (t112 P) 525 [rg 7656, rit 0 8]) 527 7658 os
def n113 : List Obj := n112 ++ [(rg 7656), ri, tup0, (se 527)]
noncomputable def t113 (P : Params) : BT := insL (top3 (B7 P) P 113) 525 n113
noncomputable def a113 (P : Params) (os : OsState) : SharedT := shr (t113 P) 529 7720 os
noncomputable def b113 (P : Params) (os : OsState) : SharedT := shr (insL (t113 P) 529 [rg 7721, rit 0 8]) 531 7723 os
def n114 : List Obj := n113 ++ [(rg 7721), ri, tup0, (se 531)]
noncomputable def t114 (P : Params) : BT := insL (top3 (B7 P) P 114) 525 n114
noncomputable def a114 (P : Params) (os : OsState) : SharedT := shr (t114 P) 533 7785 os
noncomputable def b114 (P : Params) (os : OsState) : SharedT := shr (insL (t114 P) 533 [rg 7786, rit 0 8]) 535 7788 os
def n115 : List Obj := n114 ++ [(rg 7786), ri, tup0, (se 535)]
noncomputable def t115 (P : Params) : BT := insL (top3 (B7 P) P 115) 525 n115
noncomputable def a115 (P : Params) (os : OsState) : SharedT := shr (t115 P) 537 7852 os
noncomputable def b115 (P : Params) (os : OsState) : SharedT := shr (insL (t115 P) 537 [rg 7853, rit 0 8]) 539 7855 os
def n116 : List Obj := n115 ++ [(rg 7853), ri, tup0, (se 539)]
noncomputable def t116 (P : Params) : BT := insL (top3 (B7 P) P 116) 525 n116
noncomputable def a116 (P : Params) (os : OsState) : SharedT := shr (t116 P) 541 7919 os
noncomputable def b116 (P : Params) (os : OsState) : SharedT := shr (insL (t116 P) 541 [rg 7920, rit 0 8]) 543 7922 os
def n117 : List Obj := n116 ++ [(rg 7920), ri, tup0, (se 543)]
noncomputable def t117 (P : Params) : BT := insL (top3 (B7 P) P 117) 525 n117
noncomputable def a117 (P : Params) (os : OsState) : SharedT := shr (t117 P) 545 7985 os
noncomputable def b117 (P : Params) (os : OsState) : SharedT := shr (insL (t117 P) 545 [rg 7986, rit 0 8]) 547 7988 os
def n118 : List Obj := n117 ++ [(rg 7986), ri, tup0, (se 547)]
noncomputable def t118 (P : Params) : BT := insL (top3 (B7 P) P 118) 525 n118
noncomputable def a118 (P : Params) (os : OsState) : SharedT := shr (t118 P) 549 8051 os
noncomputable def b118 (P : Params) (os : OsState) : SharedT := shr (insL (t118 P) 549 [rg 8052, rit 0 8]) 551 8054 os
def n119 : List Obj := n118 ++ [(rg 8052), ri, tup0, (se 551)]
noncomputable def t119 (P : Params) : BT := insL (top3 (B7 P) P 119) 525 n119
noncomputable def a119 (P : Params) (os : OsState) : SharedT := shr (t119 P) 553 8119 os
noncomputable def b119 (P : Params) (os : OsState) : SharedT := shr (insL (t119 P) 553 [rg 8120, rit 0 8]) 555 8122 os
def n120 : List Obj := n119 ++ [(rg 8120), ri, tup0, (se 555)]
noncomputable def t120 (P : Params) : BT := insL (top3 (B7 P) P 120) 525 n120
noncomputable def a120 (P : Params) (os : OsState) : SharedT := shr (t120 P) 557 8187 os
noncomputable def b120 (P : Params) (os : OsState) : SharedT := shr (insL (t120 P) 557 [rg 8188, rit 0 8]) 559 8190 os
def n121 : List Obj := n120 ++ [(rg 8188), ri, tup0, (se 559)]
noncomputable def t121 (P : Params) : BT := insL (top3 (B7 P) P 121) 525 n121
noncomputable def a121 (P : Params) (os : OsState) : SharedT := shr (t121 P) 561 8253 os
noncomputable def b121 (P : Params) (os : OsState) : SharedT := shr (insL (t121 P) 561 [rg 8254, rit 0 8]) 563 8256 os
def n122 : List Obj := n121 ++ [(rg 8254), ri, tup0, (se 563)]
noncomputable def t122 (P : Params) : BT := insL (top3 (B7 P) P 122) 525 n122
noncomputable def a122 (P : Params) (os : OsState) : SharedT := shr (t122 P) 565 8319 os
noncomputable def b122 (P : Params) (os : OsState) : SharedT := shr (insL (t122 P) 565 [rg 8320, rit 0 8]) 567 8322 os
def n123 : List Obj := n122 ++ [(rg 8320), ri, tup0, (se 567)]
noncomputable def t123 (P : Params) : BT := insL (top3 (B7 P) P 123) 525 n123
noncomputable def a123 (P : Params) (os : OsState) : SharedT := shr (t123 P) 569 8387 os
noncomputable def b123 (P : Params) (os : OsState) : SharedT := shr (insL (t123 P) 569 [rg 8388, rit 0 8]) 571 8390 os
def n124 : List Obj := n123 ++ [(rg 8388), ri, tup0, (se 571)]
noncomputable def t124 (P : Params) : BT := insL (top3 (B7 P) P 124) 525 n124
noncomputable def a124 (P : Params) (os : OsState) : SharedT := shr (t124 P) 573 8455 os
noncomputable def b124 (P : Params) (os : OsState) : SharedT := shr (insL (t124 P) 573 [rg 8456, rit 0 8]) 575 8458 os
def n125 : List Obj := n124 ++ [(rg 8456), ri, tup0, (se 575)]
noncomputable def t125 (P : Params) : BT := insL (top3 (B7 P) P 125) 525 n125
noncomputable def a125 (P : Params) (os : OsState) : SharedT := shr (t125 P) 577 8522 os
noncomputable def b125 (P : Params) (os : OsState) : SharedT := shr (insL (t125 P) 577 [rg 8523, rit 0 8]) 579 8525 os
def n126 : List Obj := n125 ++ [(rg 8523), ri, tup0, (se 579)]
noncomputable def t126 (P : Params) : BT := insL (top3 (B7 P) P 126) 525 n126
noncomputable def a126 (P : Params) (os : OsState) : SharedT := shr (t126 P) 581 8589 os
noncomputable def b126 (P : Params) (os : OsState) : SharedT := shr (insL (t126 P) 581 [rg 8590, rit 0 8]) 583 8592 os
def n127 : List Obj := n126 ++ [(rg 8590), ri, tup0, (se 583)]
noncomputable def t127 (P : Params) : BT := insL (top3 (B7 P) P 127) 525 n127
noncomputable def a127 (P : Params) (os : OsState) : SharedT := shr (t127 P) 585 8658 os
noncomputable def b127 (P : Params) (os : OsState) : SharedT := shr (insL (t127 P) 585 [rg 8659, rit 0 8]) 587 8661 os
def n128 : List Obj := []
noncomputable def t128 (P : Params) : BT := B8 P
noncomputable def a128 (P : Params) (os : OsState) : SharedT := shr (t128 P) 589 8727 os
noncomputable def b128 (P : Params) (os : OsState) : SharedT := shr (insL (t128 P) 589 [rg 8728, rit 0 8]) 591 8730 os
def n129 : List Obj := n128 ++ [(rg 8728), ri, tup0, (se 591)]
noncomputable def t129 (P : Params) : BT := insL (top3 (B8 P) P 129) 589 n129
noncomputable def a129 (P : Params) (os : OsState) : SharedT := shr (t129 P) 593 8790 os
noncomputable def b129 (P : Params) (os : OsState) : SharedT := shr (insL (t129 P) 593 [rg 8791, rit 0 8]) 595 8793 os
def n130 : List Obj := n129 ++ [(rg 8791), ri, tup0, (se 595)]
noncomputable def t130 (P : Params) : BT := insL (top3 (B8 P) P 130) 589 n130
noncomputable def a130 (P : Params) (os : OsState) : SharedT := shr (t130 P) 597 8855 os
noncomputable def b130 (P : Params) (os : OsState) : SharedT := shr (insL (t130 P) 597 [rg 8856, rit 0 8]) 599 8858 os
def n131 : List Obj := n130 ++ [(rg 8856), ri, tup0, (se 599)]
noncomputable def t131 (P : Params) : BT := insL (top3 (B8 P) P 131) 589 n131
noncomputable def a131 (P : Params) (os : OsState) : SharedT := shr (t131 P) 601 8918 os
noncomputable def b131 (P : Params) (os : OsState) : SharedT := shr (insL (t131 P) 601 [rg 8919, rit 0 8]) 603 8921 os
def n132 : List Obj := n131 ++ [(rg 8919), ri, tup0, (se 603)]
noncomputable def t132 (P : Params) : BT := insL (top3 (B8 P) P 132) 589 n132
noncomputable def a132 (P : Params) (os : OsState) : SharedT := shr (t132 P) 605 8983 os
noncomputable def b132 (P : Params) (os : OsState) : SharedT := shr (insL (t132 P) 605 [rg 8984, rit 0 8]) 607 8986 os
def n133 : List Obj := n132 ++ [(rg 8984), ri, tup0, (se 607)]
noncomputable def t133 (P : Params) : BT := insL (top3 (B8 P) P 133) 589 n133
noncomputable def a133 (P : Params) (os : OsState) : SharedT := shr (t133 P) 609 9047 os
noncomputable def b133 (P : Params) (os : OsState) : SharedT := shr (insL (t133 P) 609 [rg 9048, rit 0 8]) 611 9050 os
def n134 : List Obj := n133 ++ [(rg 9048), ri, tup0, (se 611)]
noncomputable def t134 (P : Params) : BT := insL (top3 (B8 P) P 134) 589 n134
noncomputable def a134 (P : Params) (os : OsState) : SharedT := shr (t134 P) 613 9113 os
noncomputable def b134 (P : Params) (os : OsState) : SharedT := shr (insL (t134 P) 613 [rg 9114, rit 0 8]) 615 9116 os
def n135 : List Obj := n134 ++ [(rg 9114), ri, tup0, (se 615)]
noncomputable def t135 (P : Params) : BT := insL (top3 (B8 P) P 135) 589 n135
noncomputable def a135 (P : Params) (os : OsState) : SharedT := shr (t135 P) 617 9177 os
noncomputable def b135 (P : Params) (os : OsState) : SharedT := shr (insL (t135 P) 617 [rg 9178, rit 0 8]) 619 9180 os
def n136 : List Obj := n135 ++ [(rg 9178), ri, tup0, (se 619)]
noncomputable def t136 (P : Params) : BT := insL (top3 (B8 P) P 136) 589 n136
noncomputable def a136 (P : Params) (os : OsState) : SharedT := shr (t136 P) 621 9243 os
noncomputable def b136 (P : Params) (os : OsState) : SharedT := shr (insL (t136 P) 621 [rg 9244, rit 0 8]) 623 9246 os
def n137 : List Obj := n136 ++ [(rg 9244), ri, tup0, (se 623)]
noncomputable def t137 (P : Params) : BT := insL (top3 (B8 P) P 137) 589 n137
noncomputable def a137 (P : Params) (os : OsState) : SharedT := shr (t137 P) 625 9307 os
noncomputable def b137 (P : Params) (os : OsState) : SharedT := shr (insL (t137 P) 625 [rg 9308, rit 0 8]) 627 9310 os
def n138 : List Obj := n137 ++ [(rg 9308), ri, tup0, (se 627)]
noncomputable def t138 (P : Params) : BT := insL (top3 (B8 P) P 138) 589 n138
noncomputable def a138 (P : Params) (os : OsState) : SharedT := shr (t138 P) 629 9373 os
noncomputable def b138 (P : Params) (os : OsState) : SharedT := shr (insL (t138 P) 629 [rg 9374, rit 0 8]) 631 9376 os
def n139 : List Obj := n138 ++ [(rg 9374), ri, tup0, (se 631)]
noncomputable def t139 (P : Params) : BT := insL (top3 (B8 P) P 139) 589 n139
noncomputable def a139 (P : Params) (os : OsState) : SharedT := shr (t139 P) 633 9437 os
noncomputable def b139 (P : Params) (os : OsState) : SharedT := shr (insL (t139 P) 633 [rg 9438, rit 0 8]) 635 9440 os
def n140 : List Obj := n139 ++ [(rg 9438), ri, tup0, (se 635)]
noncomputable def t140 (P : Params) : BT := insL (top3 (B8 P) P 140) 589 n140
noncomputable def a140 (P : Params) (os : OsState) : SharedT := shr (t140 P) 637 9503 os
noncomputable def b140 (P : Params) (os : OsState) : SharedT := shr (insL (t140 P) 637 [rg 9504, rit 0 8]) 639 9506 os
def n141 : List Obj := n140 ++ [(rg 9504), ri, tup0, (se 639)]
noncomputable def t141 (P : Params) : BT := insL (top3 (B8 P) P 141) 589 n141
noncomputable def a141 (P : Params) (os : OsState) : SharedT := shr (t141 P) 641 9568 os
noncomputable def b141 (P : Params) (os : OsState) : SharedT := shr (insL (t141 P) 641 [rg 9569, rit 0 8]) 643 9571 os
def n142 : List Obj := n141 ++ [(rg 9569), ri, tup0, (se 643)]
noncomputable def t142 (P : Params) : BT := insL (top3 (B8 P) P 142) 589 n142
noncomputable def a142 (P : Params) (os : OsState) : SharedT := shr (t142 P) 645 9635 os
noncomputable def b142 (P : Params) (os : OsState) : SharedT := shr (insL (t142 P) 645 [rg 9636, rit 0 8]) 647 9638 os
def n143 : List Obj := n142 ++ [(rg 9636), ri, tup0, (se 647)]
noncomputable def t143 (P : Params) : BT := insL (top3 (B8 P) P 143) 589 n143
noncomputable def a143 (P : Params) (os : OsState) : SharedT := shr (t143 P) 649 9700 os
noncomputable def b143 (P : Params) (os : OsState) : SharedT := shr (insL (t143 P) 649 [rg 9701, rit 0 8]) 651 9703 os
def n144 : List Obj := []
noncomputable def t144 (P : Params) : BT := B9 P
noncomputable def a144 (P : Params) (os : OsState) : SharedT := shr (t144 P) 653 9767 os
noncomputable def b144 (P : Params) (os : OsState) : SharedT := shr (insL (t144 P) 653 [rg 9768, rit 0 8]) 655 9770 os
def n145 : List Obj := n144 ++ [(rg 9768), ri, tup0, (se 655)]
noncomputable def t145 (P : Params) : BT := insL (top3 (B9 P) P 145) 653 n145
noncomputable def a145 (P : Params) (os : OsState) : SharedT := shr (t145 P) 657 9831 os
noncomputable def b145 (P : Params) (os : OsState) : SharedT := shr (insL (t145 P) 657 [rg 9832, rit 0 8]) 659 9834 os
def n146 : List Obj := n145 ++ [(rg 9832), ri, tup0, (se 659)]
noncomputable def t146 (P : Params) : BT := insL (top3 (B9 P) P 146) 653 n146
noncomputable def a146 (P : Params) (os : OsState) : SharedT := shr (t146 P) 661 9897 os
noncomputable def b146 (P : Params) (os : OsState) : SharedT := shr (insL (t146 P) 661 [rg 9898, rit 0 8]) 663 9900 os
def n147 : List Obj := n146 ++ [(rg 9898), ri, tup0, (se 663)]
noncomputable def t147 (P : Params) : BT := insL (top3 (B9 P) P 147) 653 n147
noncomputable def a147 (P : Params) (os : OsState) : SharedT := shr (t147 P) 665 9961 os
noncomputable def b147 (P : Params) (os : OsState) : SharedT := shr (insL (t147 P) 665 [rg 9962, rit 0 8]) 667 9964 os
def n148 : List Obj := n147 ++ [(rg 9962), ri, tup0, (se 667)]
noncomputable def t148 (P : Params) : BT := insL (top3 (B9 P) P 148) 653 n148
noncomputable def a148 (P : Params) (os : OsState) : SharedT := shr (t148 P) 669 10027 os
noncomputable def b148 (P : Params) (os : OsState) : SharedT := shr (insL (t148 P) 669 [rg 10028, rit 0 8]) 671 10030 os
def n149 : List Obj := n148 ++ [(rg 10028), ri, tup0, (se 671)]
noncomputable def t149 (P : Params) : BT := insL (top3 (B9 P) P 149) 653 n149
noncomputable def a149 (P : Params) (os : OsState) : SharedT := shr (t149 P) 673 10092 os
noncomputable def b149 (P : Params) (os : OsState) : SharedT := shr (insL (t149 P) 673 [rg 10093, rit 0 8]) 675 10095 os
def n150 : List Obj := n149 ++ [(rg 10093), ri, tup0, (se 675)]
noncomputable def t150 (P : Params) : BT := insL (top3 (B9 P) P 150) 653 n150
noncomputable def a150 (P : Params) (os : OsState) : SharedT := shr (t150 P) 677 10159 os
noncomputable def b150 (P : Params) (os : OsState) : SharedT := shr (insL (t150 P) 677 [rg 10160, rit 0 8]) 679 10162 os
def n151 : List Obj := n150 ++ [(rg 10160), ri, tup0, (se 679)]
noncomputable def t151 (P : Params) : BT := insL (top3 (B9 P) P 151) 653 n151
noncomputable def a151 (P : Params) (os : OsState) : SharedT := shr (t151 P) 681 10224 os
noncomputable def b151 (P : Params) (os : OsState) : SharedT := shr (insL (t151 P) 681 [rg 10225, rit 0 8]) 683 10227 os
def n152 : List Obj := n151 ++ [(rg 10225), ri, tup0, (se 683)]
noncomputable def t152 (P : Params) : BT := insL (top3 (B9 P) P 152) 653 n152
noncomputable def a152 (P : Params) (os : OsState) : SharedT := shr (t152 P) 685 10291 os
noncomputable def b152 (P : Params) (os : OsState) : SharedT := shr (insL (t152 P) 685 [rg 10292, rit 0 8]) 687 10294 os
def n153 : List Obj := n152 ++ [(rg 10292), ri, tup0, (se 687)]
noncomputable def t153 (P : Params) : BT := insL (top3 (B9 P) P 153) 653 n153
noncomputable def a153 (P : Params) (os : OsState) : SharedT := shr (t153 P) 689 10356 os
noncomputable def b153 (P : Params) (os : OsState) : SharedT := shr (insL (t153 P) 689 [rg 10357, rit 0 8]) 691 10359 os
def n154 : List Obj := n153 ++ [(rg 10357), ri, tup0, (se 691)]
noncomputable def t154 (P : Params) : BT := insL (top3 (B9 P) P 154) 653 n154
noncomputable def a154 (P : Params) (os : OsState) : SharedT := shr (t154 P) 693 10423 os
noncomputable def b154 (P : Params) (os : OsState) : SharedT := shr (insL (t154 P) 693 [rg 10424, rit 0 8]) 695 10426 os
def n155 : List Obj := n154 ++ [(rg 10424), ri, tup0, (se 695)]
noncomputable def t155 (P : Params) : BT := insL (top3 (B9 P) P 155) 653 n155
noncomputable def a155 (P : Params) (os : OsState) : SharedT := shr (t155 P) 697 10488 os
noncomputable def b155 (P : Params) (os : OsState) : SharedT := shr (insL (t155 P) 697 [rg 10489, rit 0 8]) 699 10491 os
def n156 : List Obj := n155 ++ [(rg 10489), ri, tup0, (se 699)]
noncomputable def t156 (P : Params) : BT := insL (top3 (B9 P) P 156) 653 n156
noncomputable def a156 (P : Params) (os : OsState) : SharedT := shr (t156 P) 701 10555 os
noncomputable def b156 (P : Params) (os : OsState) : SharedT := shr (insL (t156 P) 701 [rg 10556, rit 0 8]) 703 10558 os
def n157 : List Obj := n156 ++ [(rg 10556), ri, tup0, (se 703)]
noncomputable def t157 (P : Params) : BT := insL (top3 (B9 P) P 157) 653 n157
noncomputable def a157 (P : Params) (os : OsState) : SharedT := shr (t157 P) 705 10621 os
noncomputable def b157 (P : Params) (os : OsState) : SharedT := shr (insL (t157 P) 705 [rg 10622, rit 0 8]) 707 10624 os
def n158 : List Obj := n157 ++ [(rg 10622), ri, tup0, (se 707)]
noncomputable def t158 (P : Params) : BT := insL (top3 (B9 P) P 158) 653 n158
noncomputable def a158 (P : Params) (os : OsState) : SharedT := shr (t158 P) 709 10689 os
noncomputable def b158 (P : Params) (os : OsState) : SharedT := shr (insL (t158 P) 709 [rg 10690, rit 0 8]) 711 10692 os
def n159 : List Obj := n158 ++ [(rg 10690), ri, tup0, (se 711)]
noncomputable def t159 (P : Params) : BT := insL (top3 (B9 P) P 159) 653 n159
noncomputable def a159 (P : Params) (os : OsState) : SharedT := shr (t159 P) 713 10755 os
noncomputable def b159 (P : Params) (os : OsState) : SharedT := shr (insL (t159 P) 713 [rg 10756, rit 0 8]) 715 10758 os
def n160 : List Obj := []
noncomputable def t160 (P : Params) : BT := B10 P
noncomputable def a160 (P : Params) (os : OsState) : SharedT := shr (t160 P) 717 10823 os
noncomputable def b160 (P : Params) (os : OsState) : SharedT := shr (insL (t160 P) 717 [rg 10824, rit 0 8]) 719 10826 os
def n161 : List Obj := n160 ++ [(rg 10824), ri, tup0, (se 719)]
noncomputable def t161 (P : Params) : BT := insL (top3 (B10 P) P 161) 717 n161
noncomputable def a161 (P : Params) (os : OsState) : SharedT := shr (t161 P) 721 10887 os
noncomputable def b161 (P : Params) (os : OsState) : SharedT := shr (insL (t161 P) 721 [rg 10888, rit 0 8]) 723 10890 os
def n162 : List Obj := n161 ++ [(rg 10888), ri, tup0, (se 723)]
noncomputable def t162 (P : Params) : BT := insL (top3 (B10 P) P 162) 717 n162
noncomputable def a162 (P : Params) (os : OsState) : SharedT := shr (t162 P) 725 10953 os
noncomputable def b162 (P : Params) (os : OsState) : SharedT := shr (insL (t162 P) 725 [rg 10954, rit 0 8]) 727 10956 os
def n163 : List Obj := n162 ++ [(rg 10954), ri, tup0, (se 727)]
noncomputable def t163 (P : Params) : BT := insL (top3 (B10 P) P 163) 717 n163
noncomputable def a163 (P : Params) (os : OsState) : SharedT := shr (t163 P) 729 11017 os
noncomputable def b163 (P : Params) (os : OsState) : SharedT := shr (insL (t163 P) 729 [rg 11018, rit 0 8]) 731 11020 os
def n164 : List Obj := n163 ++ [(rg 11018), ri, tup0, (se 731)]
noncomputable def t164 (P : Params) : BT := insL (top3 (B10 P) P 164) 717 n164
noncomputable def a164 (P : Params) (os : OsState) : SharedT := shr (t164 P) 733 11083 os
noncomputable def b164 (P : Params) (os : OsState) : SharedT := shr (insL (t164 P) 733 [rg 11084, rit 0 8]) 735 11086 os
def n165 : List Obj := n164 ++ [(rg 11084), ri, tup0, (se 735)]
noncomputable def t165 (P : Params) : BT := insL (top3 (B10 P) P 165) 717 n165
noncomputable def a165 (P : Params) (os : OsState) : SharedT := shr (t165 P) 737 11148 os
noncomputable def b165 (P : Params) (os : OsState) : SharedT := shr (insL (t165 P) 737 [rg 11149, rit 0 8]) 739 11151 os
def n166 : List Obj := n165 ++ [(rg 11149), ri, tup0, (se 739)]
noncomputable def t166 (P : Params) : BT := insL (top3 (B10 P) P 166) 717 n166
noncomputable def a166 (P : Params) (os : OsState) : SharedT := shr (t166 P) 741 11215 os
noncomputable def b166 (P : Params) (os : OsState) : SharedT := shr (insL (t166 P) 741 [rg 11216, rit 0 8]) 743 11218 os
def n167 : List Obj := n166 ++ [(rg 11216), ri, tup0, (se 743)]
noncomputable def t167 (P : Params) : BT := insL (top3 (B10 P) P 167) 717 n167
noncomputable def a167 (P : Params) (os : OsState) : SharedT := shr (t167 P) 745 11280 os
noncomputable def b167 (P : Params) (os : OsState) : SharedT := shr (insL (t167 P) 745 [rg 11281, rit 0 8]) 747 11283 os
def n168 : List Obj := n167 ++ [(rg 11281), ri, tup0, (se 747)]
noncomputable def t168 (P : Params) : BT := insL (top3 (B10 P) P 168) 717 n168
noncomputable def a168 (P : Params) (os : OsState) : SharedT := shr (t168 P) 749 11347 os
noncomputable def b168 (P : Params) (os : OsState) : SharedT := shr (insL (t168 P) 749 [rg 11348, rit 0 8]) 751 11350 os
def n169 : List Obj := n168 ++ [(rg 11348), ri, tup0, (se 751)]
noncomputable def t169 (P : Params) : BT := insL (top3 (B10 P) P 169) 717 n169
noncomputable def a169 (P : Params) (os : OsState) : SharedT := shr (t169 P) 753 11412 os
noncomputable def b169 (P : Params) (os : OsState) : SharedT := shr (insL (t169 P) 753 [rg 11413, rit 0 8]) 755 11415 os
def n170 : List Obj := n169 ++ [(rg 11413), ri, tup0, (se 755)]
noncomputable def t170 (P : Params) : BT := insL (top3 (B10 P) P 170) 717 n170
noncomputable def a170 (P : Params) (os : OsState) : SharedT := shr (t170 P) 757 11479 os
noncomputable def b170 (P : Params) (os : OsState) : SharedT := shr (insL (t170 P) 757 [rg 11480, rit 0 8]) 759 11482 os
def n171 : List Obj := n170 ++ [(rg 11480), ri, tup0, (se 759)]
noncomputable def t171 (P : Params) : BT := insL (top3 (B10 P) P 171) 717 n171
noncomputable def a171 (P : Params) (os : OsState) : SharedT := shr (t171 P) 761 11544 os
noncomputable def b171 (P : Params) (os : OsState) : SharedT := shr (insL (t171 P) 761 [rg 11545, rit 0 8]) 763 11547 os
def n172 : List Obj := n171 ++ [(rg 11545), ri, tup0, (se 763)]
noncomputable def t172 (P : Params) : BT := insL (top3 (B10 P) P 172) 717 n172
noncomputable def a172 (P : Params) (os : OsState) : SharedT := shr (t172 P) 765 11611 os
noncomputable def b172 (P : Params) (os : OsState) : SharedT := shr (insL (t172 P) 765 [rg 11612, rit 0 8]) 767 11614 os
def n173 : List Obj := n172 ++ [(rg 11612), ri, tup0, (se 767)]
noncomputable def t173 (P : Params) : BT := insL (top3 (B10 P) P 173) 717 n173
noncomputable def a173 (P : Params) (os : OsState) : SharedT := shr (t173 P) 769 11677 os
noncomputable def b173 (P : Params) (os : OsState) : SharedT := shr (insL (t173 P) 769 [rg 11678, rit 0 8]) 771 11680 os
def n174 : List Obj := n173 ++ [(rg 11678), ri, tup0, (se 771)]
noncomputable def t174 (P : Params) : BT := insL (top3 (B10 P) P 174) 717 n174
noncomputable def a174 (P : Params) (os : OsState) : SharedT := shr (t174 P) 773 11745 os
noncomputable def b174 (P : Params) (os : OsState) : SharedT := shr (insL (t174 P) 773 [rg 11746, rit 0 8]) 775 11748 os
def n175 : List Obj := n174 ++ [(rg 11746), ri, tup0, (se 775)]
noncomputable def t175 (P : Params) : BT := insL (top3 (B10 P) P 175) 717 n175
noncomputable def a175 (P : Params) (os : OsState) : SharedT := shr (t175 P) 777 11811 os
noncomputable def b175 (P : Params) (os : OsState) : SharedT := shr (insL (t175 P) 777 [rg 11812, rit 0 8]) 779 11814 os
def n176 : List Obj := []
noncomputable def t176 (P : Params) : BT := B11 P
noncomputable def a176 (P : Params) (os : OsState) : SharedT := shr (t176 P) 781 11879 os
noncomputable def b176 (P : Params) (os : OsState) : SharedT := shr (insL (t176 P) 781 [rg 11880, rit 0 8]) 783 11882 os
def n177 : List Obj := n176 ++ [(rg 11880), ri, tup0, (se 783)]
noncomputable def t177 (P : Params) : BT := insL (top3 (B11 P) P 177) 781 n177
noncomputable def a177 (P : Params) (os : OsState) : SharedT := shr (t177 P) 785 11944 os
noncomputable def b177 (P : Params) (os : OsState) : SharedT := shr (insL (t177 P) 785 [rg 11945, rit 0 8]) 787 11947 os
def n178 : List Obj := n177 ++ [(rg 11945), ri, tup0, (se 787)]
noncomputable def t178 (P : Params) : BT := insL (top3 (B11 P) P 178) 781 n178
noncomputable def a178 (P : Params) (os : OsState) : SharedT := shr (t178 P) 789 12011 os
noncomputable def b178 (P : Params) (os : OsState) : SharedT := shr (insL (t178 P) 789 [rg 12012, rit 0 8]) 791 12014 os
def n179 : List Obj := n178 ++ [(rg 12012), ri, tup0, (se 791)]
noncomputable def t179 (P : Params) : BT := insL (top3 (B11 P) P 179) 781 n179
noncomputable def a179 (P : Params) (os : OsState) : SharedT := shr (t179 P) 793 12076 os
noncomputable def b179 (P : Params) (os : OsState) : SharedT := shr (insL (t179 P) 793 [rg 12077, rit 0 8]) 795 12079 os
def n180 : List Obj := n179 ++ [(rg 12077), ri, tup0, (se 795)]
noncomputable def t180 (P : Params) : BT := insL (top3 (B11 P) P 180) 781 n180
noncomputable def a180 (P : Params) (os : OsState) : SharedT := shr (t180 P) 797 12143 os
noncomputable def b180 (P : Params) (os : OsState) : SharedT := shr (insL (t180 P) 797 [rg 12144, rit 0 8]) 799 12146 os
def n181 : List Obj := n180 ++ [(rg 12144), ri, tup0, (se 799)]
noncomputable def t181 (P : Params) : BT := insL (top3 (B11 P) P 181) 781 n181
noncomputable def a181 (P : Params) (os : OsState) : SharedT := shr (t181 P) 801 12209 os
noncomputable def b181 (P : Params) (os : OsState) : SharedT := shr (insL (t181 P) 801 [rg 12210, rit 0 8]) 803 12212 os
def n182 : List Obj := n181 ++ [(rg 12210), ri, tup0, (se 803)]
noncomputable def t182 (P : Params) : BT := insL (top3 (B11 P) P 182) 781 n182
noncomputable def a182 (P : Params) (os : OsState) : SharedT := shr (t182 P) 805 12277 os
noncomputable def b182 (P : Params) (os : OsState) : SharedT := shr (insL (t182 P) 805 [rg 12278, rit 0 8]) 807 12280 os
def n183 : List Obj := n182 ++ [(rg 12278), ri, tup0, (se 807)]
noncomputable def t183 (P : Params) : BT := insL (top3 (B11 P) P 183) 781 n183
noncomputable def a183 (P : Params) (os : OsState) : SharedT := shr (t183 P) 809 12343 os
noncomputable def b183 (P : Params) (os : OsState) : SharedT := shr (insL (t183 P) 809 [rg 12344, rit 0 8]) 811 12346 os
def n184 : List Obj := n183 ++ [(rg 12344), ri, tup0, (se 811)]
noncomputable def t184 (P : Params) : BT := insL (top3 (B11 P) P 184) 781 n184
noncomputable def a184 (P : Params) (os : OsState) : SharedT := shr (t184 P) 813 12411 os
noncomputable def b184 (P : Params) (os : OsState) : SharedT := shr (insL (t184 P) 813 [rg 12412, rit 0 8]) 815 12414 os
def n185 : List Obj := n184 ++ [(rg 12412), ri, tup0, (se 815)]
noncomputable def t185 (P : Params) : BT := insL (top3 (B11 P) P 185) 781 n185
noncomputable def a185 (P : Params) (os : OsState) : SharedT := shr (t185 P) 817 12477 os
noncomputable def b185 (P : Params) (os : OsState) : SharedT := shr (insL (t185 P) 817 [rg 12478, rit 0 8]) 819 12480 os
def n186 : List Obj := n185 ++ [(rg 12478), ri, tup0, (se 819)]
noncomputable def t186 (P : Params) : BT := insL (top3 (B11 P) P 186) 781 n186
noncomputable def a186 (P : Params) (os : OsState) : SharedT := shr (t186 P) 821 12545 os
noncomputable def b186 (P : Params) (os : OsState) : SharedT := shr (insL (t186 P) 821 [rg 12546, rit 0 8]) 823 12548 os
def n187 : List Obj := n186 ++ [(rg 12546), ri, tup0, (se 823)]
noncomputable def t187 (P : Params) : BT := insL (top3 (B11 P) P 187) 781 n187
noncomputable def a187 (P : Params) (os : OsState) : SharedT := shr (t187 P) 825 12611 os
noncomputable def b187 (P : Params) (os : OsState) : SharedT := shr (insL (t187 P) 825 [rg 12612, rit 0 8]) 827 12614 os
def n188 : List Obj := n187 ++ [(rg 12612), ri, tup0, (se 827)]
noncomputable def t188 (P : Params) : BT := insL (top3 (B11 P) P 188) 781 n188
noncomputable def a188 (P : Params) (os : OsState) : SharedT := shr (t188 P) 829 12679 os
noncomputable def b188 (P : Params) (os : OsState) : SharedT := shr (insL (t188 P) 829 [rg 12680, rit 0 8]) 831 12682 os
def n189 : List Obj := n188 ++ [(rg 12680), ri, tup0, (se 831)]
noncomputable def t189 (P : Params) : BT := insL (top3 (B11 P) P 189) 781 n189
noncomputable def a189 (P : Params) (os : OsState) : SharedT := shr (t189 P) 833 12746 os
noncomputable def b189 (P : Params) (os : OsState) : SharedT := shr (insL (t189 P) 833 [rg 12747, rit 0 8]) 835 12749 os
def n190 : List Obj := n189 ++ [(rg 12747), ri, tup0, (se 835)]
noncomputable def t190 (P : Params) : BT := insL (top3 (B11 P) P 190) 781 n190
noncomputable def a190 (P : Params) (os : OsState) : SharedT := shr (t190 P) 837 12815 os
noncomputable def b190 (P : Params) (os : OsState) : SharedT := shr (insL (t190 P) 837 [rg 12816, rit 0 8]) 839 12818 os
def n191 : List Obj := n190 ++ [(rg 12816), ri, tup0, (se 839)]
noncomputable def t191 (P : Params) : BT := insL (top3 (B11 P) P 191) 781 n191
noncomputable def a191 (P : Params) (os : OsState) : SharedT := shr (t191 P) 841 12882 os
noncomputable def b191 (P : Params) (os : OsState) : SharedT := shr (insL (t191 P) 841 [rg 12883, rit 0 8]) 843 12885 os
def n192 : List Obj := []
noncomputable def t192 (P : Params) : BT := B12 P
noncomputable def a192 (P : Params) (os : OsState) : SharedT := shr (t192 P) 845 12951 os
noncomputable def b192 (P : Params) (os : OsState) : SharedT := shr (insL (t192 P) 845 [rg 12952, rit 0 8]) 847 12954 os
def n193 : List Obj := n192 ++ [(rg 12952), ri, tup0, (se 847)]
noncomputable def t193 (P : Params) : BT := insL (top3 (B12 P) P 193) 845 n193
noncomputable def a193 (P : Params) (os : OsState) : SharedT := shr (t193 P) 849 13015 os
noncomputable def b193 (P : Params) (os : OsState) : SharedT := shr (insL (t193 P) 849 [rg 13016, rit 0 8]) 851 13018 os
def n194 : List Obj := n193 ++ [(rg 13016), ri, tup0, (se 851)]
noncomputable def t194 (P : Params) : BT := insL (top3 (B12 P) P 194) 845 n194
noncomputable def a194 (P : Params) (os : OsState) : SharedT := shr (t194 P) 853 13079 os
noncomputable def b194 (P : Params) (os : OsState) : SharedT := shr (insL (t194 P) 853 [rg 13080, rit 0 8]) 855 13082 os
def n195 : List Obj := n194 ++ [(rg 13080), ri, tup0, (se 855)]
noncomputable def t195 (P : Params) : BT := insL (top3 (B12 P) P 195) 845 n195
noncomputable def a195 (P : Params) (os : OsState) : SharedT := shr (t195 P) 857 13143 os
noncomputable def b195 (P : Params) (os : OsState) : SharedT := shr (insL (t195 P) 857 [rg 13144, rit 0 8]) 859 13146 os
def n196 : List Obj := n195 ++ [(rg 13144), ri, tup0, (se 859)]
noncomputable def t196 (P : Params) : BT := insL (top3 (B12 P) P 196) 845 n196
noncomputable def a196 (P : Params) (os : OsState) : SharedT := shr (t196 P) 861 13207 os
noncomputable def b196 (P : Params) (os : OsState) : SharedT := shr (insL (t196 P) 861 [rg 13208, rit 0 8]) 863 13210 os
def n197 : List Obj := n196 ++ [(rg 13208), ri, tup0, (se 863)]
noncomputable def t197 (P : Params) : BT := insL (top3 (B12 P) P 197) 845 n197
noncomputable def a197 (P : Params) (os : OsState) : SharedT := shr (t197 P) 865 13272 os
noncomputable def b197 (P : Params) (os : OsState) : SharedT := shr (insL (t197 P) 865 [rg 13273, rit 0 8]) 867 13275 os
def n198 : List Obj := n197 ++ [(rg 13273), ri, tup0, (se 867)]
noncomputable def t198 (P : Params) : BT := insL (top3 (B12 P) P 198) 845 n198
noncomputable def a198 (P : Params) (os : OsState) : SharedT := shr (t198 P) 869 13337 os
noncomputable def b198 (P : Params) (os : OsState) : SharedT := shr (insL (t198 P) 869 [rg 13338, rit 0 8]) 871 13340 os
def n199 : List Obj := n198 ++ [(rg 13338), ri, tup0, (se 871)]
noncomputable def t199 (P : Params) : BT := insL (top3 (B12 P) P 199) 845 n199
noncomputable def a199 (P : Params) (os : OsState) : SharedT := shr (t199 P) 873 13402 os
noncomputable def b199 (P : Params) (os : OsState) : SharedT := shr (insL (t199 P) 873 [rg 13403, rit 0 8]) 875 13405 os
def n200 : List Obj := n199 ++ [(rg 13403), ri, tup0, (se 875)]
noncomputable def t200 (P : Params) : BT := insL (top3 (B12 P) P 200) 845 n200
noncomputable def a200 (P : Params) (os : OsState) : SharedT := shr (t200 P) 877 13467 os
noncomputable def b200 (P : Params) (os : OsState) : SharedT := shr (insL (t200 P) 877 [rg 13468, rit 0 8]) 879 13470 os
def n201 : List Obj := n200 ++ [(rg 13468), ri, tup0, (se 879)]
noncomputable def t201 (P : Params) : BT := insL (top3 (B12 P) P 201) 845 n201
noncomputable def a201 (P : Params) (os : OsState) : SharedT := shr (t201 P) 881 13532 os
noncomputable def b201 (P : Params) (os : OsState) : SharedT := shr (insL (t201 P) 881 [rg 13533, rit 0 8]) 883 13535 os
def n202 : List Obj := n201 ++ [(rg 13533), ri, tup0, (se 883)]
noncomputable def t202 (P : Params) : BT := insL (top3 (B12 P) P 202) 845 n202
noncomputable def a202 (P : Params) (os : OsState) : SharedT := shr (t202 P) 885 13597 os
noncomputable def b202 (P : Params) (os : OsState) : SharedT := shr (insL (t202 P) 885 [rg 13598, rit 0 8]) 887 13600 os
def n203 : List Obj := n202 ++ [(rg 13598), ri, tup0, (se 887)]
noncomputable def t203 (P : Params) : BT := insL (top3 (B12 P) P 203) 845 n203
noncomputable def a203 (P : Params) (os : OsState) : SharedT := shr (t203 P) 889 13662 os
noncomputable def b203 (P : Params) (os : OsState) : SharedT := shr (insL (t203 P) 889 [rg 13663, rit 0 8]) 891 13665 os
def n204 : List Obj := n203 ++ [(rg 13663), ri, tup0, (se 891)]
noncomputable def t204 (P : Params) : BT := insL (top3 (B12 P) P 204) 845 n204
noncomputable def a204 (P : Params) (os : OsState) : SharedT := shr (t204 P) 893 13727 os
noncomputable def b204 (P : Params) (os : OsState) : SharedT := shr (insL (t204 P) 893 [rg 13728, rit 0 8]) 895 13730 os
def n205 : List Obj := n204 ++ [(rg 13728), ri, tup0, (se 895)]
noncomputable def t205 (P : Params) : BT := insL (top3 (B12 P) P 205) 845 n205
noncomputable def a205 (P : Params) (os : OsState) : SharedT := shr (t205 P) 897 13793 os
noncomputable def b205 (P : Params) (os : OsState) : SharedT := shr (insL (t205 P) 897 [rg 13794, rit 0 8]) 899 13796 os
def n206 : List Obj := n205 ++ [(rg 13794), ri, tup0, (se 899)]
noncomputable def t206 (P : Params) : BT := insL (top3 (B12 P) P 206) 845 n206
noncomputable def a206 (P : Params) (os : OsState) : SharedT := shr (t206 P) 901 13859 os
noncomputable def b206 (P : Params) (os : OsState) : SharedT := shr (insL (t206 P) 901 [rg 13860, rit 0 8]) 903 13862 os
def n207 : List Obj := n206 ++ [(rg 13860), ri, tup0, (se 903)]
noncomputable def t207 (P : Params) : BT := insL (top3 (B12 P) P 207) 845 n207
noncomputable def a207 (P : Params) (os : OsState) : SharedT := shr (t207 P) 905 13925 os
noncomputable def b207 (P : Params) (os : OsState) : SharedT := shr (insL (t207 P) 905 [rg 13926, rit 0 8]) 907 13928 os
def n208 : List Obj := []
noncomputable def t208 (P : Params) : BT := B13 P
noncomputable def a208 (P : Params) (os : OsState) : SharedT := shr (t208 P) 909 13991 os
noncomputable def b208 (P : Params) (os : OsState) : SharedT := shr (insL (t208 P) 909 [rg 13992, rit 0 8]) 911 13994 os
def n209 : List Obj := n208 ++ [(rg 13992), ri, tup0, (se 911)]
noncomputable def t209 (P : Params) : BT := insL (top3 (B13 P) P 209) 909 n209
noncomputable def a209 (P : Params) (os : OsState) : SharedT := shr (t209 P) 913 14056 os
noncomputable def b209 (P : Params) (os : OsState) : SharedT := shr (insL (t209 P) 913 [rg 14057, rit 0 8]) 915 14059 os
def n210 : List Obj := n209 ++ [(rg 14057), ri, tup0, (se 915)]
noncomputable def t210 (P : Params) : BT := insL (top3 (B13 P) P 210) 909 n210
noncomputable def a210 (P : Params) (os : OsState) : SharedT := shr (t210 P) 917 14121 os
noncomputable def b210 (P : Params) (os : OsState) : SharedT := shr (insL (t210 P) 917 [rg 14122, rit 0 8]) 919 14124 os
def n211 : List Obj := n210 ++ [(rg 14122), ri, tup0, (se 919)]
noncomputable def t211 (P : Params) : BT := insL (top3 (B13 P) P 211) 909 n211
noncomputable def a211 (P : Params) (os : OsState) : SharedT := shr (t211 P) 921 14186 os
noncomputable def b211 (P : Params) (os : OsState) : SharedT := shr (insL (t211 P) 921 [rg 14187, rit 0 8]) 923 14189 os
def n212 : List Obj := n211 ++ [(rg 14187), ri, tup0, (se 923)]
noncomputable def t212 (P : Params) : BT := insL (top3 (B13 P) P 212) 909 n212
noncomputable def a212 (P : Params) (os : OsState) : SharedT := shr (t212 P) 925 14251 os
noncomputable def b212 (P : Params) (os : OsState) : SharedT := shr (insL (t212 P) 925 [rg 14252, rit 0 8]) 927 14254 os
def n213 : List Obj := n212 ++ [(rg 14252), ri, tup0, (se 927)]
noncomputable def t213 (P : Params) : BT := insL (top3 (B13 P) P 213) 909 n213
noncomputable def a213 (P : Params) (os : OsState) : SharedT := shr (t213 P) 929 14317 os
noncomputable def b213 (P : Params) (os : OsState) : SharedT := shr (insL (t213 P) 929 [rg 14318, rit 0 8]) 931 14320 os
def n214 : List Obj := n213 ++ [(rg 14318), ri, tup0, (se 931)]
noncomputable def t214 (P : Params) : BT := insL (top3 (B13 P) P 214) 909 n214
noncomputable def a214 (P : Params) (os : OsState) : SharedT := shr (t214 P) 933 14383 os
noncomputable def b214 (P : Params) (os : OsState) : SharedT := shr (insL (t214 P) 933 [rg 14384, rit 0 8]) 935 14386 os
def n215 : List Obj := n214 ++ [(rg 14384), ri, tup0, (se 935)]
noncomputable def t215 (P : Params) : BT := insL (top3 (B13 P) P 215) 909 n215
noncomputable def a215 (P : Params) (os : OsState) : SharedT := shr (t215 P) 937 14449 os
noncomputable def b215 (P : Params) (os : OsState) : SharedT := shr (insL (t215 P) 937 [rg 14450, rit 0 8]) 939 14452 os
def n216 : List Obj := n215 ++ [(rg 14450), ri, tup0, (se 939)]
noncomputable def t216 (P : Params) : BT := insL (top3 (B13 P) P 216) 909 n216
noncomputable def a216 (P : Params) (os : OsState) : SharedT := shr (t216 P) 941 14515 os
noncomputable def b216 (P : Params) (os : OsState) : SharedT := shr (insL (t216 P) 941 [rg 14516, rit 0 8]) 943 14518 os
def n217 : List Obj := n216 ++ [(rg 14516), ri, tup0, (se 943)]
noncomputable def t217 (P : Params) : BT := insL (top3 (B13 P) P 217) 909 n217
noncomputable def a217 (P : Params) (os : OsState) : SharedT := shr (t217 P) 945 14581 os
noncomputable def b217 (P : Params) (os : OsState) : SharedT := shr (insL (t217 P) 945 [rg 14582, rit 0 8]) 947 14584 os
def n218 : List Obj := n217 ++ [(rg 14582), ri, tup0, (se 947)]
noncomputable def t218 (P : Params) : BT := insL (top3 (B13 P) P 218) 909 n218
noncomputable def a218 (P : Params) (os : OsState) : SharedT := shr (t218 P) 949 14647 os
noncomputable def b218 (P : Params) (os : OsState) : SharedT := shr (insL (t218 P) 949 [rg 14648, rit 0 8]) 951 14650 os
def n219 : List Obj := n218 ++ [(rg 14648), ri, tup0, (se 951)]
noncomputable def t219 (P : Params) : BT := insL (top3 (B13 P) P 219) 909 n219
noncomputable def a219 (P : Params) (os : OsState) : SharedT := shr (t219 P) 953 14713 os
noncomputable def b219 (P : Params) (os : OsState) : SharedT := shr (insL (t219 P) 953 [rg 14714, rit 0 8]) 955 14716 os
def n220 : List Obj := n219 ++ [(rg 14714), ri, tup0, (se 955)]
noncomputable def t220 (P : Params) : BT := insL (top3 (B13 P) P 220) 909 n220
noncomputable def a220 (P : Params) (os : OsState) : SharedT := shr (t220 P) 957 14779 os
noncomputable def b220 (P : Params) (os : OsState) : SharedT := shr (insL (t220 P) 957 [rg 14780, rit 0 8]) 959 14782 os
def n221 : List Obj := n220 ++ [(rg 14780), ri, tup0, (se 959)]
noncomputable def t221 (P : Params) : BT := insL (top3 (B13 P) P 221) 909 n221
noncomputable def a221 (P : Params) (os : OsState) : SharedT := shr (t221 P) 961 14846 os
noncomputable def b221 (P : Params) (os : OsState) : SharedT := shr (insL (t221 P) 961 [rg 14847, rit 0 8]) 963 14849 os
def n222 : List Obj := n221 ++ [(rg 14847), ri, tup0, (se 963)]
noncomputable def t222 (P : Params) : BT := insL (top3 (B13 P) P 222) 909 n222
noncomputable def a222 (P : Params) (os : OsState) : SharedT := shr (t222 P) 965 14913 os
noncomputable def b222 (P : Params) (os : OsState) : SharedT := shr (insL (t222 P) 965 [rg 14914, rit 0 8]) 967 14916 os
def n223 : List Obj := n222 ++ [(rg 14914), ri, tup0, (se 967)]
noncomputable def t223 (P : Params) : BT := insL (top3 (B13 P) P 223) 909 n223
noncomputable def a223 (P : Params) (os : OsState) : SharedT := shr (t223 P) 969 14980 os
noncomputable def b223 (P : Params) (os : OsState) : SharedT := shr (insL (t223 P) 969 [rg 14981, rit 0 8]) 971 14983 os
def n224 : List Obj := []
noncomputable def t224 (P : Params) : BT := B14 P
noncomputable def a224 (P : Params) (os : OsState) : SharedT := shr (t224 P) 973 15047 os
noncomputable def b224 (P : Params) (os : OsState) : SharedT := shr (insL (t224 P) 973 [rg 15048, rit 0 8]) 975 15050 os
def n225 : List Obj := n224 ++ [(rg 15048), ri, tup0, (se 975)]
noncomputable def t225 (P : Params) : BT := insL (top3 (B14 P) P 225) 973 n225
noncomputable def a225 (P : Params) (os : OsState) : SharedT := shr (t225 P) 977 15112 os
noncomputable def b225 (P : Params) (os : OsState) : SharedT := shr (insL (t225 P) 977 [rg 15113, rit 0 8]) 979 15115 os
def n226 : List Obj := n225 ++ [(rg 15113), ri, tup0, (se 979)]
noncomputable def t226 (P : Params) : BT := insL (top3 (B14 P) P 226) 973 n226
noncomputable def a226 (P : Params) (os : OsState) : SharedT := shr (t226 P) 981 15177 os
noncomputable def b226 (P : Params) (os : OsState) : SharedT := shr (insL (t226 P) 981 [rg 15178, rit 0 8]) 983 15180 os
def n227 : List Obj := n226 ++ [(rg 15178), ri, tup0, (se 983)]
noncomputable def t227 (P : Params) : BT := insL (top3 (B14 P) P 227) 973 n227
noncomputable def a227 (P : Params) (os : OsState) : SharedT := shr (t227 P) 985 15242 os
noncomputable def b227 (P : Params) (os : OsState) : SharedT := shr (insL (t227 P) 985 [rg 15243, rit 0 8]) 987 15245 os
def n228 : List Obj := n227 ++ [(rg 15243), ri, tup0, (se 987)]
noncomputable def t228 (P : Params) : BT := insL (top3 (B14 P) P 228) 973 n228
noncomputable def a228 (P : Params) (os : OsState) : SharedT := shr (t228 P) 989 15307 os
noncomputable def b228 (P : Params) (os : OsState) : SharedT := shr (insL (t228 P) 989 [rg 15308, rit 0 8]) 991 15310 os
def n229 : List Obj := n228 ++ [(rg 15308), ri, tup0, (se 991)]
noncomputable def t229 (P : Params) : BT := insL (top3 (B14 P) P 229) 973 n229
noncomputable def a229 (P : Params) (os : OsState) : SharedT := shr (t229 P) 993 15373 os
noncomputable def b229 (P : Params) (os : OsState) : SharedT := shr (insL (t229 P) 993 [rg 15374, rit 0 8]) 995 15376 os
def n230 : List Obj := n229 ++ [(rg 15374), ri, tup0, (se 995)]
noncomputable def t230 (P : Params) : BT := insL (top3 (B14 P) P 230) 973 n230
noncomputable def a230 (P : Params) (os : OsState) : SharedT := shr (t230 P) 997 15439 os
noncomputable def b230 (P : Params) (os : OsState) : SharedT := shr (insL (t230 P) 997 [rg 15440, rit 0 8]) 999 15442 os
def n231 : List Obj := n230 ++ [(rg 15440), ri, tup0, (se 999)]
noncomputable def t231 (P : Params) : BT := insL (top3 (B14 P) P 231) 973 n231
noncomputable def a231 (P : Params) (os : OsState) : SharedT := shr (t231 P) 1001 15505 os
noncomputable def b231 (P : Params) (os : OsState) : SharedT := shr (insL (t231 P) 1001 [rg 15506, rit 0 8]) 1003 15508 os
def n232 : List Obj := n231 ++ [(rg 15506), ri, tup0, (se 1003)]
noncomputable def t232 (P : Params) : BT := insL (top3 (B14 P) P 232) 973 n232
noncomputable def a232 (P : Params) (os : OsState) : SharedT := shr (t232 P) 1005 15571 os
noncomputable def b232 (P : Params) (os : OsState) : SharedT := shr (insL (t232 P) 1005 [rg 15572, rit 0 8]) 1007 15574 os
def n233 : List Obj := n232 ++ [(rg 15572), ri, tup0, (se 1007)]
noncomputable def t233 (P : Params) : BT := insL (top3 (B14 P) P 233) 973 n233
noncomputable def a233 (P : Params) (os : OsState) : SharedT := shr (t233 P) 1009 15637 os
noncomputable def b233 (P : Params) (os : OsState) : SharedT := shr (insL (t233 P) 1009 [rg 15638, rit 0 8]) 1011 15640 os
def n234 : List Obj := n233 ++ [(rg 15638), ri, tup0, (se 1011)]
noncomputable def t234 (P : Params) : BT := insL (top3 (B14 P) P 234) 973 n234
noncomputable def a234 (P : Params) (os : OsState) : SharedT := shr (t234 P) 1013 15703 os
noncomputable def b234 (P : Params) (os : OsState) : SharedT := shr (insL (t234 P) 1013 [rg 15704, rit 0 8]) 1015 15706 os
def n235 : List Obj := n234 ++ [(rg 15704), ri, tup0, (se 1015)]
noncomputable def t235 (P : Params) : BT := insL (top3 (B14 P) P 235) 973 n235
noncomputable def a235 (P : Params) (os : OsState) : SharedT := shr (t235 P) 1017 15769 os
noncomputable def b235 (P : Params) (os : OsState) : SharedT := shr (insL (t235 P) 1017 [rg 15770, rit 0 8]) 1019 15772 os
def n236 : List Obj := n235 ++ [(rg 15770), ri, tup0, (se 1019)]
noncomputable def t236 (P : Params) : BT := insL (top3 (B14 P) P 236) 973 n236
noncomputable def a236 (P : Params) (os : OsState) : SharedT := shr (t236 P) 1021 15835 os
noncomputable def b236 (P : Params) (os : OsState) : SharedT := shr (insL (t236 P) 1021 [rg 15836, rit 0 8]) 1023 15838 os
def n237 : List Obj := n236 ++ [(rg 15836), ri, tup0, (se 1023)]
noncomputable def t237 (P : Params) : BT := insL (top3 (B14 P) P 237) 973 n237
noncomputable def a237 (P : Params) (os : OsState) : SharedT := shr (t237 P) 1025 15902 os
noncomputable def b237 (P : Params) (os : OsState) : SharedT := shr (insL (t237 P) 1025 [rg 15903, rit 0 8]) 1027 15905 os
def n238 : List Obj := n237 ++ [(rg 15903), ri, tup0, (se 1027)]
noncomputable def t238 (P : Params) : BT := insL (top3 (B14 P) P 238) 973 n238
noncomputable def a238 (P : Params) (os : OsState) : SharedT := shr (t238 P) 1029 15969 os
noncomputable def b238 (P : Params) (os : OsState) : SharedT := shr (insL (t238 P) 1029 [rg 15970, rit 0 8]) 1031 15972 os
def n239 : List Obj := n238 ++ [(rg 15970), ri, tup0, (se 1031)]
noncomputable def t239 (P : Params) : BT := insL (top3 (B14 P) P 239) 973 n239
noncomputable def a239 (P : Params) (os : OsState) : SharedT := shr (t239 P) 1033 16036 os
noncomputable def b239 (P : Params) (os : OsState) : SharedT := shr (insL (t239 P) 1033 [rg 16037, rit 0 8]) 1035 16039 os
def n240 : List Obj := []
noncomputable def t240 (P : Params) : BT := B15 P
noncomputable def a240 (P : Params) (os : OsState) : SharedT := shr (t240 P) 1037 16103 os
noncomputable def b240 (P : Params) (os : OsState) : SharedT := shr (insL (t240 P) 1037 [rg 16104, rit 0 8]) 1039 16106 os
def n241 : List Obj := n240 ++ [(rg 16104), ri, tup0, (se 1039)]
noncomputable def t241 (P : Params) : BT := insL (top3 (B15 P) P 241) 1037 n241
noncomputable def a241 (P : Params) (os : OsState) : SharedT := shr (t241 P) 1041 16169 os
noncomputable def b241 (P : Params) (os : OsState) : SharedT := shr (insL (t241 P) 1041 [rg 16170, rit 0 8]) 1043 16172 os
def n242 : List Obj := n241 ++ [(rg 16170), ri, tup0, (se 1043)]
noncomputable def t242 (P : Params) : BT := insL (top3 (B15 P) P 242) 1037 n242
noncomputable def a242 (P : Params) (os : OsState) : SharedT := shr (t242 P) 1045 16235 os
noncomputable def b242 (P : Params) (os : OsState) : SharedT := shr (insL (t242 P) 1045 [rg 16236, rit 0 8]) 1047 16238 os
def n243 : List Obj := n242 ++ [(rg 16236), ri, tup0, (se 1047)]
noncomputable def t243 (P : Params) : BT := insL (top3 (B15 P) P 243) 1037 n243
noncomputable def a243 (P : Params) (os : OsState) : SharedT := shr (t243 P) 1049 16301 os
noncomputable def b243 (P : Params) (os : OsState) : SharedT := shr (insL (t243 P) 1049 [rg 16302, rit 0 8]) 1051 16304 os
def n244 : List Obj := n243 ++ [(rg 16302), ri, tup0, (se 1051)]
noncomputable def t244 (P : Params) : BT := insL (top3 (B15 P) P 244) 1037 n244
noncomputable def a244 (P : Params) (os : OsState) : SharedT := shr (t244 P) 1053 16367 os
noncomputable def b244 (P : Params) (os : OsState) : SharedT := shr (insL (t244 P) 1053 [rg 16368, rit 0 8]) 1055 16370 os
def n245 : List Obj := n244 ++ [(rg 16368), ri, tup0, (se 1055)]
noncomputable def t245 (P : Params) : BT := insL (top3 (B15 P) P 245) 1037 n245
noncomputable def a245 (P : Params) (os : OsState) : SharedT := shr (t245 P) 1057 16434 os
noncomputable def b245 (P : Params) (os : OsState) : SharedT := shr (insL (t245 P) 1057 [rg 16435, rit 0 8]) 1059 16437 os
def n246 : List Obj := n245 ++ [(rg 16435), ri, tup0, (se 1059)]
noncomputable def t246 (P : Params) : BT := insL (top3 (B15 P) P 246) 1037 n246
noncomputable def a246 (P : Params) (os : OsState) : SharedT := shr (t246 P) 1061 16501 os
noncomputable def b246 (P : Params) (os : OsState) : SharedT := shr (insL (t246 P) 1061 [rg 16502, rit 0 8]) 1063 16504 os
def n247 : List Obj := n246 ++ [(rg 16502), ri, tup0, (se 1063)]
noncomputable def t247 (P : Params) : BT := insL (top3 (B15 P) P 247) 1037 n247
noncomputable def a247 (P : Params) (os : OsState) : SharedT := shr (t247 P) 1065 16568 os
noncomputable def b247 (P : Params) (os : OsState) : SharedT := shr (insL (t247 P) 1065 [rg 16569, rit 0 8]) 1067 16571 os
def n248 : List Obj := n247 ++ [(rg 16569), ri, tup0, (se 1067)]
noncomputable def t248 (P : Params) : BT := insL (top3 (B15 P) P 248) 1037 n248
noncomputable def a248 (P : Params) (os : OsState) : SharedT := shr (t248 P) 1069 16635 os
noncomputable def b248 (P : Params) (os : OsState) : SharedT := shr (insL (t248 P) 1069 [rg 16636, rit 0 8]) 1071 16638 os
def n249 : List Obj := n248 ++ [(rg 16636), ri, tup0, (se 1071)]
noncomputable def t249 (P : Params) : BT := insL (top3 (B15 P) P 249) 1037 n249
noncomputable def a249 (P : Params) (os : OsState) : SharedT := shr (t249 P) 1073 16702 os
noncomputable def b249 (P : Params) (os : OsState) : SharedT := shr (insL (t249 P) 1073 [rg 16703, rit 0 8]) 1075 16705 os
def n250 : List Obj := n249 ++ [(rg 16703), ri, tup0, (se 1075)]
noncomputable def t250 (P : Params) : BT := insL (top3 (B15 P) P 250) 1037 n250
noncomputable def a250 (P : Params) (os : OsState) : SharedT := shr (t250 P) 1077 16769 os
noncomputable def b250 (P : Params) (os : OsState) : SharedT := shr (insL (t250 P) 1077 [rg 16770, rit 0 8]) 1079 16772 os
def n251 : List Obj := n250 ++ [(rg 16770), ri, tup0, (se 1079)]
noncomputable def t251 (P : Params) : BT := insL (top3 (B15 P) P 251) 1037 n251
noncomputable def a251 (P : Params) (os : OsState) : SharedT := shr (t251 P) 1081 16836 os
noncomputable def b251 (P : Params) (os : OsState) : SharedT := shr (insL (t251 P) 1081 [rg 16837, rit 0 8]) 1083 16839 os
def n252 : List Obj := n251 ++ [(rg 16837), ri, tup0, (se 1083)]
noncomputable def t252 (P : Params) : BT := insL (top3 (B15 P) P 252) 1037 n252
noncomputable def a252 (P : Params) (os : OsState) : SharedT := shr (t252 P) 1085 16903 os
noncomputable def b252 (P : Params) (os : OsState) : SharedT := shr (insL (t252 P) 1085 [rg 16904, rit 0 8]) 1087 16906 os
def n253 : List Obj := n252 ++ [(rg 16904), ri, tup0, (se 1087)]
noncomputable def t253 (P : Params) : BT := insL (top3 (B15 P) P 253) 1037 n253
noncomputable def a253 (P : Params) (os : OsState) : SharedT := shr (t253 P) 1089 16971 os
noncomputable def b253 (P : Params) (os : OsState) : SharedT := shr (insL (t253 P) 1089 [rg 16972, rit 0 8]) 1091 16974 os
def n254 : List Obj := n253 ++ [(rg 16972), ri, tup0, (se 1091)]
noncomputable def t254 (P : Params) : BT := insL (top3 (B15 P) P 254) 1037 n254
noncomputable def a254 (P : Params) (os : OsState) : SharedT := shr (t254 P) 1093 17039 os
noncomputable def b254 (P : Params) (os : OsState) : SharedT := shr (insL (t254 P) 1093 [rg 17040, rit 0 8]) 1095 17042 os
def n255 : List Obj := n254 ++ [(rg 17040), ri, tup0, (se 1095)]
noncomputable def t255 (P : Params) : BT := insL (top3 (B15 P) P 255) 1037 n255
noncomputable def a255 (P : Params) (os : OsState) : SharedT := shr (t255 P) 1097 17107 os
noncomputable def b255 (P : Params) (os : OsState) : SharedT := shr (insL (t255 P) 1097 [rg 17108, rit 0 8]) 1099 17110 os

noncomputable def st3 : List Stmt := [(PySem.Challenge.pw_ui0507_14.main.body)[10]!]
noncomputable def st0 (P : Params) (os : OsState) : SharedT := shr (Pre.tree_72 P) 73 272 os
noncomputable def thr0 (b : List Stmt) : Thread := piecesOf st3 Pre.env_1 (Code.body b Pre.env_1) { line := 21, col := 0, endLine := 31, endCol := 16 } [topFrame { line := 0, col := 0, endLine := 0, endCol := 0 }]
noncomputable def goW (p : Program) (w : World) (n : Nat) (s : SharedT) (t : Thread) : Option (SharedT × Thread) := PySem.W.Fast.tw10295753902157049106 PySem.W.Fast.tw14364793385576792824 p w 11 (some (Value.ref 6)) 1 n s t
theorem goW_eq {p : Program} {w : World} {n : Nat} {s : SharedT} {t : Thread} : segGoT treeTable p w 11 (some (Value.ref 6)) 1 n s t = goW p w n s t := by
  unfold goW
  rw [← PySem.W.Fast.te10295753902157049106, ← PySem.W.Fast.te14364793385576792824]
noncomputable def wF (w : World) : World := w.withFollow "special-get-raises" false
noncomputable def wT (w : World) : World := w.withFollow "special-get-raises" true
noncomputable def thrA (p : Program) (w : World) (b : List Stmt) (os : OsState) : Thread := match goW p (wF w) 92 (st0 w.params os) (thr0 b) with | some r => r.2 | none => thr0 b
noncomputable def thrB (p : Program) (w : World) (b : List Stmt) (os : OsState) (s : SharedT) : Thread := match goW p (wF w) 37 s (thrA p w b os) with | some r => r.2 | none => thr0 b
theorem g0 (p : Program) (w : World) (b : List Stmt) (os : OsState) :
    goW p (wF w) 37 (a0 w.params os) (thrA p w b os) = some (b0 w.params os, thrB p w b os (a0 w.params os)) ∧
    goW p (wT w) 37 (a0 w.params os) (thrA p w b os) = some (b0 w.params os, thrB p w b os (a0 w.params os)) ∧
    goW p w 485 (b0 w.params os) (thrB p w b os (a0 w.params os)) = some (a1 w.params os, thrA p w b os) ∧
    goW p (wF w) 37 (a1 w.params os) (thrA p w b os) = some (b1 w.params os, thrB p w b os (a1 w.params os)) ∧
    goW p (wT w) 37 (a1 w.params os) (thrA p w b os) = some (b1 w.params os, thrB p w b os (a1 w.params os)) ∧
    goW p w 492 (b1 w.params os) (thrB p w b os (a1 w.params os)) = some (a2 w.params os, thrA p w b os) ∧
    goW p (wF w) 37 (a2 w.params os) (thrA p w b os) = some (b2 w.params os, thrB p w b os (a2 w.params os)) ∧
    goW p (wT w) 37 (a2 w.params os) (thrA p w b os) = some (b2 w.params os, thrB p w b os (a2 w.params os)) ∧
    goW p w 492 (b2 w.params os) (thrB p w b os (a2 w.params os)) = some (a3 w.params os, thrA p w b os) ∧
    goW p (wF w) 37 (a3 w.params os) (thrA p w b os) = some (b3 w.params os, thrB p w b os (a3 w.params os)) ∧
    goW p (wT w) 37 (a3 w.params os) (thrA p w b os) = some (b3 w.params os, thrB p w b os (a3 w.params os)) ∧
    goW p w 505 (b3 w.params os) (thrB p w b os (a3 w.params os)) = some (a4 w.params os, thrA p w b os) ∧
    goW p (wF w) 37 (a4 w.params os) (thrA p w b os) = some (b4 w.params os, thrB p w b os (a4 w.params os)) ∧
    goW p (wT w) 37 (a4 w.params os) (thrA p w b os) = some (b4 w.params os, thrB p w b os (a4 w.params os)) ∧
    goW p w 485 (b4 w.params os) (thrB p w b os (a4 w.params os)) = some (a5 w.params os, thrA p w b os) ∧
    goW p (wF w) 37 (a5 w.params os) (thrA p w b os) = some (b5 w.params os, thrB p w b os (a5 w.params os)) ∧
    goW p (wT w) 37 (a5 w.params os) (thrA p w b os) = some (b5 w.params os, thrB p w b os (a5 w.params os)) ∧
    goW p w 498 (b5 w.params os) (thrB p w b os (a5 w.params os)) = some (a6 w.params os, thrA p w b os) ∧
    goW p (wF w) 37 (a6 w.params os) (thrA p w b os) = some (b6 w.params os, thrB p w b os (a6 w.params os)) ∧
    goW p (wT w) 37 (a6 w.params os) (thrA p w b os) = some (b6 w.params os, thrB p w b os (a6 w.params os)) ∧
    goW p w 498 (b6 w.params os) (thrB p w b os (a6 w.params os)) = some (a7 w.params os, thrA p w b os) ∧
    goW p (wF w) 37 (a7 w.params os) (thrA p w b os) = some (b7 w.params os, thrB p w b os (a7 w.params os)) ∧
    goW p (wT w) 37 (a7 w.params os) (thrA p w b os) = some (b7 w.params os, thrB p w b os (a7 w.params os)) ∧
    goW p w 512 (b7 w.params os) (thrB p w b os (a7 w.params os)) = some (a8 w.params os, thrA p w b os) :=
  ⟨by kernel_rfl, by kernel_rfl, by kernel_rfl, by kernel_rfl, by kernel_rfl, by kernel_rfl, by kernel_rfl, by kernel_rfl, by kernel_rfl, by kernel_rfl, by kernel_rfl, by kernel_rfl, by kernel_rfl, by kernel_rfl, by kernel_rfl, by kernel_rfl, by kernel_rfl, by kernel_rfl, by kernel_rfl, by kernel_rfl, by kernel_rfl, by kernel_rfl, by kernel_rfl, by kernel_rfl⟩
theorem g8 (p : Program) (w : World) (b : List Stmt) (os : OsState) :
    goW p (wF w) 37 (a8 w.params os) (thrA p w b os) = some (b8 w.params os, thrB p w b os (a8 w.params os)) ∧
    goW p (wT w) 37 (a8 w.params os) (thrA p w b os) = some (b8 w.params os, thrB p w b os (a8 w.params os)) ∧
    goW p w 485 (b8 w.params os) (thrB p w b os (a8 w.params os)) = some (a9 w.params os, thrA p w b os) ∧
    goW p (wF w) 37 (a9 w.params os) (thrA p w b os) = some (b9 w.params os, thrB p w b os (a9 w.params os)) ∧
    goW p (wT w) 37 (a9 w.params os) (thrA p w b os) = some (b9 w.params os, thrB p w b os (a9 w.params os)) ∧
    goW p w 498 (b9 w.params os) (thrB p w b os (a9 w.params os)) = some (a10 w.params os, thrA p w b os) ∧
    goW p (wF w) 37 (a10 w.params os) (thrA p w b os) = some (b10 w.params os, thrB p w b os (a10 w.params os)) ∧
    goW p (wT w) 37 (a10 w.params os) (thrA p w b os) = some (b10 w.params os, thrB p w b os (a10 w.params os)) ∧
    goW p w 498 (b10 w.params os) (thrB p w b os (a10 w.params os)) = some (a11 w.params os, thrA p w b os) ∧
    goW p (wF w) 37 (a11 w.params os) (thrA p w b os) = some (b11 w.params os, thrB p w b os (a11 w.params os)) ∧
    goW p (wT w) 37 (a11 w.params os) (thrA p w b os) = some (b11 w.params os, thrB p w b os (a11 w.params os)) ∧
    goW p w 512 (b11 w.params os) (thrB p w b os (a11 w.params os)) = some (a12 w.params os, thrA p w b os) ∧
    goW p (wF w) 37 (a12 w.params os) (thrA p w b os) = some (b12 w.params os, thrB p w b os (a12 w.params os)) ∧
    goW p (wT w) 37 (a12 w.params os) (thrA p w b os) = some (b12 w.params os, thrB p w b os (a12 w.params os)) ∧
    goW p w 491 (b12 w.params os) (thrB p w b os (a12 w.params os)) = some (a13 w.params os, thrA p w b os) ∧
    goW p (wF w) 37 (a13 w.params os) (thrA p w b os) = some (b13 w.params os, thrB p w b os (a13 w.params os)) ∧
    goW p (wT w) 37 (a13 w.params os) (thrA p w b os) = some (b13 w.params os, thrB p w b os (a13 w.params os)) ∧
    goW p w 505 (b13 w.params os) (thrB p w b os (a13 w.params os)) = some (a14 w.params os, thrA p w b os) ∧
    goW p (wF w) 37 (a14 w.params os) (thrA p w b os) = some (b14 w.params os, thrB p w b os (a14 w.params os)) ∧
    goW p (wT w) 37 (a14 w.params os) (thrA p w b os) = some (b14 w.params os, thrB p w b os (a14 w.params os)) ∧
    goW p w 505 (b14 w.params os) (thrB p w b os (a14 w.params os)) = some (a15 w.params os, thrA p w b os) ∧
    goW p (wF w) 37 (a15 w.params os) (thrA p w b os) = some (b15 w.params os, thrB p w b os (a15 w.params os)) ∧
    goW p (wT w) 37 (a15 w.params os) (thrA p w b os) = some (b15 w.params os, thrB p w b os (a15 w.params os)) ∧
    goW p w 519 (b15 w.params os) (thrB p w b os (a15 w.params os)) = some (a16 w.params os, thrA p w b os) :=
  ⟨by kernel_rfl, by kernel_rfl, by kernel_rfl, by kernel_rfl, by kernel_rfl, by kernel_rfl, by kernel_rfl, by kernel_rfl, by kernel_rfl, by kernel_rfl, by kernel_rfl, by kernel_rfl, by kernel_rfl, by kernel_rfl, by kernel_rfl, by kernel_rfl, by kernel_rfl, by kernel_rfl, by kernel_rfl, by kernel_rfl, by kernel_rfl, by kernel_rfl, by kernel_rfl, by kernel_rfl⟩
theorem g16 (p : Program) (w : World) (b : List Stmt) (os : OsState) :
    goW p (wF w) 37 (a16 w.params os) (thrA p w b os) = some (b16 w.params os, thrB p w b os (a16 w.params os)) ∧
    goW p (wT w) 37 (a16 w.params os) (thrA p w b os) = some (b16 w.params os, thrB p w b os (a16 w.params os)) ∧
    goW p w 485 (b16 w.params os) (thrB p w b os (a16 w.params os)) = some (a17 w.params os, thrA p w b os) ∧
    goW p (wF w) 37 (a17 w.params os) (thrA p w b os) = some (b17 w.params os, thrB p w b os (a17 w.params os)) ∧
    goW p (wT w) 37 (a17 w.params os) (thrA p w b os) = some (b17 w.params os, thrB p w b os (a17 w.params os)) ∧
    goW p w 498 (b17 w.params os) (thrB p w b os (a17 w.params os)) = some (a18 w.params os, thrA p w b os) ∧
    goW p (wF w) 37 (a18 w.params os) (thrA p w b os) = some (b18 w.params os, thrB p w b os (a18 w.params os)) ∧
    goW p (wT w) 37 (a18 w.params os) (thrA p w b os) = some (b18 w.params os, thrB p w b os (a18 w.params os)) ∧
    goW p w 498 (b18 w.params os) (thrB p w b os (a18 w.params os)) = some (a19 w.params os, thrA p w b os) ∧
    goW p (wF w) 37 (a19 w.params os) (thrA p w b os) = some (b19 w.params os, thrB p w b os (a19 w.params os)) ∧
    goW p (wT w) 37 (a19 w.params os) (thrA p w b os) = some (b19 w.params os, thrB p w b os (a19 w.params os)) ∧
    goW p w 512 (b19 w.params os) (thrB p w b os (a19 w.params os)) = some (a20 w.params os, thrA p w b os) ∧
    goW p (wF w) 37 (a20 w.params os) (thrA p w b os) = some (b20 w.params os, thrB p w b os (a20 w.params os)) ∧
    goW p (wT w) 37 (a20 w.params os) (thrA p w b os) = some (b20 w.params os, thrB p w b os (a20 w.params os)) ∧
    goW p w 491 (b20 w.params os) (thrB p w b os (a20 w.params os)) = some (a21 w.params os, thrA p w b os) ∧
    goW p (wF w) 37 (a21 w.params os) (thrA p w b os) = some (b21 w.params os, thrB p w b os (a21 w.params os)) ∧
    goW p (wT w) 37 (a21 w.params os) (thrA p w b os) = some (b21 w.params os, thrB p w b os (a21 w.params os)) ∧
    goW p w 505 (b21 w.params os) (thrB p w b os (a21 w.params os)) = some (a22 w.params os, thrA p w b os) ∧
    goW p (wF w) 37 (a22 w.params os) (thrA p w b os) = some (b22 w.params os, thrB p w b os (a22 w.params os)) ∧
    goW p (wT w) 37 (a22 w.params os) (thrA p w b os) = some (b22 w.params os, thrB p w b os (a22 w.params os)) ∧
    goW p w 505 (b22 w.params os) (thrB p w b os (a22 w.params os)) = some (a23 w.params os, thrA p w b os) ∧
    goW p (wF w) 37 (a23 w.params os) (thrA p w b os) = some (b23 w.params os, thrB p w b os (a23 w.params os)) ∧
    goW p (wT w) 37 (a23 w.params os) (thrA p w b os) = some (b23 w.params os, thrB p w b os (a23 w.params os)) ∧
    goW p w 519 (b23 w.params os) (thrB p w b os (a23 w.params os)) = some (a24 w.params os, thrA p w b os) :=
  ⟨by kernel_rfl, by kernel_rfl, by kernel_rfl, by kernel_rfl, by kernel_rfl, by kernel_rfl, by kernel_rfl, by kernel_rfl, by kernel_rfl, by kernel_rfl, by kernel_rfl, by kernel_rfl, by kernel_rfl, by kernel_rfl, by kernel_rfl, by kernel_rfl, by kernel_rfl, by kernel_rfl, by kernel_rfl, by kernel_rfl, by kernel_rfl, by kernel_rfl, by kernel_rfl, by kernel_rfl⟩
theorem g24 (p : Program) (w : World) (b : List Stmt) (os : OsState) :
    goW p (wF w) 37 (a24 w.params os) (thrA p w b os) = some (b24 w.params os, thrB p w b os (a24 w.params os)) ∧
    goW p (wT w) 37 (a24 w.params os) (thrA p w b os) = some (b24 w.params os, thrB p w b os (a24 w.params os)) ∧
    goW p w 491 (b24 w.params os) (thrB p w b os (a24 w.params os)) = some (a25 w.params os, thrA p w b os) ∧
    goW p (wF w) 37 (a25 w.params os) (thrA p w b os) = some (b25 w.params os, thrB p w b os (a25 w.params os)) ∧
    goW p (wT w) 37 (a25 w.params os) (thrA p w b os) = some (b25 w.params os, thrB p w b os (a25 w.params os)) ∧
    goW p w 505 (b25 w.params os) (thrB p w b os (a25 w.params os)) = some (a26 w.params os, thrA p w b os) ∧
    goW p (wF w) 37 (a26 w.params os) (thrA p w b os) = some (b26 w.params os, thrB p w b os (a26 w.params os)) ∧
    goW p (wT w) 37 (a26 w.params os) (thrA p w b os) = some (b26 w.params os, thrB p w b os (a26 w.params os)) ∧
    goW p w 505 (b26 w.params os) (thrB p w b os (a26 w.params os)) = some (a27 w.params os, thrA p w b os) ∧
    goW p (wF w) 37 (a27 w.params os) (thrA p w b os) = some (b27 w.params os, thrB p w b os (a27 w.params os)) ∧
    goW p (wT w) 37 (a27 w.params os) (thrA p w b os) = some (b27 w.params os, thrB p w b os (a27 w.params os)) ∧
    goW p w 519 (b27 w.params os) (thrB p w b os (a27 w.params os)) = some (a28 w.params os, thrA p w b os) ∧
    goW p (wF w) 37 (a28 w.params os) (thrA p w b os) = some (b28 w.params os, thrB p w b os (a28 w.params os)) ∧
    goW p (wT w) 37 (a28 w.params os) (thrA p w b os) = some (b28 w.params os, thrB p w b os (a28 w.params os)) ∧
    goW p w 498 (b28 w.params os) (thrB p w b os (a28 w.params os)) = some (a29 w.params os, thrA p w b os) ∧
    goW p (wF w) 37 (a29 w.params os) (thrA p w b os) = some (b29 w.params os, thrB p w b os (a29 w.params os)) ∧
    goW p (wT w) 37 (a29 w.params os) (thrA p w b os) = some (b29 w.params os, thrB p w b os (a29 w.params os)) ∧
    goW p w 512 (b29 w.params os) (thrB p w b os (a29 w.params os)) = some (a30 w.params os, thrA p w b os) ∧
    goW p (wF w) 37 (a30 w.params os) (thrA p w b os) = some (b30 w.params os, thrB p w b os (a30 w.params os)) ∧
    goW p (wT w) 37 (a30 w.params os) (thrA p w b os) = some (b30 w.params os, thrB p w b os (a30 w.params os)) ∧
    goW p w 512 (b30 w.params os) (thrB p w b os (a30 w.params os)) = some (a31 w.params os, thrA p w b os) ∧
    goW p (wF w) 37 (a31 w.params os) (thrA p w b os) = some (b31 w.params os, thrB p w b os (a31 w.params os)) ∧
    goW p (wT w) 37 (a31 w.params os) (thrA p w b os) = some (b31 w.params os, thrB p w b os (a31 w.params os)) ∧
    goW p w 526 (b31 w.params os) (thrB p w b os (a31 w.params os)) = some (a32 w.params os, thrA p w b os) :=
  ⟨by kernel_rfl, by kernel_rfl, by kernel_rfl, by kernel_rfl, by kernel_rfl, by kernel_rfl, by kernel_rfl, by kernel_rfl, by kernel_rfl, by kernel_rfl, by kernel_rfl, by kernel_rfl, by kernel_rfl, by kernel_rfl, by kernel_rfl, by kernel_rfl, by kernel_rfl, by kernel_rfl, by kernel_rfl, by kernel_rfl, by kernel_rfl, by kernel_rfl, by kernel_rfl, by kernel_rfl⟩
theorem g32 (p : Program) (w : World) (b : List Stmt) (os : OsState) :
    goW p (wF w) 37 (a32 w.params os) (thrA p w b os) = some (b32 w.params os, thrB p w b os (a32 w.params os)) ∧
    goW p (wT w) 37 (a32 w.params os) (thrA p w b os) = some (b32 w.params os, thrB p w b os (a32 w.params os)) ∧
    goW p w 485 (b32 w.params os) (thrB p w b os (a32 w.params os)) = some (a33 w.params os, thrA p w b os) ∧
    goW p (wF w) 37 (a33 w.params os) (thrA p w b os) = some (b33 w.params os, thrB p w b os (a33 w.params os)) ∧
    goW p (wT w) 37 (a33 w.params os) (thrA p w b os) = some (b33 w.params os, thrB p w b os (a33 w.params os)) ∧
    goW p w 498 (b33 w.params os) (thrB p w b os (a33 w.params os)) = some (a34 w.params os, thrA p w b os) ∧
    goW p (wF w) 37 (a34 w.params os) (thrA p w b os) = some (b34 w.params os, thrB p w b os (a34 w.params os)) ∧
    goW p (wT w) 37 (a34 w.params os) (thrA p w b os) = some (b34 w.params os, thrB p w b os (a34 w.params os)) ∧
    goW p w 498 (b34 w.params os) (thrB p w b os (a34 w.params os)) = some (a35 w.params os, thrA p w b os) ∧
    goW p (wF w) 37 (a35 w.params os) (thrA p w b os) = some (b35 w.params os, thrB p w b os (a35 w.params os)) ∧
    goW p (wT w) 37 (a35 w.params os) (thrA p w b os) = some (b35 w.params os, thrB p w b os (a35 w.params os)) ∧
    goW p w 512 (b35 w.params os) (thrB p w b os (a35 w.params os)) = some (a36 w.params os, thrA p w b os) ∧
    goW p (wF w) 37 (a36 w.params os) (thrA p w b os) = some (b36 w.params os, thrB p w b os (a36 w.params os)) ∧
    goW p (wT w) 37 (a36 w.params os) (thrA p w b os) = some (b36 w.params os, thrB p w b os (a36 w.params os)) ∧
    goW p w 491 (b36 w.params os) (thrB p w b os (a36 w.params os)) = some (a37 w.params os, thrA p w b os) ∧
    goW p (wF w) 37 (a37 w.params os) (thrA p w b os) = some (b37 w.params os, thrB p w b os (a37 w.params os)) ∧
    goW p (wT w) 37 (a37 w.params os) (thrA p w b os) = some (b37 w.params os, thrB p w b os (a37 w.params os)) ∧
    goW p w 505 (b37 w.params os) (thrB p w b os (a37 w.params os)) = some (a38 w.params os, thrA p w b os) ∧
    goW p (wF w) 37 (a38 w.params os) (thrA p w b os) = some (b38 w.params os, thrB p w b os (a38 w.params os)) ∧
    goW p (wT w) 37 (a38 w.params os) (thrA p w b os) = some (b38 w.params os, thrB p w b os (a38 w.params os)) ∧
    goW p w 505 (b38 w.params os) (thrB p w b os (a38 w.params os)) = some (a39 w.params os, thrA p w b os) ∧
    goW p (wF w) 37 (a39 w.params os) (thrA p w b os) = some (b39 w.params os, thrB p w b os (a39 w.params os)) ∧
    goW p (wT w) 37 (a39 w.params os) (thrA p w b os) = some (b39 w.params os, thrB p w b os (a39 w.params os)) ∧
    goW p w 519 (b39 w.params os) (thrB p w b os (a39 w.params os)) = some (a40 w.params os, thrA p w b os) :=
  ⟨by kernel_rfl, by kernel_rfl, by kernel_rfl, by kernel_rfl, by kernel_rfl, by kernel_rfl, by kernel_rfl, by kernel_rfl, by kernel_rfl, by kernel_rfl, by kernel_rfl, by kernel_rfl, by kernel_rfl, by kernel_rfl, by kernel_rfl, by kernel_rfl, by kernel_rfl, by kernel_rfl, by kernel_rfl, by kernel_rfl, by kernel_rfl, by kernel_rfl, by kernel_rfl, by kernel_rfl⟩
theorem g40 (p : Program) (w : World) (b : List Stmt) (os : OsState) :
    goW p (wF w) 37 (a40 w.params os) (thrA p w b os) = some (b40 w.params os, thrB p w b os (a40 w.params os)) ∧
    goW p (wT w) 37 (a40 w.params os) (thrA p w b os) = some (b40 w.params os, thrB p w b os (a40 w.params os)) ∧
    goW p w 491 (b40 w.params os) (thrB p w b os (a40 w.params os)) = some (a41 w.params os, thrA p w b os) ∧
    goW p (wF w) 37 (a41 w.params os) (thrA p w b os) = some (b41 w.params os, thrB p w b os (a41 w.params os)) ∧
    goW p (wT w) 37 (a41 w.params os) (thrA p w b os) = some (b41 w.params os, thrB p w b os (a41 w.params os)) ∧
    goW p w 505 (b41 w.params os) (thrB p w b os (a41 w.params os)) = some (a42 w.params os, thrA p w b os) ∧
    goW p (wF w) 37 (a42 w.params os) (thrA p w b os) = some (b42 w.params os, thrB p w b os (a42 w.params os)) ∧
    goW p (wT w) 37 (a42 w.params os) (thrA p w b os) = some (b42 w.params os, thrB p w b os (a42 w.params os)) ∧
    goW p w 505 (b42 w.params os) (thrB p w b os (a42 w.params os)) = some (a43 w.params os, thrA p w b os) ∧
    goW p (wF w) 37 (a43 w.params os) (thrA p w b os) = some (b43 w.params os, thrB p w b os (a43 w.params os)) ∧
    goW p (wT w) 37 (a43 w.params os) (thrA p w b os) = some (b43 w.params os, thrB p w b os (a43 w.params os)) ∧
    goW p w 519 (b43 w.params os) (thrB p w b os (a43 w.params os)) = some (a44 w.params os, thrA p w b os) ∧
    goW p (wF w) 37 (a44 w.params os) (thrA p w b os) = some (b44 w.params os, thrB p w b os (a44 w.params os)) ∧
    goW p (wT w) 37 (a44 w.params os) (thrA p w b os) = some (b44 w.params os, thrB p w b os (a44 w.params os)) ∧
    goW p w 498 (b44 w.params os) (thrB p w b os (a44 w.params os)) = some (a45 w.params os, thrA p w b os) ∧
    goW p (wF w) 37 (a45 w.params os) (thrA p w b os) = some (b45 w.params os, thrB p w b os (a45 w.params os)) ∧
    goW p (wT w) 37 (a45 w.params os) (thrA p w b os) = some (b45 w.params os, thrB p w b os (a45 w.params os)) ∧
    goW p w 512 (b45 w.params os) (thrB p w b os (a45 w.params os)) = some (a46 w.params os, thrA p w b os) ∧
    goW p (wF w) 37 (a46 w.params os) (thrA p w b os) = some (b46 w.params os, thrB p w b os (a46 w.params os)) ∧
    goW p (wT w) 37 (a46 w.params os) (thrA p w b os) = some (b46 w.params os, thrB p w b os (a46 w.params os)) ∧
    goW p w 512 (b46 w.params os) (thrB p w b os (a46 w.params os)) = some (a47 w.params os, thrA p w b os) ∧
    goW p (wF w) 37 (a47 w.params os) (thrA p w b os) = some (b47 w.params os, thrB p w b os (a47 w.params os)) ∧
    goW p (wT w) 37 (a47 w.params os) (thrA p w b os) = some (b47 w.params os, thrB p w b os (a47 w.params os)) ∧
    goW p w 526 (b47 w.params os) (thrB p w b os (a47 w.params os)) = some (a48 w.params os, thrA p w b os) :=
  ⟨by kernel_rfl, by kernel_rfl, by kernel_rfl, by kernel_rfl, by kernel_rfl, by kernel_rfl, by kernel_rfl, by kernel_rfl, by kernel_rfl, by kernel_rfl, by kernel_rfl, by kernel_rfl, by kernel_rfl, by kernel_rfl, by kernel_rfl, by kernel_rfl, by kernel_rfl, by kernel_rfl, by kernel_rfl, by kernel_rfl, by kernel_rfl, by kernel_rfl, by kernel_rfl, by kernel_rfl⟩
theorem g48 (p : Program) (w : World) (b : List Stmt) (os : OsState) :
    goW p (wF w) 37 (a48 w.params os) (thrA p w b os) = some (b48 w.params os, thrB p w b os (a48 w.params os)) ∧
    goW p (wT w) 37 (a48 w.params os) (thrA p w b os) = some (b48 w.params os, thrB p w b os (a48 w.params os)) ∧
    goW p w 491 (b48 w.params os) (thrB p w b os (a48 w.params os)) = some (a49 w.params os, thrA p w b os) ∧
    goW p (wF w) 37 (a49 w.params os) (thrA p w b os) = some (b49 w.params os, thrB p w b os (a49 w.params os)) ∧
    goW p (wT w) 37 (a49 w.params os) (thrA p w b os) = some (b49 w.params os, thrB p w b os (a49 w.params os)) ∧
    goW p w 505 (b49 w.params os) (thrB p w b os (a49 w.params os)) = some (a50 w.params os, thrA p w b os) ∧
    goW p (wF w) 37 (a50 w.params os) (thrA p w b os) = some (b50 w.params os, thrB p w b os (a50 w.params os)) ∧
    goW p (wT w) 37 (a50 w.params os) (thrA p w b os) = some (b50 w.params os, thrB p w b os (a50 w.params os)) ∧
    goW p w 505 (b50 w.params os) (thrB p w b os (a50 w.params os)) = some (a51 w.params os, thrA p w b os) ∧
    goW p (wF w) 37 (a51 w.params os) (thrA p w b os) = some (b51 w.params os, thrB p w b os (a51 w.params os)) ∧
    goW p (wT w) 37 (a51 w.params os) (thrA p w b os) = some (b51 w.params os, thrB p w b os (a51 w.params os)) ∧
    goW p w 519 (b51 w.params os) (thrB p w b os (a51 w.params os)) = some (a52 w.params os, thrA p w b os) ∧
    goW p (wF w) 37 (a52 w.params os) (thrA p w b os) = some (b52 w.params os, thrB p w b os (a52 w.params os)) ∧
    goW p (wT w) 37 (a52 w.params os) (thrA p w b os) = some (b52 w.params os, thrB p w b os (a52 w.params os)) ∧
    goW p w 498 (b52 w.params os) (thrB p w b os (a52 w.params os)) = some (a53 w.params os, thrA p w b os) ∧
    goW p (wF w) 37 (a53 w.params os) (thrA p w b os) = some (b53 w.params os, thrB p w b os (a53 w.params os)) ∧
    goW p (wT w) 37 (a53 w.params os) (thrA p w b os) = some (b53 w.params os, thrB p w b os (a53 w.params os)) ∧
    goW p w 512 (b53 w.params os) (thrB p w b os (a53 w.params os)) = some (a54 w.params os, thrA p w b os) ∧
    goW p (wF w) 37 (a54 w.params os) (thrA p w b os) = some (b54 w.params os, thrB p w b os (a54 w.params os)) ∧
    goW p (wT w) 37 (a54 w.params os) (thrA p w b os) = some (b54 w.params os, thrB p w b os (a54 w.params os)) ∧
    goW p w 512 (b54 w.params os) (thrB p w b os (a54 w.params os)) = some (a55 w.params os, thrA p w b os) ∧
    goW p (wF w) 37 (a55 w.params os) (thrA p w b os) = some (b55 w.params os, thrB p w b os (a55 w.params os)) ∧
    goW p (wT w) 37 (a55 w.params os) (thrA p w b os) = some (b55 w.params os, thrB p w b os (a55 w.params os)) ∧
    goW p w 526 (b55 w.params os) (thrB p w b os (a55 w.params os)) = some (a56 w.params os, thrA p w b os) :=
  ⟨by kernel_rfl, by kernel_rfl, by kernel_rfl, by kernel_rfl, by kernel_rfl, by kernel_rfl, by kernel_rfl, by kernel_rfl, by kernel_rfl, by kernel_rfl, by kernel_rfl, by kernel_rfl, by kernel_rfl, by kernel_rfl, by kernel_rfl, by kernel_rfl, by kernel_rfl, by kernel_rfl, by kernel_rfl, by kernel_rfl, by kernel_rfl, by kernel_rfl, by kernel_rfl, by kernel_rfl⟩
theorem g56 (p : Program) (w : World) (b : List Stmt) (os : OsState) :
    goW p (wF w) 37 (a56 w.params os) (thrA p w b os) = some (b56 w.params os, thrB p w b os (a56 w.params os)) ∧
    goW p (wT w) 37 (a56 w.params os) (thrA p w b os) = some (b56 w.params os, thrB p w b os (a56 w.params os)) ∧
    goW p w 498 (b56 w.params os) (thrB p w b os (a56 w.params os)) = some (a57 w.params os, thrA p w b os) ∧
    goW p (wF w) 37 (a57 w.params os) (thrA p w b os) = some (b57 w.params os, thrB p w b os (a57 w.params os)) ∧
    goW p (wT w) 37 (a57 w.params os) (thrA p w b os) = some (b57 w.params os, thrB p w b os (a57 w.params os)) ∧
    goW p w 512 (b57 w.params os) (thrB p w b os (a57 w.params os)) = some (a58 w.params os, thrA p w b os) ∧
    goW p (wF w) 37 (a58 w.params os) (thrA p w b os) = some (b58 w.params os, thrB p w b os (a58 w.params os)) ∧
    goW p (wT w) 37 (a58 w.params os) (thrA p w b os) = some (b58 w.params os, thrB p w b os (a58 w.params os)) ∧
    goW p w 512 (b58 w.params os) (thrB p w b os (a58 w.params os)) = some (a59 w.params os, thrA p w b os) ∧
    goW p (wF w) 37 (a59 w.params os) (thrA p w b os) = some (b59 w.params os, thrB p w b os (a59 w.params os)) ∧
    goW p (wT w) 37 (a59 w.params os) (thrA p w b os) = some (b59 w.params os, thrB p w b os (a59 w.params os)) ∧
    goW p w 526 (b59 w.params os) (thrB p w b os (a59 w.params os)) = some (a60 w.params os, thrA p w b os) ∧
    goW p (wF w) 37 (a60 w.params os) (thrA p w b os) = some (b60 w.params os, thrB p w b os (a60 w.params os)) ∧
    goW p (wT w) 37 (a60 w.params os) (thrA p w b os) = some (b60 w.params os, thrB p w b os (a60 w.params os)) ∧
    goW p w 505 (b60 w.params os) (thrB p w b os (a60 w.params os)) = some (a61 w.params os, thrA p w b os) ∧
    goW p (wF w) 37 (a61 w.params os) (thrA p w b os) = some (b61 w.params os, thrB p w b os (a61 w.params os)) ∧
    goW p (wT w) 37 (a61 w.params os) (thrA p w b os) = some (b61 w.params os, thrB p w b os (a61 w.params os)) ∧
    goW p w 519 (b61 w.params os) (thrB p w b os (a61 w.params os)) = some (a62 w.params os, thrA p w b os) ∧
    goW p (wF w) 37 (a62 w.params os) (thrA p w b os) = some (b62 w.params os, thrB p w b os (a62 w.params os)) ∧
    goW p (wT w) 37 (a62 w.params os) (thrA p w b os) = some (b62 w.params os, thrB p w b os (a62 w.params os)) ∧
    goW p w 519 (b62 w.params os) (thrB p w b os (a62 w.params os)) = some (a63 w.params os, thrA p w b os) ∧
    goW p (wF w) 37 (a63 w.params os) (thrA p w b os) = some (b63 w.params os, thrB p w b os (a63 w.params os)) ∧
    goW p (wT w) 37 (a63 w.params os) (thrA p w b os) = some (b63 w.params os, thrB p w b os (a63 w.params os)) ∧
    goW p w 533 (b63 w.params os) (thrB p w b os (a63 w.params os)) = some (a64 w.params os, thrA p w b os) :=
  ⟨by kernel_rfl, by kernel_rfl, by kernel_rfl, by kernel_rfl, by kernel_rfl, by kernel_rfl, by kernel_rfl, by kernel_rfl, by kernel_rfl, by kernel_rfl, by kernel_rfl, by kernel_rfl, by kernel_rfl, by kernel_rfl, by kernel_rfl, by kernel_rfl, by kernel_rfl, by kernel_rfl, by kernel_rfl, by kernel_rfl, by kernel_rfl, by kernel_rfl, by kernel_rfl, by kernel_rfl⟩
theorem g64 (p : Program) (w : World) (b : List Stmt) (os : OsState) :
    goW p (wF w) 37 (a64 w.params os) (thrA p w b os) = some (b64 w.params os, thrB p w b os (a64 w.params os)) ∧
    goW p (wT w) 37 (a64 w.params os) (thrA p w b os) = some (b64 w.params os, thrB p w b os (a64 w.params os)) ∧
    goW p w 485 (b64 w.params os) (thrB p w b os (a64 w.params os)) = some (a65 w.params os, thrA p w b os) ∧
    goW p (wF w) 37 (a65 w.params os) (thrA p w b os) = some (b65 w.params os, thrB p w b os (a65 w.params os)) ∧
    goW p (wT w) 37 (a65 w.params os) (thrA p w b os) = some (b65 w.params os, thrB p w b os (a65 w.params os)) ∧
    goW p w 484 (b65 w.params os) (thrB p w b os (a65 w.params os)) = some (a66 w.params os, thrA p w b os) ∧
    goW p (wF w) 37 (a66 w.params os) (thrA p w b os) = some (b66 w.params os, thrB p w b os (a66 w.params os)) ∧
    goW p (wT w) 37 (a66 w.params os) (thrA p w b os) = some (b66 w.params os, thrB p w b os (a66 w.params os)) ∧
    goW p w 498 (b66 w.params os) (thrB p w b os (a66 w.params os)) = some (a67 w.params os, thrA p w b os) ∧
    goW p (wF w) 37 (a67 w.params os) (thrA p w b os) = some (b67 w.params os, thrB p w b os (a67 w.params os)) ∧
    goW p (wT w) 37 (a67 w.params os) (thrA p w b os) = some (b67 w.params os, thrB p w b os (a67 w.params os)) ∧
    goW p w 498 (b67 w.params os) (thrB p w b os (a67 w.params os)) = some (a68 w.params os, thrA p w b os) ∧
    goW p (wF w) 37 (a68 w.params os) (thrA p w b os) = some (b68 w.params os, thrB p w b os (a68 w.params os)) ∧
    goW p (wT w) 37 (a68 w.params os) (thrA p w b os) = some (b68 w.params os, thrB p w b os (a68 w.params os)) ∧
    goW p w 491 (b68 w.params os) (thrB p w b os (a68 w.params os)) = some (a69 w.params os, thrA p w b os) ∧
    goW p (wF w) 37 (a69 w.params os) (thrA p w b os) = some (b69 w.params os, thrB p w b os (a69 w.params os)) ∧
    goW p (wT w) 37 (a69 w.params os) (thrA p w b os) = some (b69 w.params os, thrB p w b os (a69 w.params os)) ∧
    goW p w 491 (b69 w.params os) (thrB p w b os (a69 w.params os)) = some (a70 w.params os, thrA p w b os) ∧
    goW p (wF w) 37 (a70 w.params os) (thrA p w b os) = some (b70 w.params os, thrB p w b os (a70 w.params os)) ∧
    goW p (wT w) 37 (a70 w.params os) (thrA p w b os) = some (b70 w.params os, thrB p w b os (a70 w.params os)) ∧
    goW p w 505 (b70 w.params os) (thrB p w b os (a70 w.params os)) = some (a71 w.params os, thrA p w b os) ∧
    goW p (wF w) 37 (a71 w.params os) (thrA p w b os) = some (b71 w.params os, thrB p w b os (a71 w.params os)) ∧
    goW p (wT w) 37 (a71 w.params os) (thrA p w b os) = some (b71 w.params os, thrB p w b os (a71 w.params os)) ∧
    goW p w 505 (b71 w.params os) (thrB p w b os (a71 w.params os)) = some (a72 w.params os, thrA p w b os) :=
  ⟨by kernel_rfl, by kernel_rfl, by kernel_rfl, by kernel_rfl, by kernel_rfl, by kernel_rfl, by kernel_rfl, by kernel_rfl, by kernel_rfl, by kernel_rfl, by kernel_rfl, by kernel_rfl, by kernel_rfl, by kernel_rfl, by kernel_rfl, by kernel_rfl, by kernel_rfl, by kernel_rfl, by kernel_rfl, by kernel_rfl, by kernel_rfl, by kernel_rfl, by kernel_rfl, by kernel_rfl⟩
theorem g72 (p : Program) (w : World) (b : List Stmt) (os : OsState) :
    goW p (wF w) 37 (a72 w.params os) (thrA p w b os) = some (b72 w.params os, thrB p w b os (a72 w.params os)) ∧
    goW p (wT w) 37 (a72 w.params os) (thrA p w b os) = some (b72 w.params os, thrB p w b os (a72 w.params os)) ∧
    goW p w 491 (b72 w.params os) (thrB p w b os (a72 w.params os)) = some (a73 w.params os, thrA p w b os) ∧
    goW p (wF w) 37 (a73 w.params os) (thrA p w b os) = some (b73 w.params os, thrB p w b os (a73 w.params os)) ∧
    goW p (wT w) 37 (a73 w.params os) (thrA p w b os) = some (b73 w.params os, thrB p w b os (a73 w.params os)) ∧
    goW p w 491 (b73 w.params os) (thrB p w b os (a73 w.params os)) = some (a74 w.params os, thrA p w b os) ∧
    goW p (wF w) 37 (a74 w.params os) (thrA p w b os) = some (b74 w.params os, thrB p w b os (a74 w.params os)) ∧
    goW p (wT w) 37 (a74 w.params os) (thrA p w b os) = some (b74 w.params os, thrB p w b os (a74 w.params os)) ∧
    goW p w 505 (b74 w.params os) (thrB p w b os (a74 w.params os)) = some (a75 w.params os, thrA p w b os) ∧
    goW p (wF w) 37 (a75 w.params os) (thrA p w b os) = some (b75 w.params os, thrB p w b os (a75 w.params os)) ∧
    goW p (wT w) 37 (a75 w.params os) (thrA p w b os) = some (b75 w.params os, thrB p w b os (a75 w.params os)) ∧
    goW p w 505 (b75 w.params os) (thrB p w b os (a75 w.params os)) = some (a76 w.params os, thrA p w b os) ∧
    goW p (wF w) 37 (a76 w.params os) (thrA p w b os) = some (b76 w.params os, thrB p w b os (a76 w.params os)) ∧
    goW p (wT w) 37 (a76 w.params os) (thrA p w b os) = some (b76 w.params os, thrB p w b os (a76 w.params os)) ∧
    goW p w 498 (b76 w.params os) (thrB p w b os (a76 w.params os)) = some (a77 w.params os, thrA p w b os) ∧
    goW p (wF w) 37 (a77 w.params os) (thrA p w b os) = some (b77 w.params os, thrB p w b os (a77 w.params os)) ∧
    goW p (wT w) 37 (a77 w.params os) (thrA p w b os) = some (b77 w.params os, thrB p w b os (a77 w.params os)) ∧
    goW p w 498 (b77 w.params os) (thrB p w b os (a77 w.params os)) = some (a78 w.params os, thrA p w b os) ∧
    goW p (wF w) 37 (a78 w.params os) (thrA p w b os) = some (b78 w.params os, thrB p w b os (a78 w.params os)) ∧
    goW p (wT w) 37 (a78 w.params os) (thrA p w b os) = some (b78 w.params os, thrB p w b os (a78 w.params os)) ∧
    goW p w 512 (b78 w.params os) (thrB p w b os (a78 w.params os)) = some (a79 w.params os, thrA p w b os) ∧
    goW p (wF w) 37 (a79 w.params os) (thrA p w b os) = some (b79 w.params os, thrB p w b os (a79 w.params os)) ∧
    goW p (wT w) 37 (a79 w.params os) (thrA p w b os) = some (b79 w.params os, thrB p w b os (a79 w.params os)) ∧
    goW p w 512 (b79 w.params os) (thrB p w b os (a79 w.params os)) = some (a80 w.params os, thrA p w b os) :=
  ⟨by kernel_rfl, by kernel_rfl, by kernel_rfl, by kernel_rfl, by kernel_rfl, by kernel_rfl, by kernel_rfl, by kernel_rfl, by kernel_rfl, by kernel_rfl, by kernel_rfl, by kernel_rfl, by kernel_rfl, by kernel_rfl, by kernel_rfl, by kernel_rfl, by kernel_rfl, by kernel_rfl, by kernel_rfl, by kernel_rfl, by kernel_rfl, by kernel_rfl, by kernel_rfl, by kernel_rfl⟩
theorem g80 (p : Program) (w : World) (b : List Stmt) (os : OsState) :
    goW p (wF w) 37 (a80 w.params os) (thrA p w b os) = some (b80 w.params os, thrB p w b os (a80 w.params os)) ∧
    goW p (wT w) 37 (a80 w.params os) (thrA p w b os) = some (b80 w.params os, thrB p w b os (a80 w.params os)) ∧
    goW p w 491 (b80 w.params os) (thrB p w b os (a80 w.params os)) = some (a81 w.params os, thrA p w b os) ∧
    goW p (wF w) 37 (a81 w.params os) (thrA p w b os) = some (b81 w.params os, thrB p w b os (a81 w.params os)) ∧
    goW p (wT w) 37 (a81 w.params os) (thrA p w b os) = some (b81 w.params os, thrB p w b os (a81 w.params os)) ∧
    goW p w 491 (b81 w.params os) (thrB p w b os (a81 w.params os)) = some (a82 w.params os, thrA p w b os) ∧
    goW p (wF w) 37 (a82 w.params os) (thrA p w b os) = some (b82 w.params os, thrB p w b os (a82 w.params os)) ∧
    goW p (wT w) 37 (a82 w.params os) (thrA p w b os) = some (b82 w.params os, thrB p w b os (a82 w.params os)) ∧
    goW p w 505 (b82 w.params os) (thrB p w b os (a82 w.params os)) = some (a83 w.params os, thrA p w b os) ∧
    goW p (wF w) 37 (a83 w.params os) (thrA p w b os) = some (b83 w.params os, thrB p w b os (a83 w.params os)) ∧
    goW p (wT w) 37 (a83 w.params os) (thrA p w b os) = some (b83 w.params os, thrB p w b os (a83 w.params os)) ∧
    goW p w 505 (b83 w.params os) (thrB p w b os (a83 w.params os)) = some (a84 w.params os, thrA p w b os) ∧
    goW p (wF w) 37 (a84 w.params os) (thrA p w b os) = some (b84 w.params os, thrB p w b os (a84 w.params os)) ∧
    goW p (wT w) 37 (a84 w.params os) (thrA p w b os) = some (b84 w.params os, thrB p w b os (a84 w.params os)) ∧
    goW p w 498 (b84 w.params os) (thrB p w b os (a84 w.params os)) = some (a85 w.params os, thrA p w b os) ∧
    goW p (wF w) 37 (a85 w.params os) (thrA p w b os) = some (b85 w.params os, thrB p w b os (a85 w.params os)) ∧
    goW p (wT w) 37 (a85 w.params os) (thrA p w b os) = some (b85 w.params os, thrB p w b os (a85 w.params os)) ∧
    goW p w 498 (b85 w.params os) (thrB p w b os (a85 w.params os)) = some (a86 w.params os, thrA p w b os) ∧
    goW p (wF w) 37 (a86 w.params os) (thrA p w b os) = some (b86 w.params os, thrB p w b os (a86 w.params os)) ∧
    goW p (wT w) 37 (a86 w.params os) (thrA p w b os) = some (b86 w.params os, thrB p w b os (a86 w.params os)) ∧
    goW p w 512 (b86 w.params os) (thrB p w b os (a86 w.params os)) = some (a87 w.params os, thrA p w b os) ∧
    goW p (wF w) 37 (a87 w.params os) (thrA p w b os) = some (b87 w.params os, thrB p w b os (a87 w.params os)) ∧
    goW p (wT w) 37 (a87 w.params os) (thrA p w b os) = some (b87 w.params os, thrB p w b os (a87 w.params os)) ∧
    goW p w 512 (b87 w.params os) (thrB p w b os (a87 w.params os)) = some (a88 w.params os, thrA p w b os) :=
  ⟨by kernel_rfl, by kernel_rfl, by kernel_rfl, by kernel_rfl, by kernel_rfl, by kernel_rfl, by kernel_rfl, by kernel_rfl, by kernel_rfl, by kernel_rfl, by kernel_rfl, by kernel_rfl, by kernel_rfl, by kernel_rfl, by kernel_rfl, by kernel_rfl, by kernel_rfl, by kernel_rfl, by kernel_rfl, by kernel_rfl, by kernel_rfl, by kernel_rfl, by kernel_rfl, by kernel_rfl⟩
theorem g88 (p : Program) (w : World) (b : List Stmt) (os : OsState) :
    goW p (wF w) 37 (a88 w.params os) (thrA p w b os) = some (b88 w.params os, thrB p w b os (a88 w.params os)) ∧
    goW p (wT w) 37 (a88 w.params os) (thrA p w b os) = some (b88 w.params os, thrB p w b os (a88 w.params os)) ∧
    goW p w 498 (b88 w.params os) (thrB p w b os (a88 w.params os)) = some (a89 w.params os, thrA p w b os) ∧
    goW p (wF w) 37 (a89 w.params os) (thrA p w b os) = some (b89 w.params os, thrB p w b os (a89 w.params os)) ∧
    goW p (wT w) 37 (a89 w.params os) (thrA p w b os) = some (b89 w.params os, thrB p w b os (a89 w.params os)) ∧
    goW p w 498 (b89 w.params os) (thrB p w b os (a89 w.params os)) = some (a90 w.params os, thrA p w b os) ∧
    goW p (wF w) 37 (a90 w.params os) (thrA p w b os) = some (b90 w.params os, thrB p w b os (a90 w.params os)) ∧
    goW p (wT w) 37 (a90 w.params os) (thrA p w b os) = some (b90 w.params os, thrB p w b os (a90 w.params os)) ∧
    goW p w 512 (b90 w.params os) (thrB p w b os (a90 w.params os)) = some (a91 w.params os, thrA p w b os) ∧
    goW p (wF w) 37 (a91 w.params os) (thrA p w b os) = some (b91 w.params os, thrB p w b os (a91 w.params os)) ∧
    goW p (wT w) 37 (a91 w.params os) (thrA p w b os) = some (b91 w.params os, thrB p w b os (a91 w.params os)) ∧
    goW p w 512 (b91 w.params os) (thrB p w b os (a91 w.params os)) = some (a92 w.params os, thrA p w b os) ∧
    goW p (wF w) 37 (a92 w.params os) (thrA p w b os) = some (b92 w.params os, thrB p w b os (a92 w.params os)) ∧
    goW p (wT w) 37 (a92 w.params os) (thrA p w b os) = some (b92 w.params os, thrB p w b os (a92 w.params os)) ∧
    goW p w 505 (b92 w.params os) (thrB p w b os (a92 w.params os)) = some (a93 w.params os, thrA p w b os) ∧
    goW p (wF w) 37 (a93 w.params os) (thrA p w b os) = some (b93 w.params os, thrB p w b os (a93 w.params os)) ∧
    goW p (wT w) 37 (a93 w.params os) (thrA p w b os) = some (b93 w.params os, thrB p w b os (a93 w.params os)) ∧
    goW p w 505 (b93 w.params os) (thrB p w b os (a93 w.params os)) = some (a94 w.params os, thrA p w b os) ∧
    goW p (wF w) 37 (a94 w.params os) (thrA p w b os) = some (b94 w.params os, thrB p w b os (a94 w.params os)) ∧
    goW p (wT w) 37 (a94 w.params os) (thrA p w b os) = some (b94 w.params os, thrB p w b os (a94 w.params os)) ∧
    goW p w 519 (b94 w.params os) (thrB p w b os (a94 w.params os)) = some (a95 w.params os, thrA p w b os) ∧
    goW p (wF w) 37 (a95 w.params os) (thrA p w b os) = some (b95 w.params os, thrB p w b os (a95 w.params os)) ∧
    goW p (wT w) 37 (a95 w.params os) (thrA p w b os) = some (b95 w.params os, thrB p w b os (a95 w.params os)) ∧
    goW p w 519 (b95 w.params os) (thrB p w b os (a95 w.params os)) = some (a96 w.params os, thrA p w b os) :=
  ⟨by kernel_rfl, by kernel_rfl, by kernel_rfl, by kernel_rfl, by kernel_rfl, by kernel_rfl, by kernel_rfl, by kernel_rfl, by kernel_rfl, by kernel_rfl, by kernel_rfl, by kernel_rfl, by kernel_rfl, by kernel_rfl, by kernel_rfl, by kernel_rfl, by kernel_rfl, by kernel_rfl, by kernel_rfl, by kernel_rfl, by kernel_rfl, by kernel_rfl, by kernel_rfl, by kernel_rfl⟩
theorem g96 (p : Program) (w : World) (b : List Stmt) (os : OsState) :
    goW p (wF w) 37 (a96 w.params os) (thrA p w b os) = some (b96 w.params os, thrB p w b os (a96 w.params os)) ∧
    goW p (wT w) 37 (a96 w.params os) (thrA p w b os) = some (b96 w.params os, thrB p w b os (a96 w.params os)) ∧
    goW p w 491 (b96 w.params os) (thrB p w b os (a96 w.params os)) = some (a97 w.params os, thrA p w b os) ∧
    goW p (wF w) 37 (a97 w.params os) (thrA p w b os) = some (b97 w.params os, thrB p w b os (a97 w.params os)) ∧
    goW p (wT w) 37 (a97 w.params os) (thrA p w b os) = some (b97 w.params os, thrB p w b os (a97 w.params os)) ∧
    goW p w 491 (b97 w.params os) (thrB p w b os (a97 w.params os)) = some (a98 w.params os, thrA p w b os) ∧
    goW p (wF w) 37 (a98 w.params os) (thrA p w b os) = some (b98 w.params os, thrB p w b os (a98 w.params os)) ∧
    goW p (wT w) 37 (a98 w.params os) (thrA p w b os) = some (b98 w.params os, thrB p w b os (a98 w.params os)) ∧
    goW p w 505 (b98 w.params os) (thrB p w b os (a98 w.params os)) = some (a99 w.params os, thrA p w b os) ∧
    goW p (wF w) 37 (a99 w.params os) (thrA p w b os) = some (b99 w.params os, thrB p w b os (a99 w.params os)) ∧
    goW p (wT w) 37 (a99 w.params os) (thrA p w b os) = some (b99 w.params os, thrB p w b os (a99 w.params os)) ∧
    goW p w 505 (b99 w.params os) (thrB p w b os (a99 w.params os)) = some (a100 w.params os, thrA p w b os) ∧
    goW p (wF w) 37 (a100 w.params os) (thrA p w b os) = some (b100 w.params os, thrB p w b os (a100 w.params os)) ∧
    goW p (wT w) 37 (a100 w.params os) (thrA p w b os) = some (b100 w.params os, thrB p w b os (a100 w.params os)) ∧
    goW p w 498 (b100 w.params os) (thrB p w b os (a100 w.params os)) = some (a101 w.params os, thrA p w b os) ∧
    goW p (wF w) 37 (a101 w.params os) (thrA p w b os) = some (b101 w.params os, thrB p w b os (a101 w.params os)) ∧
    goW p (wT w) 37 (a101 w.params os) (thrA p w b os) = some (b101 w.params os, thrB p w b os (a101 w.params os)) ∧
    goW p w 498 (b101 w.params os) (thrB p w b os (a101 w.params os)) = some (a102 w.params os, thrA p w b os) ∧
    goW p (wF w) 37 (a102 w.params os) (thrA p w b os) = some (b102 w.params os, thrB p w b os (a102 w.params os)) ∧
    goW p (wT w) 37 (a102 w.params os) (thrA p w b os) = some (b102 w.params os, thrB p w b os (a102 w.params os)) ∧
    goW p w 512 (b102 w.params os) (thrB p w b os (a102 w.params os)) = some (a103 w.params os, thrA p w b os) ∧
    goW p (wF w) 37 (a103 w.params os) (thrA p w b os) = some (b103 w.params os, thrB p w b os (a103 w.params os)) ∧
    goW p (wT w) 37 (a103 w.params os) (thrA p w b os) = some (b103 w.params os, thrB p w b os (a103 w.params os)) ∧
    goW p w 512 (b103 w.params os) (thrB p w b os (a103 w.params os)) = some (a104 w.params os, thrA p w b os) :=
  ⟨by kernel_rfl, by kernel_rfl, by kernel_rfl, by kernel_rfl, by kernel_rfl, by kernel_rfl, by kernel_rfl, by kernel_rfl, by kernel_rfl, by kernel_rfl, by kernel_rfl, by kernel_rfl, by kernel_rfl, by kernel_rfl, by kernel_rfl, by kernel_rfl, by kernel_rfl, by kernel_rfl, by kernel_rfl, by kernel_rfl, by kernel_rfl, by kernel_rfl, by kernel_rfl, by kernel_rfl⟩
theorem g104 (p : Program) (w : World) (b : List Stmt) (os : OsState) :
    goW p (wF w) 37 (a104 w.params os) (thrA p w b os) = some (b104 w.params os, thrB p w b os (a104 w.params os)) ∧
    goW p (wT w) 37 (a104 w.params os) (thrA p w b os) = some (b104 w.params os, thrB p w b os (a104 w.params os)) ∧
    goW p w 498 (b104 w.params os) (thrB p w b os (a104 w.params os)) = some (a105 w.params os, thrA p w b os) ∧
    goW p (wF w) 37 (a105 w.params os) (thrA p w b os) = some (b105 w.params os, thrB p w b os (a105 w.params os)) ∧
    goW p (wT w) 37 (a105 w.params os) (thrA p w b os) = some (b105 w.params os, thrB p w b os (a105 w.params os)) ∧
    goW p w 498 (b105 w.params os) (thrB p w b os (a105 w.params os)) = some (a106 w.params os, thrA p w b os) ∧
    goW p (wF w) 37 (a106 w.params os) (thrA p w b os) = some (b106 w.params os, thrB p w b os (a106 w.params os)) ∧
    goW p (wT w) 37 (a106 w.params os) (thrA p w b os) = some (b106 w.params os, thrB p w b os (a106 w.params os)) ∧
    goW p w 512 (b106 w.params os) (thrB p w b os (a106 w.params os)) = some (a107 w.params os, thrA p w b os) ∧
    goW p (wF w) 37 (a107 w.params os) (thrA p w b os) = some (b107 w.params os, thrB p w b os (a107 w.params os)) ∧
    goW p (wT w) 37 (a107 w.params os) (thrA p w b os) = some (b107 w.params os, thrB p w b os (a107 w.params os)) ∧
    goW p w 512 (b107 w.params os) (thrB p w b os (a107 w.params os)) = some (a108 w.params os, thrA p w b os) ∧
    goW p (wF w) 37 (a108 w.params os) (thrA p w b os) = some (b108 w.params os, thrB p w b os (a108 w.params os)) ∧
    goW p (wT w) 37 (a108 w.params os) (thrA p w b os) = some (b108 w.params os, thrB p w b os (a108 w.params os)) ∧
    goW p w 505 (b108 w.params os) (thrB p w b os (a108 w.params os)) = some (a109 w.params os, thrA p w b os) ∧
    goW p (wF w) 37 (a109 w.params os) (thrA p w b os) = some (b109 w.params os, thrB p w b os (a109 w.params os)) ∧
    goW p (wT w) 37 (a109 w.params os) (thrA p w b os) = some (b109 w.params os, thrB p w b os (a109 w.params os)) ∧
    goW p w 505 (b109 w.params os) (thrB p w b os (a109 w.params os)) = some (a110 w.params os, thrA p w b os) ∧
    goW p (wF w) 37 (a110 w.params os) (thrA p w b os) = some (b110 w.params os, thrB p w b os (a110 w.params os)) ∧
    goW p (wT w) 37 (a110 w.params os) (thrA p w b os) = some (b110 w.params os, thrB p w b os (a110 w.params os)) ∧
    goW p w 519 (b110 w.params os) (thrB p w b os (a110 w.params os)) = some (a111 w.params os, thrA p w b os) ∧
    goW p (wF w) 37 (a111 w.params os) (thrA p w b os) = some (b111 w.params os, thrB p w b os (a111 w.params os)) ∧
    goW p (wT w) 37 (a111 w.params os) (thrA p w b os) = some (b111 w.params os, thrB p w b os (a111 w.params os)) ∧
    goW p w 519 (b111 w.params os) (thrB p w b os (a111 w.params os)) = some (a112 w.params os, thrA p w b os) :=
  ⟨by kernel_rfl, by kernel_rfl, by kernel_rfl, by kernel_rfl, by kernel_rfl, by kernel_rfl, by kernel_rfl, by kernel_rfl, by kernel_rfl, by kernel_rfl, by kernel_rfl, by kernel_rfl, by kernel_rfl, by kernel_rfl, by kernel_rfl, by kernel_rfl, by kernel_rfl, by kernel_rfl, by kernel_rfl, by kernel_rfl, by kernel_rfl, by kernel_rfl, by kernel_rfl, by kernel_rfl⟩
theorem g112 (p : Program) (w : World) (b : List Stmt) (os : OsState) :
    goW p (wF w) 37 (a112 w.params os) (thrA p w b os) = some (b112 w.params os, thrB p w b os (a112 w.params os)) ∧
    goW p (wT w) 37 (a112 w.params os) (thrA p w b os) = some (b112 w.params os, thrB p w b os (a112 w.params os)) ∧
    goW p w 498 (b112 w.params os) (thrB p w b os (a112 w.params os)) = some (a113 w.params os, thrA p w b os) ∧
    goW p (wF w) 37 (a113 w.params os) (thrA p w b os) = some (b113 w.params os, thrB p w b os (a113 w.params os)) ∧
    goW p (wT w) 37 (a113 w.params os) (thrA p w b os) = some (b113 w.params os, thrB p w b os (a113 w.params os)) ∧
    goW p w 498 (b113 w.params os) (thrB p w b os (a113 w.params os)) = some (a114 w.params os, thrA p w b os) ∧
    goW p (wF w) 37 (a114 w.params os) (thrA p w b os) = some (b114 w.params os, thrB p w b os (a114 w.params os)) ∧
    goW p (wT w) 37 (a114 w.params os) (thrA p w b os) = some (b114 w.params os, thrB p w b os (a114 w.params os)) ∧
    goW p w 512 (b114 w.params os) (thrB p w b os (a114 w.params os)) = some (a115 w.params os, thrA p w b os) ∧
    goW p (wF w) 37 (a115 w.params os) (thrA p w b os) = some (b115 w.params os, thrB p w b os (a115 w.params os)) ∧
    goW p (wT w) 37 (a115 w.params os) (thrA p w b os) = some (b115 w.params os, thrB p w b os (a115 w.params os)) ∧
    goW p w 512 (b115 w.params os) (thrB p w b os (a115 w.params os)) = some (a116 w.params os, thrA p w b os) ∧
    goW p (wF w) 37 (a116 w.params os) (thrA p w b os) = some (b116 w.params os, thrB p w b os (a116 w.params os)) ∧
    goW p (wT w) 37 (a116 w.params os) (thrA p w b os) = some (b116 w.params os, thrB p w b os (a116 w.params os)) ∧
    goW p w 505 (b116 w.params os) (thrB p w b os (a116 w.params os)) = some (a117 w.params os, thrA p w b os) ∧
    goW p (wF w) 37 (a117 w.params os) (thrA p w b os) = some (b117 w.params os, thrB p w b os (a117 w.params os)) ∧
    goW p (wT w) 37 (a117 w.params os) (thrA p w b os) = some (b117 w.params os, thrB p w b os (a117 w.params os)) ∧
    goW p w 505 (b117 w.params os) (thrB p w b os (a117 w.params os)) = some (a118 w.params os, thrA p w b os) ∧
    goW p (wF w) 37 (a118 w.params os) (thrA p w b os) = some (b118 w.params os, thrB p w b os (a118 w.params os)) ∧
    goW p (wT w) 37 (a118 w.params os) (thrA p w b os) = some (b118 w.params os, thrB p w b os (a118 w.params os)) ∧
    goW p w 519 (b118 w.params os) (thrB p w b os (a118 w.params os)) = some (a119 w.params os, thrA p w b os) ∧
    goW p (wF w) 37 (a119 w.params os) (thrA p w b os) = some (b119 w.params os, thrB p w b os (a119 w.params os)) ∧
    goW p (wT w) 37 (a119 w.params os) (thrA p w b os) = some (b119 w.params os, thrB p w b os (a119 w.params os)) ∧
    goW p w 519 (b119 w.params os) (thrB p w b os (a119 w.params os)) = some (a120 w.params os, thrA p w b os) :=
  ⟨by kernel_rfl, by kernel_rfl, by kernel_rfl, by kernel_rfl, by kernel_rfl, by kernel_rfl, by kernel_rfl, by kernel_rfl, by kernel_rfl, by kernel_rfl, by kernel_rfl, by kernel_rfl, by kernel_rfl, by kernel_rfl, by kernel_rfl, by kernel_rfl, by kernel_rfl, by kernel_rfl, by kernel_rfl, by kernel_rfl, by kernel_rfl, by kernel_rfl, by kernel_rfl, by kernel_rfl⟩
theorem g120 (p : Program) (w : World) (b : List Stmt) (os : OsState) :
    goW p (wF w) 37 (a120 w.params os) (thrA p w b os) = some (b120 w.params os, thrB p w b os (a120 w.params os)) ∧
    goW p (wT w) 37 (a120 w.params os) (thrA p w b os) = some (b120 w.params os, thrB p w b os (a120 w.params os)) ∧
    goW p w 505 (b120 w.params os) (thrB p w b os (a120 w.params os)) = some (a121 w.params os, thrA p w b os) ∧
    goW p (wF w) 37 (a121 w.params os) (thrA p w b os) = some (b121 w.params os, thrB p w b os (a121 w.params os)) ∧
    goW p (wT w) 37 (a121 w.params os) (thrA p w b os) = some (b121 w.params os, thrB p w b os (a121 w.params os)) ∧
    goW p w 505 (b121 w.params os) (thrB p w b os (a121 w.params os)) = some (a122 w.params os, thrA p w b os) ∧
    goW p (wF w) 37 (a122 w.params os) (thrA p w b os) = some (b122 w.params os, thrB p w b os (a122 w.params os)) ∧
    goW p (wT w) 37 (a122 w.params os) (thrA p w b os) = some (b122 w.params os, thrB p w b os (a122 w.params os)) ∧
    goW p w 519 (b122 w.params os) (thrB p w b os (a122 w.params os)) = some (a123 w.params os, thrA p w b os) ∧
    goW p (wF w) 37 (a123 w.params os) (thrA p w b os) = some (b123 w.params os, thrB p w b os (a123 w.params os)) ∧
    goW p (wT w) 37 (a123 w.params os) (thrA p w b os) = some (b123 w.params os, thrB p w b os (a123 w.params os)) ∧
    goW p w 519 (b123 w.params os) (thrB p w b os (a123 w.params os)) = some (a124 w.params os, thrA p w b os) ∧
    goW p (wF w) 37 (a124 w.params os) (thrA p w b os) = some (b124 w.params os, thrB p w b os (a124 w.params os)) ∧
    goW p (wT w) 37 (a124 w.params os) (thrA p w b os) = some (b124 w.params os, thrB p w b os (a124 w.params os)) ∧
    goW p w 512 (b124 w.params os) (thrB p w b os (a124 w.params os)) = some (a125 w.params os, thrA p w b os) ∧
    goW p (wF w) 37 (a125 w.params os) (thrA p w b os) = some (b125 w.params os, thrB p w b os (a125 w.params os)) ∧
    goW p (wT w) 37 (a125 w.params os) (thrA p w b os) = some (b125 w.params os, thrB p w b os (a125 w.params os)) ∧
    goW p w 512 (b125 w.params os) (thrB p w b os (a125 w.params os)) = some (a126 w.params os, thrA p w b os) ∧
    goW p (wF w) 37 (a126 w.params os) (thrA p w b os) = some (b126 w.params os, thrB p w b os (a126 w.params os)) ∧
    goW p (wT w) 37 (a126 w.params os) (thrA p w b os) = some (b126 w.params os, thrB p w b os (a126 w.params os)) ∧
    goW p w 526 (b126 w.params os) (thrB p w b os (a126 w.params os)) = some (a127 w.params os, thrA p w b os) ∧
    goW p (wF w) 37 (a127 w.params os) (thrA p w b os) = some (b127 w.params os, thrB p w b os (a127 w.params os)) ∧
    goW p (wT w) 37 (a127 w.params os) (thrA p w b os) = some (b127 w.params os, thrB p w b os (a127 w.params os)) ∧
    goW p w 526 (b127 w.params os) (thrB p w b os (a127 w.params os)) = some (a128 w.params os, thrA p w b os) :=
  ⟨by kernel_rfl, by kernel_rfl, by kernel_rfl, by kernel_rfl, by kernel_rfl, by kernel_rfl, by kernel_rfl, by kernel_rfl, by kernel_rfl, by kernel_rfl, by kernel_rfl, by kernel_rfl, by kernel_rfl, by kernel_rfl, by kernel_rfl, by kernel_rfl, by kernel_rfl, by kernel_rfl, by kernel_rfl, by kernel_rfl, by kernel_rfl, by kernel_rfl, by kernel_rfl, by kernel_rfl⟩
theorem g128 (p : Program) (w : World) (b : List Stmt) (os : OsState) :
    goW p (wF w) 37 (a128 w.params os) (thrA p w b os) = some (b128 w.params os, thrB p w b os (a128 w.params os)) ∧
    goW p (wT w) 37 (a128 w.params os) (thrA p w b os) = some (b128 w.params os, thrB p w b os (a128 w.params os)) ∧
    goW p w 485 (b128 w.params os) (thrB p w b os (a128 w.params os)) = some (a129 w.params os, thrA p w b os) ∧
    goW p (wF w) 37 (a129 w.params os) (thrA p w b os) = some (b129 w.params os, thrB p w b os (a129 w.params os)) ∧
    goW p (wT w) 37 (a129 w.params os) (thrA p w b os) = some (b129 w.params os, thrB p w b os (a129 w.params os)) ∧
    goW p w 498 (b129 w.params os) (thrB p w b os (a129 w.params os)) = some (a130 w.params os, thrA p w b os) ∧
    goW p (wF w) 37 (a130 w.params os) (thrA p w b os) = some (b130 w.params os, thrB p w b os (a130 w.params os)) ∧
    goW p (wT w) 37 (a130 w.params os) (thrA p w b os) = some (b130 w.params os, thrB p w b os (a130 w.params os)) ∧
    goW p w 484 (b130 w.params os) (thrB p w b os (a130 w.params os)) = some (a131 w.params os, thrA p w b os) ∧
    goW p (wF w) 37 (a131 w.params os) (thrA p w b os) = some (b131 w.params os, thrB p w b os (a131 w.params os)) ∧
    goW p (wT w) 37 (a131 w.params os) (thrA p w b os) = some (b131 w.params os, thrB p w b os (a131 w.params os)) ∧
    goW p w 498 (b131 w.params os) (thrB p w b os (a131 w.params os)) = some (a132 w.params os, thrA p w b os) ∧
    goW p (wF w) 37 (a132 w.params os) (thrA p w b os) = some (b132 w.params os, thrB p w b os (a132 w.params os)) ∧
    goW p (wT w) 37 (a132 w.params os) (thrA p w b os) = some (b132 w.params os, thrB p w b os (a132 w.params os)) ∧
    goW p w 491 (b132 w.params os) (thrB p w b os (a132 w.params os)) = some (a133 w.params os, thrA p w b os) ∧
    goW p (wF w) 37 (a133 w.params os) (thrA p w b os) = some (b133 w.params os, thrB p w b os (a133 w.params os)) ∧
    goW p (wT w) 37 (a133 w.params os) (thrA p w b os) = some (b133 w.params os, thrB p w b os (a133 w.params os)) ∧
    goW p w 505 (b133 w.params os) (thrB p w b os (a133 w.params os)) = some (a134 w.params os, thrA p w b os) ∧
    goW p (wF w) 37 (a134 w.params os) (thrA p w b os) = some (b134 w.params os, thrB p w b os (a134 w.params os)) ∧
    goW p (wT w) 37 (a134 w.params os) (thrA p w b os) = some (b134 w.params os, thrB p w b os (a134 w.params os)) ∧
    goW p w 491 (b134 w.params os) (thrB p w b os (a134 w.params os)) = some (a135 w.params os, thrA p w b os) ∧
    goW p (wF w) 37 (a135 w.params os) (thrA p w b os) = some (b135 w.params os, thrB p w b os (a135 w.params os)) ∧
    goW p (wT w) 37 (a135 w.params os) (thrA p w b os) = some (b135 w.params os, thrB p w b os (a135 w.params os)) ∧
    goW p w 505 (b135 w.params os) (thrB p w b os (a135 w.params os)) = some (a136 w.params os, thrA p w b os) :=
  ⟨by kernel_rfl, by kernel_rfl, by kernel_rfl, by kernel_rfl, by kernel_rfl, by kernel_rfl, by kernel_rfl, by kernel_rfl, by kernel_rfl, by kernel_rfl, by kernel_rfl, by kernel_rfl, by kernel_rfl, by kernel_rfl, by kernel_rfl, by kernel_rfl, by kernel_rfl, by kernel_rfl, by kernel_rfl, by kernel_rfl, by kernel_rfl, by kernel_rfl, by kernel_rfl, by kernel_rfl⟩
theorem g136 (p : Program) (w : World) (b : List Stmt) (os : OsState) :
    goW p (wF w) 37 (a136 w.params os) (thrA p w b os) = some (b136 w.params os, thrB p w b os (a136 w.params os)) ∧
    goW p (wT w) 37 (a136 w.params os) (thrA p w b os) = some (b136 w.params os, thrB p w b os (a136 w.params os)) ∧
    goW p w 491 (b136 w.params os) (thrB p w b os (a136 w.params os)) = some (a137 w.params os, thrA p w b os) ∧
    goW p (wF w) 37 (a137 w.params os) (thrA p w b os) = some (b137 w.params os, thrB p w b os (a137 w.params os)) ∧
    goW p (wT w) 37 (a137 w.params os) (thrA p w b os) = some (b137 w.params os, thrB p w b os (a137 w.params os)) ∧
    goW p w 505 (b137 w.params os) (thrB p w b os (a137 w.params os)) = some (a138 w.params os, thrA p w b os) ∧
    goW p (wF w) 37 (a138 w.params os) (thrA p w b os) = some (b138 w.params os, thrB p w b os (a138 w.params os)) ∧
    goW p (wT w) 37 (a138 w.params os) (thrA p w b os) = some (b138 w.params os, thrB p w b os (a138 w.params os)) ∧
    goW p w 491 (b138 w.params os) (thrB p w b os (a138 w.params os)) = some (a139 w.params os, thrA p w b os) ∧
    goW p (wF w) 37 (a139 w.params os) (thrA p w b os) = some (b139 w.params os, thrB p w b os (a139 w.params os)) ∧
    goW p (wT w) 37 (a139 w.params os) (thrA p w b os) = some (b139 w.params os, thrB p w b os (a139 w.params os)) ∧
    goW p w 505 (b139 w.params os) (thrB p w b os (a139 w.params os)) = some (a140 w.params os, thrA p w b os) ∧
    goW p (wF w) 37 (a140 w.params os) (thrA p w b os) = some (b140 w.params os, thrB p w b os (a140 w.params os)) ∧
    goW p (wT w) 37 (a140 w.params os) (thrA p w b os) = some (b140 w.params os, thrB p w b os (a140 w.params os)) ∧
    goW p w 498 (b140 w.params os) (thrB p w b os (a140 w.params os)) = some (a141 w.params os, thrA p w b os) ∧
    goW p (wF w) 37 (a141 w.params os) (thrA p w b os) = some (b141 w.params os, thrB p w b os (a141 w.params os)) ∧
    goW p (wT w) 37 (a141 w.params os) (thrA p w b os) = some (b141 w.params os, thrB p w b os (a141 w.params os)) ∧
    goW p w 512 (b141 w.params os) (thrB p w b os (a141 w.params os)) = some (a142 w.params os, thrA p w b os) ∧
    goW p (wF w) 37 (a142 w.params os) (thrA p w b os) = some (b142 w.params os, thrB p w b os (a142 w.params os)) ∧
    goW p (wT w) 37 (a142 w.params os) (thrA p w b os) = some (b142 w.params os, thrB p w b os (a142 w.params os)) ∧
    goW p w 498 (b142 w.params os) (thrB p w b os (a142 w.params os)) = some (a143 w.params os, thrA p w b os) ∧
    goW p (wF w) 37 (a143 w.params os) (thrA p w b os) = some (b143 w.params os, thrB p w b os (a143 w.params os)) ∧
    goW p (wT w) 37 (a143 w.params os) (thrA p w b os) = some (b143 w.params os, thrB p w b os (a143 w.params os)) ∧
    goW p w 512 (b143 w.params os) (thrB p w b os (a143 w.params os)) = some (a144 w.params os, thrA p w b os) :=
  ⟨by kernel_rfl, by kernel_rfl, by kernel_rfl, by kernel_rfl, by kernel_rfl, by kernel_rfl, by kernel_rfl, by kernel_rfl, by kernel_rfl, by kernel_rfl, by kernel_rfl, by kernel_rfl, by kernel_rfl, by kernel_rfl, by kernel_rfl, by kernel_rfl, by kernel_rfl, by kernel_rfl, by kernel_rfl, by kernel_rfl, by kernel_rfl, by kernel_rfl, by kernel_rfl, by kernel_rfl⟩
theorem g144 (p : Program) (w : World) (b : List Stmt) (os : OsState) :
    goW p (wF w) 37 (a144 w.params os) (thrA p w b os) = some (b144 w.params os, thrB p w b os (a144 w.params os)) ∧
    goW p (wT w) 37 (a144 w.params os) (thrA p w b os) = some (b144 w.params os, thrB p w b os (a144 w.params os)) ∧
    goW p w 491 (b144 w.params os) (thrB p w b os (a144 w.params os)) = some (a145 w.params os, thrA p w b os) ∧
    goW p (wF w) 37 (a145 w.params os) (thrA p w b os) = some (b145 w.params os, thrB p w b os (a145 w.params os)) ∧
    goW p (wT w) 37 (a145 w.params os) (thrA p w b os) = some (b145 w.params os, thrB p w b os (a145 w.params os)) ∧
    goW p w 505 (b145 w.params os) (thrB p w b os (a145 w.params os)) = some (a146 w.params os, thrA p w b os) ∧
    goW p (wF w) 37 (a146 w.params os) (thrA p w b os) = some (b146 w.params os, thrB p w b os (a146 w.params os)) ∧
    goW p (wT w) 37 (a146 w.params os) (thrA p w b os) = some (b146 w.params os, thrB p w b os (a146 w.params os)) ∧
    goW p w 491 (b146 w.params os) (thrB p w b os (a146 w.params os)) = some (a147 w.params os, thrA p w b os) ∧
    goW p (wF w) 37 (a147 w.params os) (thrA p w b os) = some (b147 w.params os, thrB p w b os (a147 w.params os)) ∧
    goW p (wT w) 37 (a147 w.params os) (thrA p w b os) = some (b147 w.params os, thrB p w b os (a147 w.params os)) ∧
    goW p w 505 (b147 w.params os) (thrB p w b os (a147 w.params os)) = some (a148 w.params os, thrA p w b os) ∧
    goW p (wF w) 37 (a148 w.params os) (thrA p w b os) = some (b148 w.params os, thrB p w b os (a148 w.params os)) ∧
    goW p (wT w) 37 (a148 w.params os) (thrA p w b os) = some (b148 w.params os, thrB p w b os (a148 w.params os)) ∧
    goW p w 498 (b148 w.params os) (thrB p w b os (a148 w.params os)) = some (a149 w.params os, thrA p w b os) ∧
    goW p (wF w) 37 (a149 w.params os) (thrA p w b os) = some (b149 w.params os, thrB p w b os (a149 w.params os)) ∧
    goW p (wT w) 37 (a149 w.params os) (thrA p w b os) = some (b149 w.params os, thrB p w b os (a149 w.params os)) ∧
    goW p w 512 (b149 w.params os) (thrB p w b os (a149 w.params os)) = some (a150 w.params os, thrA p w b os) ∧
    goW p (wF w) 37 (a150 w.params os) (thrA p w b os) = some (b150 w.params os, thrB p w b os (a150 w.params os)) ∧
    goW p (wT w) 37 (a150 w.params os) (thrA p w b os) = some (b150 w.params os, thrB p w b os (a150 w.params os)) ∧
    goW p w 498 (b150 w.params os) (thrB p w b os (a150 w.params os)) = some (a151 w.params os, thrA p w b os) ∧
    goW p (wF w) 37 (a151 w.params os) (thrA p w b os) = some (b151 w.params os, thrB p w b os (a151 w.params os)) ∧
    goW p (wT w) 37 (a151 w.params os) (thrA p w b os) = some (b151 w.params os, thrB p w b os (a151 w.params os)) ∧
    goW p w 512 (b151 w.params os) (thrB p w b os (a151 w.params os)) = some (a152 w.params os, thrA p w b os) :=
  ⟨by kernel_rfl, by kernel_rfl, by kernel_rfl, by kernel_rfl, by kernel_rfl, by kernel_rfl, by kernel_rfl, by kernel_rfl, by kernel_rfl, by kernel_rfl, by kernel_rfl, by kernel_rfl, by kernel_rfl, by kernel_rfl, by kernel_rfl, by kernel_rfl, by kernel_rfl, by kernel_rfl, by kernel_rfl, by kernel_rfl, by kernel_rfl, by kernel_rfl, by kernel_rfl, by kernel_rfl⟩
theorem g152 (p : Program) (w : World) (b : List Stmt) (os : OsState) :
    goW p (wF w) 37 (a152 w.params os) (thrA p w b os) = some (b152 w.params os, thrB p w b os (a152 w.params os)) ∧
    goW p (wT w) 37 (a152 w.params os) (thrA p w b os) = some (b152 w.params os, thrB p w b os (a152 w.params os)) ∧
    goW p w 498 (b152 w.params os) (thrB p w b os (a152 w.params os)) = some (a153 w.params os, thrA p w b os) ∧
    goW p (wF w) 37 (a153 w.params os) (thrA p w b os) = some (b153 w.params os, thrB p w b os (a153 w.params os)) ∧
    goW p (wT w) 37 (a153 w.params os) (thrA p w b os) = some (b153 w.params os, thrB p w b os (a153 w.params os)) ∧
    goW p w 512 (b153 w.params os) (thrB p w b os (a153 w.params os)) = some (a154 w.params os, thrA p w b os) ∧
    goW p (wF w) 37 (a154 w.params os) (thrA p w b os) = some (b154 w.params os, thrB p w b os (a154 w.params os)) ∧
    goW p (wT w) 37 (a154 w.params os) (thrA p w b os) = some (b154 w.params os, thrB p w b os (a154 w.params os)) ∧
    goW p w 498 (b154 w.params os) (thrB p w b os (a154 w.params os)) = some (a155 w.params os, thrA p w b os) ∧
    goW p (wF w) 37 (a155 w.params os) (thrA p w b os) = some (b155 w.params os, thrB p w b os (a155 w.params os)) ∧
    goW p (wT w) 37 (a155 w.params os) (thrA p w b os) = some (b155 w.params os, thrB p w b os (a155 w.params os)) ∧
    goW p w 512 (b155 w.params os) (thrB p w b os (a155 w.params os)) = some (a156 w.params os, thrA p w b os) ∧
    goW p (wF w) 37 (a156 w.params os) (thrA p w b os) = some (b156 w.params os, thrB p w b os (a156 w.params os)) ∧
    goW p (wT w) 37 (a156 w.params os) (thrA p w b os) = some (b156 w.params os, thrB p w b os (a156 w.params os)) ∧
    goW p w 505 (b156 w.params os) (thrB p w b os (a156 w.params os)) = some (a157 w.params os, thrA p w b os) ∧
    goW p (wF w) 37 (a157 w.params os) (thrA p w b os) = some (b157 w.params os, thrB p w b os (a157 w.params os)) ∧
    goW p (wT w) 37 (a157 w.params os) (thrA p w b os) = some (b157 w.params os, thrB p w b os (a157 w.params os)) ∧
    goW p w 519 (b157 w.params os) (thrB p w b os (a157 w.params os)) = some (a158 w.params os, thrA p w b os) ∧
    goW p (wF w) 37 (a158 w.params os) (thrA p w b os) = some (b158 w.params os, thrB p w b os (a158 w.params os)) ∧
    goW p (wT w) 37 (a158 w.params os) (thrA p w b os) = some (b158 w.params os, thrB p w b os (a158 w.params os)) ∧
    goW p w 505 (b158 w.params os) (thrB p w b os (a158 w.params os)) = some (a159 w.params os, thrA p w b os) ∧
    goW p (wF w) 37 (a159 w.params os) (thrA p w b os) = some (b159 w.params os, thrB p w b os (a159 w.params os)) ∧
    goW p (wT w) 37 (a159 w.params os) (thrA p w b os) = some (b159 w.params os, thrB p w b os (a159 w.params os)) ∧
    goW p w 519 (b159 w.params os) (thrB p w b os (a159 w.params os)) = some (a160 w.params os, thrA p w b os) :=
  ⟨by kernel_rfl, by kernel_rfl, by kernel_rfl, by kernel_rfl, by kernel_rfl, by kernel_rfl, by kernel_rfl, by kernel_rfl, by kernel_rfl, by kernel_rfl, by kernel_rfl, by kernel_rfl, by kernel_rfl, by kernel_rfl, by kernel_rfl, by kernel_rfl, by kernel_rfl, by kernel_rfl, by kernel_rfl, by kernel_rfl, by kernel_rfl, by kernel_rfl, by kernel_rfl, by kernel_rfl⟩
theorem g160 (p : Program) (w : World) (b : List Stmt) (os : OsState) :
    goW p (wF w) 37 (a160 w.params os) (thrA p w b os) = some (b160 w.params os, thrB p w b os (a160 w.params os)) ∧
    goW p (wT w) 37 (a160 w.params os) (thrA p w b os) = some (b160 w.params os, thrB p w b os (a160 w.params os)) ∧
    goW p w 491 (b160 w.params os) (thrB p w b os (a160 w.params os)) = some (a161 w.params os, thrA p w b os) ∧
    goW p (wF w) 37 (a161 w.params os) (thrA p w b os) = some (b161 w.params os, thrB p w b os (a161 w.params os)) ∧
    goW p (wT w) 37 (a161 w.params os) (thrA p w b os) = some (b161 w.params os, thrB p w b os (a161 w.params os)) ∧
    goW p w 505 (b161 w.params os) (thrB p w b os (a161 w.params os)) = some (a162 w.params os, thrA p w b os) ∧
    goW p (wF w) 37 (a162 w.params os) (thrA p w b os) = some (b162 w.params os, thrB p w b os (a162 w.params os)) ∧
    goW p (wT w) 37 (a162 w.params os) (thrA p w b os) = some (b162 w.params os, thrB p w b os (a162 w.params os)) ∧
    goW p w 491 (b162 w.params os) (thrB p w b os (a162 w.params os)) = some (a163 w.params os, thrA p w b os) ∧
    goW p (wF w) 37 (a163 w.params os) (thrA p w b os) = some (b163 w.params os, thrB p w b os (a163 w.params os)) ∧
    goW p (wT w) 37 (a163 w.params os) (thrA p w b os) = some (b163 w.params os, thrB p w b os (a163 w.params os)) ∧
    goW p w 505 (b163 w.params os) (thrB p w b os (a163 w.params os)) = some (a164 w.params os, thrA p w b os) ∧
    goW p (wF w) 37 (a164 w.params os) (thrA p w b os) = some (b164 w.params os, thrB p w b os (a164 w.params os)) ∧
    goW p (wT w) 37 (a164 w.params os) (thrA p w b os) = some (b164 w.params os, thrB p w b os (a164 w.params os)) ∧
    goW p w 498 (b164 w.params os) (thrB p w b os (a164 w.params os)) = some (a165 w.params os, thrA p w b os) ∧
    goW p (wF w) 37 (a165 w.params os) (thrA p w b os) = some (b165 w.params os, thrB p w b os (a165 w.params os)) ∧
    goW p (wT w) 37 (a165 w.params os) (thrA p w b os) = some (b165 w.params os, thrB p w b os (a165 w.params os)) ∧
    goW p w 512 (b165 w.params os) (thrB p w b os (a165 w.params os)) = some (a166 w.params os, thrA p w b os) ∧
    goW p (wF w) 37 (a166 w.params os) (thrA p w b os) = some (b166 w.params os, thrB p w b os (a166 w.params os)) ∧
    goW p (wT w) 37 (a166 w.params os) (thrA p w b os) = some (b166 w.params os, thrB p w b os (a166 w.params os)) ∧
    goW p w 498 (b166 w.params os) (thrB p w b os (a166 w.params os)) = some (a167 w.params os, thrA p w b os) ∧
    goW p (wF w) 37 (a167 w.params os) (thrA p w b os) = some (b167 w.params os, thrB p w b os (a167 w.params os)) ∧
    goW p (wT w) 37 (a167 w.params os) (thrA p w b os) = some (b167 w.params os, thrB p w b os (a167 w.params os)) ∧
    goW p w 512 (b167 w.params os) (thrB p w b os (a167 w.params os)) = some (a168 w.params os, thrA p w b os) :=
  ⟨by kernel_rfl, by kernel_rfl, by kernel_rfl, by kernel_rfl, by kernel_rfl, by kernel_rfl, by kernel_rfl, by kernel_rfl, by kernel_rfl, by kernel_rfl, by kernel_rfl, by kernel_rfl, by kernel_rfl, by kernel_rfl, by kernel_rfl, by kernel_rfl, by kernel_rfl, by kernel_rfl, by kernel_rfl, by kernel_rfl, by kernel_rfl, by kernel_rfl, by kernel_rfl, by kernel_rfl⟩
theorem g168 (p : Program) (w : World) (b : List Stmt) (os : OsState) :
    goW p (wF w) 37 (a168 w.params os) (thrA p w b os) = some (b168 w.params os, thrB p w b os (a168 w.params os)) ∧
    goW p (wT w) 37 (a168 w.params os) (thrA p w b os) = some (b168 w.params os, thrB p w b os (a168 w.params os)) ∧
    goW p w 498 (b168 w.params os) (thrB p w b os (a168 w.params os)) = some (a169 w.params os, thrA p w b os) ∧
    goW p (wF w) 37 (a169 w.params os) (thrA p w b os) = some (b169 w.params os, thrB p w b os (a169 w.params os)) ∧
    goW p (wT w) 37 (a169 w.params os) (thrA p w b os) = some (b169 w.params os, thrB p w b os (a169 w.params os)) ∧
    goW p w 512 (b169 w.params os) (thrB p w b os (a169 w.params os)) = some (a170 w.params os, thrA p w b os) ∧
    goW p (wF w) 37 (a170 w.params os) (thrA p w b os) = some (b170 w.params os, thrB p w b os (a170 w.params os)) ∧
    goW p (wT w) 37 (a170 w.params os) (thrA p w b os) = some (b170 w.params os, thrB p w b os (a170 w.params os)) ∧
    goW p w 498 (b170 w.params os) (thrB p w b os (a170 w.params os)) = some (a171 w.params os, thrA p w b os) ∧
    goW p (wF w) 37 (a171 w.params os) (thrA p w b os) = some (b171 w.params os, thrB p w b os (a171 w.params os)) ∧
    goW p (wT w) 37 (a171 w.params os) (thrA p w b os) = some (b171 w.params os, thrB p w b os (a171 w.params os)) ∧
    goW p w 512 (b171 w.params os) (thrB p w b os (a171 w.params os)) = some (a172 w.params os, thrA p w b os) ∧
    goW p (wF w) 37 (a172 w.params os) (thrA p w b os) = some (b172 w.params os, thrB p w b os (a172 w.params os)) ∧
    goW p (wT w) 37 (a172 w.params os) (thrA p w b os) = some (b172 w.params os, thrB p w b os (a172 w.params os)) ∧
    goW p w 505 (b172 w.params os) (thrB p w b os (a172 w.params os)) = some (a173 w.params os, thrA p w b os) ∧
    goW p (wF w) 37 (a173 w.params os) (thrA p w b os) = some (b173 w.params os, thrB p w b os (a173 w.params os)) ∧
    goW p (wT w) 37 (a173 w.params os) (thrA p w b os) = some (b173 w.params os, thrB p w b os (a173 w.params os)) ∧
    goW p w 519 (b173 w.params os) (thrB p w b os (a173 w.params os)) = some (a174 w.params os, thrA p w b os) ∧
    goW p (wF w) 37 (a174 w.params os) (thrA p w b os) = some (b174 w.params os, thrB p w b os (a174 w.params os)) ∧
    goW p (wT w) 37 (a174 w.params os) (thrA p w b os) = some (b174 w.params os, thrB p w b os (a174 w.params os)) ∧
    goW p w 505 (b174 w.params os) (thrB p w b os (a174 w.params os)) = some (a175 w.params os, thrA p w b os) ∧
    goW p (wF w) 37 (a175 w.params os) (thrA p w b os) = some (b175 w.params os, thrB p w b os (a175 w.params os)) ∧
    goW p (wT w) 37 (a175 w.params os) (thrA p w b os) = some (b175 w.params os, thrB p w b os (a175 w.params os)) ∧
    goW p w 519 (b175 w.params os) (thrB p w b os (a175 w.params os)) = some (a176 w.params os, thrA p w b os) :=
  ⟨by kernel_rfl, by kernel_rfl, by kernel_rfl, by kernel_rfl, by kernel_rfl, by kernel_rfl, by kernel_rfl, by kernel_rfl, by kernel_rfl, by kernel_rfl, by kernel_rfl, by kernel_rfl, by kernel_rfl, by kernel_rfl, by kernel_rfl, by kernel_rfl, by kernel_rfl, by kernel_rfl, by kernel_rfl, by kernel_rfl, by kernel_rfl, by kernel_rfl, by kernel_rfl, by kernel_rfl⟩
theorem g176 (p : Program) (w : World) (b : List Stmt) (os : OsState) :
    goW p (wF w) 37 (a176 w.params os) (thrA p w b os) = some (b176 w.params os, thrB p w b os (a176 w.params os)) ∧
    goW p (wT w) 37 (a176 w.params os) (thrA p w b os) = some (b176 w.params os, thrB p w b os (a176 w.params os)) ∧
    goW p w 498 (b176 w.params os) (thrB p w b os (a176 w.params os)) = some (a177 w.params os, thrA p w b os) ∧
    goW p (wF w) 37 (a177 w.params os) (thrA p w b os) = some (b177 w.params os, thrB p w b os (a177 w.params os)) ∧
    goW p (wT w) 37 (a177 w.params os) (thrA p w b os) = some (b177 w.params os, thrB p w b os (a177 w.params os)) ∧
    goW p w 512 (b177 w.params os) (thrB p w b os (a177 w.params os)) = some (a178 w.params os, thrA p w b os) ∧
    goW p (wF w) 37 (a178 w.params os) (thrA p w b os) = some (b178 w.params os, thrB p w b os (a178 w.params os)) ∧
    goW p (wT w) 37 (a178 w.params os) (thrA p w b os) = some (b178 w.params os, thrB p w b os (a178 w.params os)) ∧
    goW p w 498 (b178 w.params os) (thrB p w b os (a178 w.params os)) = some (a179 w.params os, thrA p w b os) ∧
    goW p (wF w) 37 (a179 w.params os) (thrA p w b os) = some (b179 w.params os, thrB p w b os (a179 w.params os)) ∧
    goW p (wT w) 37 (a179 w.params os) (thrA p w b os) = some (b179 w.params os, thrB p w b os (a179 w.params os)) ∧
    goW p w 512 (b179 w.params os) (thrB p w b os (a179 w.params os)) = some (a180 w.params os, thrA p w b os) ∧
    goW p (wF w) 37 (a180 w.params os) (thrA p w b os) = some (b180 w.params os, thrB p w b os (a180 w.params os)) ∧
    goW p (wT w) 37 (a180 w.params os) (thrA p w b os) = some (b180 w.params os, thrB p w b os (a180 w.params os)) ∧
    goW p w 505 (b180 w.params os) (thrB p w b os (a180 w.params os)) = some (a181 w.params os, thrA p w b os) ∧
    goW p (wF w) 37 (a181 w.params os) (thrA p w b os) = some (b181 w.params os, thrB p w b os (a181 w.params os)) ∧
    goW p (wT w) 37 (a181 w.params os) (thrA p w b os) = some (b181 w.params os, thrB p w b os (a181 w.params os)) ∧
    goW p w 519 (b181 w.params os) (thrB p w b os (a181 w.params os)) = some (a182 w.params os, thrA p w b os) ∧
    goW p (wF w) 37 (a182 w.params os) (thrA p w b os) = some (b182 w.params os, thrB p w b os (a182 w.params os)) ∧
    goW p (wT w) 37 (a182 w.params os) (thrA p w b os) = some (b182 w.params os, thrB p w b os (a182 w.params os)) ∧
    goW p w 505 (b182 w.params os) (thrB p w b os (a182 w.params os)) = some (a183 w.params os, thrA p w b os) ∧
    goW p (wF w) 37 (a183 w.params os) (thrA p w b os) = some (b183 w.params os, thrB p w b os (a183 w.params os)) ∧
    goW p (wT w) 37 (a183 w.params os) (thrA p w b os) = some (b183 w.params os, thrB p w b os (a183 w.params os)) ∧
    goW p w 519 (b183 w.params os) (thrB p w b os (a183 w.params os)) = some (a184 w.params os, thrA p w b os) :=
  ⟨by kernel_rfl, by kernel_rfl, by kernel_rfl, by kernel_rfl, by kernel_rfl, by kernel_rfl, by kernel_rfl, by kernel_rfl, by kernel_rfl, by kernel_rfl, by kernel_rfl, by kernel_rfl, by kernel_rfl, by kernel_rfl, by kernel_rfl, by kernel_rfl, by kernel_rfl, by kernel_rfl, by kernel_rfl, by kernel_rfl, by kernel_rfl, by kernel_rfl, by kernel_rfl, by kernel_rfl⟩
theorem g184 (p : Program) (w : World) (b : List Stmt) (os : OsState) :
    goW p (wF w) 37 (a184 w.params os) (thrA p w b os) = some (b184 w.params os, thrB p w b os (a184 w.params os)) ∧
    goW p (wT w) 37 (a184 w.params os) (thrA p w b os) = some (b184 w.params os, thrB p w b os (a184 w.params os)) ∧
    goW p w 505 (b184 w.params os) (thrB p w b os (a184 w.params os)) = some (a185 w.params os, thrA p w b os) ∧
    goW p (wF w) 37 (a185 w.params os) (thrA p w b os) = some (b185 w.params os, thrB p w b os (a185 w.params os)) ∧
    goW p (wT w) 37 (a185 w.params os) (thrA p w b os) = some (b185 w.params os, thrB p w b os (a185 w.params os)) ∧
    goW p w 519 (b185 w.params os) (thrB p w b os (a185 w.params os)) = some (a186 w.params os, thrA p w b os) ∧
    goW p (wF w) 37 (a186 w.params os) (thrA p w b os) = some (b186 w.params os, thrB p w b os (a186 w.params os)) ∧
    goW p (wT w) 37 (a186 w.params os) (thrA p w b os) = some (b186 w.params os, thrB p w b os (a186 w.params os)) ∧
    goW p w 505 (b186 w.params os) (thrB p w b os (a186 w.params os)) = some (a187 w.params os, thrA p w b os) ∧
    goW p (wF w) 37 (a187 w.params os) (thrA p w b os) = some (b187 w.params os, thrB p w b os (a187 w.params os)) ∧
    goW p (wT w) 37 (a187 w.params os) (thrA p w b os) = some (b187 w.params os, thrB p w b os (a187 w.params os)) ∧
    goW p w 519 (b187 w.params os) (thrB p w b os (a187 w.params os)) = some (a188 w.params os, thrA p w b os) ∧
    goW p (wF w) 37 (a188 w.params os) (thrA p w b os) = some (b188 w.params os, thrB p w b os (a188 w.params os)) ∧
    goW p (wT w) 37 (a188 w.params os) (thrA p w b os) = some (b188 w.params os, thrB p w b os (a188 w.params os)) ∧
    goW p w 512 (b188 w.params os) (thrB p w b os (a188 w.params os)) = some (a189 w.params os, thrA p w b os) ∧
    goW p (wF w) 37 (a189 w.params os) (thrA p w b os) = some (b189 w.params os, thrB p w b os (a189 w.params os)) ∧
    goW p (wT w) 37 (a189 w.params os) (thrA p w b os) = some (b189 w.params os, thrB p w b os (a189 w.params os)) ∧
    goW p w 526 (b189 w.params os) (thrB p w b os (a189 w.params os)) = some (a190 w.params os, thrA p w b os) ∧
    goW p (wF w) 37 (a190 w.params os) (thrA p w b os) = some (b190 w.params os, thrB p w b os (a190 w.params os)) ∧
    goW p (wT w) 37 (a190 w.params os) (thrA p w b os) = some (b190 w.params os, thrB p w b os (a190 w.params os)) ∧
    goW p w 512 (b190 w.params os) (thrB p w b os (a190 w.params os)) = some (a191 w.params os, thrA p w b os) ∧
    goW p (wF w) 37 (a191 w.params os) (thrA p w b os) = some (b191 w.params os, thrB p w b os (a191 w.params os)) ∧
    goW p (wT w) 37 (a191 w.params os) (thrA p w b os) = some (b191 w.params os, thrB p w b os (a191 w.params os)) ∧
    goW p w 526 (b191 w.params os) (thrB p w b os (a191 w.params os)) = some (a192 w.params os, thrA p w b os) :=
  ⟨by kernel_rfl, by kernel_rfl, by kernel_rfl, by kernel_rfl, by kernel_rfl, by kernel_rfl, by kernel_rfl, by kernel_rfl, by kernel_rfl, by kernel_rfl, by kernel_rfl, by kernel_rfl, by kernel_rfl, by kernel_rfl, by kernel_rfl, by kernel_rfl, by kernel_rfl, by kernel_rfl, by kernel_rfl, by kernel_rfl, by kernel_rfl, by kernel_rfl, by kernel_rfl, by kernel_rfl⟩
theorem g192 (p : Program) (w : World) (b : List Stmt) (os : OsState) :
    goW p (wF w) 37 (a192 w.params os) (thrA p w b os) = some (b192 w.params os, thrB p w b os (a192 w.params os)) ∧
    goW p (wT w) 37 (a192 w.params os) (thrA p w b os) = some (b192 w.params os, thrB p w b os (a192 w.params os)) ∧
    goW p w 491 (b192 w.params os) (thrB p w b os (a192 w.params os)) = some (a193 w.params os, thrA p w b os) ∧
    goW p (wF w) 37 (a193 w.params os) (thrA p w b os) = some (b193 w.params os, thrB p w b os (a193 w.params os)) ∧
    goW p (wT w) 37 (a193 w.params os) (thrA p w b os) = some (b193 w.params os, thrB p w b os (a193 w.params os)) ∧
    goW p w 491 (b193 w.params os) (thrB p w b os (a193 w.params os)) = some (a194 w.params os, thrA p w b os) ∧
    goW p (wF w) 37 (a194 w.params os) (thrA p w b os) = some (b194 w.params os, thrB p w b os (a194 w.params os)) ∧
    goW p (wT w) 37 (a194 w.params os) (thrA p w b os) = some (b194 w.params os, thrB p w b os (a194 w.params os)) ∧
    goW p w 491 (b194 w.params os) (thrB p w b os (a194 w.params os)) = some (a195 w.params os, thrA p w b os) ∧
    goW p (wF w) 37 (a195 w.params os) (thrA p w b os) = some (b195 w.params os, thrB p w b os (a195 w.params os)) ∧
    goW p (wT w) 37 (a195 w.params os) (thrA p w b os) = some (b195 w.params os, thrB p w b os (a195 w.params os)) ∧
    goW p w 491 (b195 w.params os) (thrB p w b os (a195 w.params os)) = some (a196 w.params os, thrA p w b os) ∧
    goW p (wF w) 37 (a196 w.params os) (thrA p w b os) = some (b196 w.params os, thrB p w b os (a196 w.params os)) ∧
    goW p (wT w) 37 (a196 w.params os) (thrA p w b os) = some (b196 w.params os, thrB p w b os (a196 w.params os)) ∧
    goW p w 498 (b196 w.params os) (thrB p w b os (a196 w.params os)) = some (a197 w.params os, thrA p w b os) ∧
    goW p (wF w) 37 (a197 w.params os) (thrA p w b os) = some (b197 w.params os, thrB p w b os (a197 w.params os)) ∧
    goW p (wT w) 37 (a197 w.params os) (thrA p w b os) = some (b197 w.params os, thrB p w b os (a197 w.params os)) ∧
    goW p w 498 (b197 w.params os) (thrB p w b os (a197 w.params os)) = some (a198 w.params os, thrA p w b os) ∧
    goW p (wF w) 37 (a198 w.params os) (thrA p w b os) = some (b198 w.params os, thrB p w b os (a198 w.params os)) ∧
    goW p (wT w) 37 (a198 w.params os) (thrA p w b os) = some (b198 w.params os, thrB p w b os (a198 w.params os)) ∧
    goW p w 498 (b198 w.params os) (thrB p w b os (a198 w.params os)) = some (a199 w.params os, thrA p w b os) ∧
    goW p (wF w) 37 (a199 w.params os) (thrA p w b os) = some (b199 w.params os, thrB p w b os (a199 w.params os)) ∧
    goW p (wT w) 37 (a199 w.params os) (thrA p w b os) = some (b199 w.params os, thrB p w b os (a199 w.params os)) ∧
    goW p w 498 (b199 w.params os) (thrB p w b os (a199 w.params os)) = some (a200 w.params os, thrA p w b os) :=
  ⟨by kernel_rfl, by kernel_rfl, by kernel_rfl, by kernel_rfl, by kernel_rfl, by kernel_rfl, by kernel_rfl, by kernel_rfl, by kernel_rfl, by kernel_rfl, by kernel_rfl, by kernel_rfl, by kernel_rfl, by kernel_rfl, by kernel_rfl, by kernel_rfl, by kernel_rfl, by kernel_rfl, by kernel_rfl, by kernel_rfl, by kernel_rfl, by kernel_rfl, by kernel_rfl, by kernel_rfl⟩
theorem g200 (p : Program) (w : World) (b : List Stmt) (os : OsState) :
    goW p (wF w) 37 (a200 w.params os) (thrA p w b os) = some (b200 w.params os, thrB p w b os (a200 w.params os)) ∧
    goW p (wT w) 37 (a200 w.params os) (thrA p w b os) = some (b200 w.params os, thrB p w b os (a200 w.params os)) ∧
    goW p w 498 (b200 w.params os) (thrB p w b os (a200 w.params os)) = some (a201 w.params os, thrA p w b os) ∧
    goW p (wF w) 37 (a201 w.params os) (thrA p w b os) = some (b201 w.params os, thrB p w b os (a201 w.params os)) ∧
    goW p (wT w) 37 (a201 w.params os) (thrA p w b os) = some (b201 w.params os, thrB p w b os (a201 w.params os)) ∧
    goW p w 498 (b201 w.params os) (thrB p w b os (a201 w.params os)) = some (a202 w.params os, thrA p w b os) ∧
    goW p (wF w) 37 (a202 w.params os) (thrA p w b os) = some (b202 w.params os, thrB p w b os (a202 w.params os)) ∧
    goW p (wT w) 37 (a202 w.params os) (thrA p w b os) = some (b202 w.params os, thrB p w b os (a202 w.params os)) ∧
    goW p w 498 (b202 w.params os) (thrB p w b os (a202 w.params os)) = some (a203 w.params os, thrA p w b os) ∧
    goW p (wF w) 37 (a203 w.params os) (thrA p w b os) = some (b203 w.params os, thrB p w b os (a203 w.params os)) ∧
    goW p (wT w) 37 (a203 w.params os) (thrA p w b os) = some (b203 w.params os, thrB p w b os (a203 w.params os)) ∧
    goW p w 498 (b203 w.params os) (thrB p w b os (a203 w.params os)) = some (a204 w.params os, thrA p w b os) ∧
    goW p (wF w) 37 (a204 w.params os) (thrA p w b os) = some (b204 w.params os, thrB p w b os (a204 w.params os)) ∧
    goW p (wT w) 37 (a204 w.params os) (thrA p w b os) = some (b204 w.params os, thrB p w b os (a204 w.params os)) ∧
    goW p w 505 (b204 w.params os) (thrB p w b os (a204 w.params os)) = some (a205 w.params os, thrA p w b os) ∧
    goW p (wF w) 37 (a205 w.params os) (thrA p w b os) = some (b205 w.params os, thrB p w b os (a205 w.params os)) ∧
    goW p (wT w) 37 (a205 w.params os) (thrA p w b os) = some (b205 w.params os, thrB p w b os (a205 w.params os)) ∧
    goW p w 505 (b205 w.params os) (thrB p w b os (a205 w.params os)) = some (a206 w.params os, thrA p w b os) ∧
    goW p (wF w) 37 (a206 w.params os) (thrA p w b os) = some (b206 w.params os, thrB p w b os (a206 w.params os)) ∧
    goW p (wT w) 37 (a206 w.params os) (thrA p w b os) = some (b206 w.params os, thrB p w b os (a206 w.params os)) ∧
    goW p w 505 (b206 w.params os) (thrB p w b os (a206 w.params os)) = some (a207 w.params os, thrA p w b os) ∧
    goW p (wF w) 37 (a207 w.params os) (thrA p w b os) = some (b207 w.params os, thrB p w b os (a207 w.params os)) ∧
    goW p (wT w) 37 (a207 w.params os) (thrA p w b os) = some (b207 w.params os, thrB p w b os (a207 w.params os)) ∧
    goW p w 505 (b207 w.params os) (thrB p w b os (a207 w.params os)) = some (a208 w.params os, thrA p w b os) :=
  ⟨by kernel_rfl, by kernel_rfl, by kernel_rfl, by kernel_rfl, by kernel_rfl, by kernel_rfl, by kernel_rfl, by kernel_rfl, by kernel_rfl, by kernel_rfl, by kernel_rfl, by kernel_rfl, by kernel_rfl, by kernel_rfl, by kernel_rfl, by kernel_rfl, by kernel_rfl, by kernel_rfl, by kernel_rfl, by kernel_rfl, by kernel_rfl, by kernel_rfl, by kernel_rfl, by kernel_rfl⟩
theorem g208 (p : Program) (w : World) (b : List Stmt) (os : OsState) :
    goW p (wF w) 37 (a208 w.params os) (thrA p w b os) = some (b208 w.params os, thrB p w b os (a208 w.params os)) ∧
    goW p (wT w) 37 (a208 w.params os) (thrA p w b os) = some (b208 w.params os, thrB p w b os (a208 w.params os)) ∧
    goW p w 498 (b208 w.params os) (thrB p w b os (a208 w.params os)) = some (a209 w.params os, thrA p w b os) ∧
    goW p (wF w) 37 (a209 w.params os) (thrA p w b os) = some (b209 w.params os, thrB p w b os (a209 w.params os)) ∧
    goW p (wT w) 37 (a209 w.params os) (thrA p w b os) = some (b209 w.params os, thrB p w b os (a209 w.params os)) ∧
    goW p w 498 (b209 w.params os) (thrB p w b os (a209 w.params os)) = some (a210 w.params os, thrA p w b os) ∧
    goW p (wF w) 37 (a210 w.params os) (thrA p w b os) = some (b210 w.params os, thrB p w b os (a210 w.params os)) ∧
    goW p (wT w) 37 (a210 w.params os) (thrA p w b os) = some (b210 w.params os, thrB p w b os (a210 w.params os)) ∧
    goW p w 498 (b210 w.params os) (thrB p w b os (a210 w.params os)) = some (a211 w.params os, thrA p w b os) ∧
    goW p (wF w) 37 (a211 w.params os) (thrA p w b os) = some (b211 w.params os, thrB p w b os (a211 w.params os)) ∧
    goW p (wT w) 37 (a211 w.params os) (thrA p w b os) = some (b211 w.params os, thrB p w b os (a211 w.params os)) ∧
    goW p w 498 (b211 w.params os) (thrB p w b os (a211 w.params os)) = some (a212 w.params os, thrA p w b os) ∧
    goW p (wF w) 37 (a212 w.params os) (thrA p w b os) = some (b212 w.params os, thrB p w b os (a212 w.params os)) ∧
    goW p (wT w) 37 (a212 w.params os) (thrA p w b os) = some (b212 w.params os, thrB p w b os (a212 w.params os)) ∧
    goW p w 505 (b212 w.params os) (thrB p w b os (a212 w.params os)) = some (a213 w.params os, thrA p w b os) ∧
    goW p (wF w) 37 (a213 w.params os) (thrA p w b os) = some (b213 w.params os, thrB p w b os (a213 w.params os)) ∧
    goW p (wT w) 37 (a213 w.params os) (thrA p w b os) = some (b213 w.params os, thrB p w b os (a213 w.params os)) ∧
    goW p w 505 (b213 w.params os) (thrB p w b os (a213 w.params os)) = some (a214 w.params os, thrA p w b os) ∧
    goW p (wF w) 37 (a214 w.params os) (thrA p w b os) = some (b214 w.params os, thrB p w b os (a214 w.params os)) ∧
    goW p (wT w) 37 (a214 w.params os) (thrA p w b os) = some (b214 w.params os, thrB p w b os (a214 w.params os)) ∧
    goW p w 505 (b214 w.params os) (thrB p w b os (a214 w.params os)) = some (a215 w.params os, thrA p w b os) ∧
    goW p (wF w) 37 (a215 w.params os) (thrA p w b os) = some (b215 w.params os, thrB p w b os (a215 w.params os)) ∧
    goW p (wT w) 37 (a215 w.params os) (thrA p w b os) = some (b215 w.params os, thrB p w b os (a215 w.params os)) ∧
    goW p w 505 (b215 w.params os) (thrB p w b os (a215 w.params os)) = some (a216 w.params os, thrA p w b os) :=
  ⟨by kernel_rfl, by kernel_rfl, by kernel_rfl, by kernel_rfl, by kernel_rfl, by kernel_rfl, by kernel_rfl, by kernel_rfl, by kernel_rfl, by kernel_rfl, by kernel_rfl, by kernel_rfl, by kernel_rfl, by kernel_rfl, by kernel_rfl, by kernel_rfl, by kernel_rfl, by kernel_rfl, by kernel_rfl, by kernel_rfl, by kernel_rfl, by kernel_rfl, by kernel_rfl, by kernel_rfl⟩
theorem g216 (p : Program) (w : World) (b : List Stmt) (os : OsState) :
    goW p (wF w) 37 (a216 w.params os) (thrA p w b os) = some (b216 w.params os, thrB p w b os (a216 w.params os)) ∧
    goW p (wT w) 37 (a216 w.params os) (thrA p w b os) = some (b216 w.params os, thrB p w b os (a216 w.params os)) ∧
    goW p w 505 (b216 w.params os) (thrB p w b os (a216 w.params os)) = some (a217 w.params os, thrA p w b os) ∧
    goW p (wF w) 37 (a217 w.params os) (thrA p w b os) = some (b217 w.params os, thrB p w b os (a217 w.params os)) ∧
    goW p (wT w) 37 (a217 w.params os) (thrA p w b os) = some (b217 w.params os, thrB p w b os (a217 w.params os)) ∧
    goW p w 505 (b217 w.params os) (thrB p w b os (a217 w.params os)) = some (a218 w.params os, thrA p w b os) ∧
    goW p (wF w) 37 (a218 w.params os) (thrA p w b os) = some (b218 w.params os, thrB p w b os (a218 w.params os)) ∧
    goW p (wT w) 37 (a218 w.params os) (thrA p w b os) = some (b218 w.params os, thrB p w b os (a218 w.params os)) ∧
    goW p w 505 (b218 w.params os) (thrB p w b os (a218 w.params os)) = some (a219 w.params os, thrA p w b os) ∧
    goW p (wF w) 37 (a219 w.params os) (thrA p w b os) = some (b219 w.params os, thrB p w b os (a219 w.params os)) ∧
    goW p (wT w) 37 (a219 w.params os) (thrA p w b os) = some (b219 w.params os, thrB p w b os (a219 w.params os)) ∧
    goW p w 505 (b219 w.params os) (thrB p w b os (a219 w.params os)) = some (a220 w.params os, thrA p w b os) ∧
    goW p (wF w) 37 (a220 w.params os) (thrA p w b os) = some (b220 w.params os, thrB p w b os (a220 w.params os)) ∧
    goW p (wT w) 37 (a220 w.params os) (thrA p w b os) = some (b220 w.params os, thrB p w b os (a220 w.params os)) ∧
    goW p w 512 (b220 w.params os) (thrB p w b os (a220 w.params os)) = some (a221 w.params os, thrA p w b os) ∧
    goW p (wF w) 37 (a221 w.params os) (thrA p w b os) = some (b221 w.params os, thrB p w b os (a221 w.params os)) ∧
    goW p (wT w) 37 (a221 w.params os) (thrA p w b os) = some (b221 w.params os, thrB p w b os (a221 w.params os)) ∧
    goW p w 512 (b221 w.params os) (thrB p w b os (a221 w.params os)) = some (a222 w.params os, thrA p w b os) ∧
    goW p (wF w) 37 (a222 w.params os) (thrA p w b os) = some (b222 w.params os, thrB p w b os (a222 w.params os)) ∧
    goW p (wT w) 37 (a222 w.params os) (thrA p w b os) = some (b222 w.params os, thrB p w b os (a222 w.params os)) ∧
    goW p w 512 (b222 w.params os) (thrB p w b os (a222 w.params os)) = some (a223 w.params os, thrA p w b os) ∧
    goW p (wF w) 37 (a223 w.params os) (thrA p w b os) = some (b223 w.params os, thrB p w b os (a223 w.params os)) ∧
    goW p (wT w) 37 (a223 w.params os) (thrA p w b os) = some (b223 w.params os, thrB p w b os (a223 w.params os)) ∧
    goW p w 512 (b223 w.params os) (thrB p w b os (a223 w.params os)) = some (a224 w.params os, thrA p w b os) :=
  ⟨by kernel_rfl, by kernel_rfl, by kernel_rfl, by kernel_rfl, by kernel_rfl, by kernel_rfl, by kernel_rfl, by kernel_rfl, by kernel_rfl, by kernel_rfl, by kernel_rfl, by kernel_rfl, by kernel_rfl, by kernel_rfl, by kernel_rfl, by kernel_rfl, by kernel_rfl, by kernel_rfl, by kernel_rfl, by kernel_rfl, by kernel_rfl, by kernel_rfl, by kernel_rfl, by kernel_rfl⟩
theorem g224 (p : Program) (w : World) (b : List Stmt) (os : OsState) :
    goW p (wF w) 37 (a224 w.params os) (thrA p w b os) = some (b224 w.params os, thrB p w b os (a224 w.params os)) ∧
    goW p (wT w) 37 (a224 w.params os) (thrA p w b os) = some (b224 w.params os, thrB p w b os (a224 w.params os)) ∧
    goW p w 498 (b224 w.params os) (thrB p w b os (a224 w.params os)) = some (a225 w.params os, thrA p w b os) ∧
    goW p (wF w) 37 (a225 w.params os) (thrA p w b os) = some (b225 w.params os, thrB p w b os (a225 w.params os)) ∧
    goW p (wT w) 37 (a225 w.params os) (thrA p w b os) = some (b225 w.params os, thrB p w b os (a225 w.params os)) ∧
    goW p w 498 (b225 w.params os) (thrB p w b os (a225 w.params os)) = some (a226 w.params os, thrA p w b os) ∧
    goW p (wF w) 37 (a226 w.params os) (thrA p w b os) = some (b226 w.params os, thrB p w b os (a226 w.params os)) ∧
    goW p (wT w) 37 (a226 w.params os) (thrA p w b os) = some (b226 w.params os, thrB p w b os (a226 w.params os)) ∧
    goW p w 498 (b226 w.params os) (thrB p w b os (a226 w.params os)) = some (a227 w.params os, thrA p w b os) ∧
    goW p (wF w) 37 (a227 w.params os) (thrA p w b os) = some (b227 w.params os, thrB p w b os (a227 w.params os)) ∧
    goW p (wT w) 37 (a227 w.params os) (thrA p w b os) = some (b227 w.params os, thrB p w b os (a227 w.params os)) ∧
    goW p w 498 (b227 w.params os) (thrB p w b os (a227 w.params os)) = some (a228 w.params os, thrA p w b os) ∧
    goW p (wF w) 37 (a228 w.params os) (thrA p w b os) = some (b228 w.params os, thrB p w b os (a228 w.params os)) ∧
    goW p (wT w) 37 (a228 w.params os) (thrA p w b os) = some (b228 w.params os, thrB p w b os (a228 w.params os)) ∧
    goW p w 505 (b228 w.params os) (thrB p w b os (a228 w.params os)) = some (a229 w.params os, thrA p w b os) ∧
    goW p (wF w) 37 (a229 w.params os) (thrA p w b os) = some (b229 w.params os, thrB p w b os (a229 w.params os)) ∧
    goW p (wT w) 37 (a229 w.params os) (thrA p w b os) = some (b229 w.params os, thrB p w b os (a229 w.params os)) ∧
    goW p w 505 (b229 w.params os) (thrB p w b os (a229 w.params os)) = some (a230 w.params os, thrA p w b os) ∧
    goW p (wF w) 37 (a230 w.params os) (thrA p w b os) = some (b230 w.params os, thrB p w b os (a230 w.params os)) ∧
    goW p (wT w) 37 (a230 w.params os) (thrA p w b os) = some (b230 w.params os, thrB p w b os (a230 w.params os)) ∧
    goW p w 505 (b230 w.params os) (thrB p w b os (a230 w.params os)) = some (a231 w.params os, thrA p w b os) ∧
    goW p (wF w) 37 (a231 w.params os) (thrA p w b os) = some (b231 w.params os, thrB p w b os (a231 w.params os)) ∧
    goW p (wT w) 37 (a231 w.params os) (thrA p w b os) = some (b231 w.params os, thrB p w b os (a231 w.params os)) ∧
    goW p w 505 (b231 w.params os) (thrB p w b os (a231 w.params os)) = some (a232 w.params os, thrA p w b os) :=
  ⟨by kernel_rfl, by kernel_rfl, by kernel_rfl, by kernel_rfl, by kernel_rfl, by kernel_rfl, by kernel_rfl, by kernel_rfl, by kernel_rfl, by kernel_rfl, by kernel_rfl, by kernel_rfl, by kernel_rfl, by kernel_rfl, by kernel_rfl, by kernel_rfl, by kernel_rfl, by kernel_rfl, by kernel_rfl, by kernel_rfl, by kernel_rfl, by kernel_rfl, by kernel_rfl, by kernel_rfl⟩
theorem g232 (p : Program) (w : World) (b : List Stmt) (os : OsState) :
    goW p (wF w) 37 (a232 w.params os) (thrA p w b os) = some (b232 w.params os, thrB p w b os (a232 w.params os)) ∧
    goW p (wT w) 37 (a232 w.params os) (thrA p w b os) = some (b232 w.params os, thrB p w b os (a232 w.params os)) ∧
    goW p w 505 (b232 w.params os) (thrB p w b os (a232 w.params os)) = some (a233 w.params os, thrA p w b os) ∧
    goW p (wF w) 37 (a233 w.params os) (thrA p w b os) = some (b233 w.params os, thrB p w b os (a233 w.params os)) ∧
    goW p (wT w) 37 (a233 w.params os) (thrA p w b os) = some (b233 w.params os, thrB p w b os (a233 w.params os)) ∧
    goW p w 505 (b233 w.params os) (thrB p w b os (a233 w.params os)) = some (a234 w.params os, thrA p w b os) ∧
    goW p (wF w) 37 (a234 w.params os) (thrA p w b os) = some (b234 w.params os, thrB p w b os (a234 w.params os)) ∧
    goW p (wT w) 37 (a234 w.params os) (thrA p w b os) = some (b234 w.params os, thrB p w b os (a234 w.params os)) ∧
    goW p w 505 (b234 w.params os) (thrB p w b os (a234 w.params os)) = some (a235 w.params os, thrA p w b os) ∧
    goW p (wF w) 37 (a235 w.params os) (thrA p w b os) = some (b235 w.params os, thrB p w b os (a235 w.params os)) ∧
    goW p (wT w) 37 (a235 w.params os) (thrA p w b os) = some (b235 w.params os, thrB p w b os (a235 w.params os)) ∧
    goW p w 505 (b235 w.params os) (thrB p w b os (a235 w.params os)) = some (a236 w.params os, thrA p w b os) ∧
    goW p (wF w) 37 (a236 w.params os) (thrA p w b os) = some (b236 w.params os, thrB p w b os (a236 w.params os)) ∧
    goW p (wT w) 37 (a236 w.params os) (thrA p w b os) = some (b236 w.params os, thrB p w b os (a236 w.params os)) ∧
    goW p w 512 (b236 w.params os) (thrB p w b os (a236 w.params os)) = some (a237 w.params os, thrA p w b os) ∧
    goW p (wF w) 37 (a237 w.params os) (thrA p w b os) = some (b237 w.params os, thrB p w b os (a237 w.params os)) ∧
    goW p (wT w) 37 (a237 w.params os) (thrA p w b os) = some (b237 w.params os, thrB p w b os (a237 w.params os)) ∧
    goW p w 512 (b237 w.params os) (thrB p w b os (a237 w.params os)) = some (a238 w.params os, thrA p w b os) ∧
    goW p (wF w) 37 (a238 w.params os) (thrA p w b os) = some (b238 w.params os, thrB p w b os (a238 w.params os)) ∧
    goW p (wT w) 37 (a238 w.params os) (thrA p w b os) = some (b238 w.params os, thrB p w b os (a238 w.params os)) ∧
    goW p w 512 (b238 w.params os) (thrB p w b os (a238 w.params os)) = some (a239 w.params os, thrA p w b os) ∧
    goW p (wF w) 37 (a239 w.params os) (thrA p w b os) = some (b239 w.params os, thrB p w b os (a239 w.params os)) ∧
    goW p (wT w) 37 (a239 w.params os) (thrA p w b os) = some (b239 w.params os, thrB p w b os (a239 w.params os)) ∧
    goW p w 512 (b239 w.params os) (thrB p w b os (a239 w.params os)) = some (a240 w.params os, thrA p w b os) :=
  ⟨by kernel_rfl, by kernel_rfl, by kernel_rfl, by kernel_rfl, by kernel_rfl, by kernel_rfl, by kernel_rfl, by kernel_rfl, by kernel_rfl, by kernel_rfl, by kernel_rfl, by kernel_rfl, by kernel_rfl, by kernel_rfl, by kernel_rfl, by kernel_rfl, by kernel_rfl, by kernel_rfl, by kernel_rfl, by kernel_rfl, by kernel_rfl, by kernel_rfl, by kernel_rfl, by kernel_rfl⟩
theorem g240 (p : Program) (w : World) (b : List Stmt) (os : OsState) :
    goW p (wF w) 37 (a240 w.params os) (thrA p w b os) = some (b240 w.params os, thrB p w b os (a240 w.params os)) ∧
    goW p (wT w) 37 (a240 w.params os) (thrA p w b os) = some (b240 w.params os, thrB p w b os (a240 w.params os)) ∧
    goW p w 505 (b240 w.params os) (thrB p w b os (a240 w.params os)) = some (a241 w.params os, thrA p w b os) ∧
    goW p (wF w) 37 (a241 w.params os) (thrA p w b os) = some (b241 w.params os, thrB p w b os (a241 w.params os)) ∧
    goW p (wT w) 37 (a241 w.params os) (thrA p w b os) = some (b241 w.params os, thrB p w b os (a241 w.params os)) ∧
    goW p w 505 (b241 w.params os) (thrB p w b os (a241 w.params os)) = some (a242 w.params os, thrA p w b os) ∧
    goW p (wF w) 37 (a242 w.params os) (thrA p w b os) = some (b242 w.params os, thrB p w b os (a242 w.params os)) ∧
    goW p (wT w) 37 (a242 w.params os) (thrA p w b os) = some (b242 w.params os, thrB p w b os (a242 w.params os)) ∧
    goW p w 505 (b242 w.params os) (thrB p w b os (a242 w.params os)) = some (a243 w.params os, thrA p w b os) ∧
    goW p (wF w) 37 (a243 w.params os) (thrA p w b os) = some (b243 w.params os, thrB p w b os (a243 w.params os)) ∧
    goW p (wT w) 37 (a243 w.params os) (thrA p w b os) = some (b243 w.params os, thrB p w b os (a243 w.params os)) ∧
    goW p w 505 (b243 w.params os) (thrB p w b os (a243 w.params os)) = some (a244 w.params os, thrA p w b os) ∧
    goW p (wF w) 37 (a244 w.params os) (thrA p w b os) = some (b244 w.params os, thrB p w b os (a244 w.params os)) ∧
    goW p (wT w) 37 (a244 w.params os) (thrA p w b os) = some (b244 w.params os, thrB p w b os (a244 w.params os)) ∧
    goW p w 512 (b244 w.params os) (thrB p w b os (a244 w.params os)) = some (a245 w.params os, thrA p w b os) ∧
    goW p (wF w) 37 (a245 w.params os) (thrA p w b os) = some (b245 w.params os, thrB p w b os (a245 w.params os)) ∧
    goW p (wT w) 37 (a245 w.params os) (thrA p w b os) = some (b245 w.params os, thrB p w b os (a245 w.params os)) ∧
    goW p w 512 (b245 w.params os) (thrB p w b os (a245 w.params os)) = some (a246 w.params os, thrA p w b os) ∧
    goW p (wF w) 37 (a246 w.params os) (thrA p w b os) = some (b246 w.params os, thrB p w b os (a246 w.params os)) ∧
    goW p (wT w) 37 (a246 w.params os) (thrA p w b os) = some (b246 w.params os, thrB p w b os (a246 w.params os)) ∧
    goW p w 512 (b246 w.params os) (thrB p w b os (a246 w.params os)) = some (a247 w.params os, thrA p w b os) ∧
    goW p (wF w) 37 (a247 w.params os) (thrA p w b os) = some (b247 w.params os, thrB p w b os (a247 w.params os)) ∧
    goW p (wT w) 37 (a247 w.params os) (thrA p w b os) = some (b247 w.params os, thrB p w b os (a247 w.params os)) ∧
    goW p w 512 (b247 w.params os) (thrB p w b os (a247 w.params os)) = some (a248 w.params os, thrA p w b os) :=
  ⟨by kernel_rfl, by kernel_rfl, by kernel_rfl, by kernel_rfl, by kernel_rfl, by kernel_rfl, by kernel_rfl, by kernel_rfl, by kernel_rfl, by kernel_rfl, by kernel_rfl, by kernel_rfl, by kernel_rfl, by kernel_rfl, by kernel_rfl, by kernel_rfl, by kernel_rfl, by kernel_rfl, by kernel_rfl, by kernel_rfl, by kernel_rfl, by kernel_rfl, by kernel_rfl, by kernel_rfl⟩
theorem g248 (p : Program) (w : World) (b : List Stmt) (os : OsState) :
    goW p (wF w) 37 (a248 w.params os) (thrA p w b os) = some (b248 w.params os, thrB p w b os (a248 w.params os)) ∧
    goW p (wT w) 37 (a248 w.params os) (thrA p w b os) = some (b248 w.params os, thrB p w b os (a248 w.params os)) ∧
    goW p w 512 (b248 w.params os) (thrB p w b os (a248 w.params os)) = some (a249 w.params os, thrA p w b os) ∧
    goW p (wF w) 37 (a249 w.params os) (thrA p w b os) = some (b249 w.params os, thrB p w b os (a249 w.params os)) ∧
    goW p (wT w) 37 (a249 w.params os) (thrA p w b os) = some (b249 w.params os, thrB p w b os (a249 w.params os)) ∧
    goW p w 512 (b249 w.params os) (thrB p w b os (a249 w.params os)) = some (a250 w.params os, thrA p w b os) ∧
    goW p (wF w) 37 (a250 w.params os) (thrA p w b os) = some (b250 w.params os, thrB p w b os (a250 w.params os)) ∧
    goW p (wT w) 37 (a250 w.params os) (thrA p w b os) = some (b250 w.params os, thrB p w b os (a250 w.params os)) ∧
    goW p w 512 (b250 w.params os) (thrB p w b os (a250 w.params os)) = some (a251 w.params os, thrA p w b os) ∧
    goW p (wF w) 37 (a251 w.params os) (thrA p w b os) = some (b251 w.params os, thrB p w b os (a251 w.params os)) ∧
    goW p (wT w) 37 (a251 w.params os) (thrA p w b os) = some (b251 w.params os, thrB p w b os (a251 w.params os)) ∧
    goW p w 512 (b251 w.params os) (thrB p w b os (a251 w.params os)) = some (a252 w.params os, thrA p w b os) ∧
    goW p (wF w) 37 (a252 w.params os) (thrA p w b os) = some (b252 w.params os, thrB p w b os (a252 w.params os)) ∧
    goW p (wT w) 37 (a252 w.params os) (thrA p w b os) = some (b252 w.params os, thrB p w b os (a252 w.params os)) ∧
    goW p w 519 (b252 w.params os) (thrB p w b os (a252 w.params os)) = some (a253 w.params os, thrA p w b os) ∧
    goW p (wF w) 37 (a253 w.params os) (thrA p w b os) = some (b253 w.params os, thrB p w b os (a253 w.params os)) ∧
    goW p (wT w) 37 (a253 w.params os) (thrA p w b os) = some (b253 w.params os, thrB p w b os (a253 w.params os)) ∧
    goW p w 519 (b253 w.params os) (thrB p w b os (a253 w.params os)) = some (a254 w.params os, thrA p w b os) ∧
    goW p (wF w) 37 (a254 w.params os) (thrA p w b os) = some (b254 w.params os, thrB p w b os (a254 w.params os)) ∧
    goW p (wT w) 37 (a254 w.params os) (thrA p w b os) = some (b254 w.params os, thrB p w b os (a254 w.params os)) ∧
    goW p w 519 (b254 w.params os) (thrB p w b os (a254 w.params os)) = some (a255 w.params os, thrA p w b os) :=
  ⟨by kernel_rfl, by kernel_rfl, by kernel_rfl, by kernel_rfl, by kernel_rfl, by kernel_rfl, by kernel_rfl, by kernel_rfl, by kernel_rfl, by kernel_rfl, by kernel_rfl, by kernel_rfl, by kernel_rfl, by kernel_rfl, by kernel_rfl, by kernel_rfl, by kernel_rfl, by kernel_rfl, by kernel_rfl, by kernel_rfl, by kernel_rfl⟩
def addEnt (o : Obj) (e : DictEntry) : Obj := match o with
  | ⟨c, d, .dict es n, sl⟩ => ⟨c, d, .dict (es.push e) (n + 1), sl⟩
  | o => o
def lcE (P : Params) : Obj := ⟨.type "frame", none, .dict #[entS P "table" 272 (.ref 74), entS P "byte" 277 (.int 255 17104), entS P "value" 278 (.int 755167117 17170), entS P "k" 283 (.int 7 17165)] 4, #[]⟩
noncomputable def tE (P : Params) : BT := (.node (PySem.W.boot_o_0 P) (.node (PySem.W.boot_o_1 P) (.node (addEnt (Pre.o_44 P) (entS P "_TABLE" 17172 (.ref 74))) (.node (PySem.W.boot_o_7 P) (.node (Pre.o_7 P) (.node (Pre.o_46 P) (.node (Pre.o_63 P) (.node tup0 (.node tup0 (.node tup0 (.node tup0 .nil .nil) .nil) (.node tup0 .nil .nil)) (.node tup0 (.node tup0 .nil .nil) (.node tup0 .nil .nil))) (.node tup0 (.node tup0 (.node tup0 (.node tup0 .nil .nil) .nil) (.node tup0 .nil .nil)) (.node tup0 (.node tup0 .nil .nil) (.node tup0 .nil .nil)))) (.node tup0 (.node tup0 (.node tup0 (.node tup0 (.node tup0 .nil .nil) .nil) (.node tup0 .nil .nil)) (.node tup0 (.node tup0 .nil .nil) (.node tup0 .nil .nil))) (.node tup0 (.node tup0 (.node tup0 .nil .nil) (.node tup0 .nil .nil)) (.node tup0 (.node tup0 .nil .nil) (.node tup0 .nil .nil))))) (.node (Pre.o_47 P) (.node tup0 (.node tup0 (.node tup0 (.node tup0 (.node tup0 .nil .nil) .nil) (.node tup0 .nil .nil)) (.node tup0 (.node tup0 .nil .nil) (.node tup0 .nil .nil))) (.node tup0 (.node tup0 (.node tup0 .nil .nil) (.node tup0 .nil .nil)) (.node tup0 (.node tup0 .nil .nil) (.node tup0 .nil .nil)))) (.node tup0 (.node tup0 (.node tup0 (.node tup0 (.node tup0 .nil .nil) .nil) (.node tup0 .nil .nil)) (.node tup0 (.node tup0 .nil .nil) (.node tup0 .nil .nil))) (.node tup0 (.node tup0 (.node tup0 .nil .nil) (.node tup0 .nil .nil)) (.node tup0 (.node tup0 .nil .nil) (.node tup0 .nil .nil)))))) (.node (Pre.o_15 P) (.node (Pre.o_35 P) (.node (Pre.o_71 P) (.node tup0 (.node tup0 (.node tup0 (.node tup0 .nil .nil) .nil) (.node tup0 .nil .nil)) (.node tup0 (.node tup0 .nil .nil) (.node tup0 .nil .nil))) (.node tup0 (.node tup0 (.node tup0 (.node tup0 .nil .nil) .nil) (.node tup0 .nil .nil)) (.node tup0 (.node tup0 .nil .nil) (.node tup0 .nil .nil)))) (.node tup0 (.node tup0 (.node tup0 (.node tup0 (.node tup0 .nil .nil) .nil) (.node tup0 .nil .nil)) (.node tup0 (.node tup0 .nil .nil) (.node tup0 .nil .nil))) (.node tup0 (.node tup0 (.node tup0 .nil .nil) (.node tup0 .nil .nil)) (.node tup0 (.node tup0 .nil .nil) (.node tup0 .nil .nil))))) (.node (Pre.o_55 P) (.node tup0 (.node tup0 (.node tup0 (.node tup0 (.node tup0 .nil .nil) .nil) (.node tup0 .nil .nil)) (.node tup0 (.node tup0 .nil .nil) (.node tup0 .nil .nil))) (.node tup0 (.node tup0 (.node tup0 .nil .nil) (.node tup0 .nil .nil)) (.node tup0 (.node tup0 .nil .nil) (.node tup0 .nil .nil)))) (.node tup0 (.node tup0 (.node tup0 (.node tup0 (.node tup0 .nil .nil) .nil) (.node tup0 .nil .nil)) (.node tup0 (.node tup0 .nil .nil) (.node tup0 .nil .nil))) (.node tup0 (.node tup0 (.node tup0 .nil .nil) (.node tup0 .nil .nil)) (.node tup0 (.node tup0 .nil .nil) (.node tup0 .nil .nil))))))) (.node (Pre.o_1 P) (.node (Pre.o_11 P) (.node (Pre.o_31 P) (.node (Pre.o_67 P) (.node tup0 (.node tup0 (.node tup0 (.node tup0 .nil .nil) .nil) (.node tup0 .nil .nil)) (.node tup0 (.node tup0 .nil .nil) (.node tup0 .nil .nil))) (.node tup0 (.node tup0 (.node tup0 (.node tup0 .nil .nil) .nil) (.node tup0 .nil .nil)) (.node tup0 (.node tup0 .nil .nil) (.node tup0 .nil .nil)))) (.node tup0 (.node tup0 (.node tup0 (.node tup0 (.node tup0 .nil .nil) .nil) (.node tup0 .nil .nil)) (.node tup0 (.node tup0 .nil .nil) (.node tup0 .nil .nil))) (.node tup0 (.node tup0 (.node tup0 .nil .nil) (.node tup0 .nil .nil)) (.node tup0 (.node tup0 .nil .nil) (.node tup0 .nil .nil))))) (.node (Pre.o_51 P) (.node tup0 (.node tup0 (.node tup0 (.node tup0 (.node tup0 .nil .nil) .nil) (.node tup0 .nil .nil)) (.node tup0 (.node tup0 .nil .nil) (.node tup0 .nil .nil))) (.node tup0 (.node tup0 (.node tup0 .nil .nil) (.node tup0 .nil .nil)) (.node tup0 (.node tup0 .nil .nil) (.node tup0 .nil .nil)))) (.node tup0 (.node tup0 (.node tup0 (.node tup0 (.node tup0 .nil .nil) .nil) (.node tup0 .nil .nil)) (.node tup0 (.node tup0 .nil .nil) (.node tup0 .nil .nil))) (.node tup0 (.node tup0 (.node tup0 .nil .nil) (.node tup0 .nil .nil)) (.node tup0 (.node tup0 .nil .nil) (.node tup0 .nil .nil)))))) (.node (Pre.o_19 P) (.node (Pre.o_39 P) (.node r256 (.node tup0 (.node tup0 (.node tup0 (.node tup0 .nil .nil) .nil) (.node tup0 .nil .nil)) (.node tup0 (.node tup0 .nil .nil) (.node tup0 .nil .nil))) (.node tup0 (.node tup0 (.node tup0 (.node tup0 .nil .nil) .nil) (.node tup0 .nil .nil)) (.node tup0 (.node tup0 .nil .nil) (.node tup0 .nil .nil)))) (.node tup0 (.node tup0 (.node tup0 (.node tup0 (.node tup0 .nil .nil) .nil) (.node tup0 .nil .nil)) (.node tup0 (.node tup0 .nil .nil) (.node tup0 .nil .nil))) (.node tup0 (.node tup0 (.node tup0 .nil .nil) (.node tup0 .nil .nil)) (.node tup0 (.node tup0 .nil .nil) (.node tup0 .nil .nil))))) (.node (Pre.o_59 P) (.node tup0 (.node tup0 (.node tup0 (.node tup0 (.node tup0 .nil .nil) .nil) (.node tup0 .nil .nil)) (.node tup0 (.node tup0 .nil .nil) (.node tup0 .nil .nil))) (.node tup0 (.node tup0 (.node tup0 .nil .nil) (.node tup0 .nil .nil)) (.node tup0 (.node tup0 .nil .nil) (.node tup0 .nil .nil)))) (.node tup0 (.node tup0 (.node tup0 (.node tup0 (.node tup0 .nil .nil) .nil) (.node tup0 .nil .nil)) (.node tup0 (.node tup0 .nil .nil) (.node tup0 .nil .nil))) (.node tup0 (.node tup0 (.node tup0 .nil .nil) (.node tup0 .nil .nil)) (.node tup0 (.node tup0 .nil .nil) (.node tup0 .nil .nil)))))))) (.node (PySem.W.boot_o_5 P) (.node (PySem.W.boot_o_9 P) (.node (Pre.o_9 P) (.node (Pre.o_25 P) (.node (Pre.o_65 P) (.node (rg 1120) (.node (rg 3229) (.node (rg 7454) (.node (rg 15903) .nil .nil) .nil) (.node (rg 11678) .nil .nil)) (.node (rg 5345) (.node (rg 9569) .nil .nil) (.node (rg 13794) .nil .nil))) (.node (rg 2173) (.node (rg 4298) (.node (rg 8523) (.node (rg 16972) .nil .nil) .nil) (.node (rg 12747) .nil .nil)) (.node (rg 6398) (.node (rg 10622) .nil .nil) (.node (rg 14847) .nil .nil)))) (.node (rg 599) (.node (rg 1644) (.node (rg 3761) (.node (rg 7986) (.node (rg 16435) .nil .nil) .nil) (.node (rg 12210) .nil .nil)) (.node (rg 5869) (.node (rg 10093) .nil .nil) (.node (rg 14318) .nil .nil))) (.node (rg 2700) (.node (rg 4824) (.node (rg 9048) .nil .nil) (.node (rg 13273) .nil .nil)) (.node (rg 6925) (.node (rg 11149) .nil .nil) (.node (rg 15374) .nil .nil))))) (.node (Pre.o_49 P) (.node (rg 342) (.node (rg 1383) (.node (rg 3496) (.node (rg 7721) (.node (rg 16170) .nil .nil) .nil) (.node (rg 11945) .nil .nil)) (.node (rg 5608) (.node (rg 9832) .nil .nil) (.node (rg 14057) .nil .nil))) (.node (rg 2439) (.node (rg 4567) (.node (rg 8791) .nil .nil) (.node (rg 13016) .nil .nil)) (.node (rg 6664) (.node (rg 10888) .nil .nil) (.node (rg 15113) .nil .nil)))) (.node (rg 859) (.node (rg 1908) (.node (rg 4029) (.node (rg 8254) (.node (rg 16703) .nil .nil) .nil) (.node (rg 12478) .nil .nil)) (.node (rg 6133) (.node (rg 10357) .nil .nil) (.node (rg 14582) .nil .nil))) (.node (rg 2964) (.node (rg 5084) (.node (rg 9308) .nil .nil) (.node (rg 13533) .nil .nil)) (.node (rg 7189) (.node (rg 11413) .nil .nil) (.node (rg 15638) .nil .nil)))))) (.node (Pre.o_17 P) (.node (Pre.o_37 P) (.node (lcE P) (.node (rg 1252) (.node (rg 3363) (.node (rg 7588) (.node (rg 16037) .nil .nil) .nil) (.node (rg 11812) .nil .nil)) (.node (rg 5477) (.node (rg 9701) .nil .nil) (.node (rg 13926) .nil .nil))) (.node (rg 2307) (.node (rg 4434) (.node (rg 8659) (.node (rg 17108) .nil .nil) .nil) (.node (rg 12883) .nil .nil)) (.node (rg 6532) (.node (rg 10756) .nil .nil) (.node (rg 14981) .nil .nil)))) (.node (rg 729) (.node (rg 1776) (.node (rg 3895) (.node (rg 8120) (.node (rg 16569) .nil .nil) .nil) (.node (rg 12344) .nil .nil)) (.node (rg 6001) (.node (rg 10225) .nil .nil) (.node (rg 14450) .nil .nil))) (.node (rg 2832) (.node (rg 4954) (.node (rg 9178) .nil .nil) (.node (rg 13403) .nil .nil)) (.node (rg 7057) (.node (rg 11281) .nil .nil) (.node (rg 15506) .nil .nil))))) (.node (Pre.o_57 P) (.node (rg 470) (.node (rg 1513) (.node (rg 3628) (.node (rg 7853) (.node (rg 16302) .nil .nil) .nil) (.node (rg 12077) .nil .nil)) (.node (rg 5738) (.node (rg 9962) .nil .nil) (.node (rg 14187) .nil .nil))) (.node (rg 2569) (.node (rg 4695) (.node (rg 8919) .nil .nil) (.node (rg 13144) .nil .nil)) (.node (rg 6794) (.node (rg 11018) .nil .nil) (.node (rg 15243) .nil .nil)))) (.node (rg 989) (.node (rg 2040) (.node (rg 4163) (.node (rg 8388) (.node (rg 16837) .nil .nil) .nil) (.node (rg 12612) .nil .nil)) (.node (rg 6265) (.node (rg 10489) .nil .nil) (.node (rg 14714) .nil .nil))) (.node (rg 3096) (.node (rg 5214) (.node (rg 9438) .nil .nil) (.node (rg 13663) .nil .nil)) (.node (rg 7321) (.node (rg 11545) .nil .nil) (.node (rg 15770) .nil .nil))))))) (.node (Pre.o_3 P) (.node (Pre.o_13 P) (.node (Pre.o_33 P) (.node (Pre.o_69 P) (.node (rg 1186) (.node (rg 3296) (.node (rg 7520) (.node (rg 15970) .nil .nil) .nil) (.node (rg 11746) .nil .nil)) (.node (rg 5410) (.node (rg 9636) .nil .nil) (.node (rg 13860) .nil .nil))) (.node (rg 2240) (.node (rg 4366) (.node (rg 8590) (.node (rg 17040) .nil .nil) .nil) (.node (rg 12816) .nil .nil)) (.node (rg 6464) (.node (rg 10690) .nil .nil) (.node (rg 14914) .nil .nil)))) (.node (rg 664) (.node (rg 1710) (.node (rg 3828) (.node (rg 8052) (.node (rg 16502) .nil .nil) .nil) (.node (rg 12278) .nil .nil)) (.node (rg 5934) (.node (rg 10160) .nil .nil) (.node (rg 14384) .nil .nil))) (.node (rg 2766) (.node (rg 4888) (.node (rg 9114) .nil .nil) (.node (rg 13338) .nil .nil)) (.node (rg 6990) (.node (rg 11216) .nil .nil) (.node (rg 15440) .nil .nil))))) (.node (Pre.o_53 P) (.node (rg 406) (.node (rg 1448) (.node (rg 3562) (.node (rg 7786) (.node (rg 16236) .nil .nil) .nil) (.node (rg 12012) .nil .nil)) (.node (rg 5672) (.node (rg 9898) .nil .nil) (.node (rg 14122) .nil .nil))) (.node (rg 2504) (.node (rg 4630) (.node (rg 8856) .nil .nil) (.node (rg 13080) .nil .nil)) (.node (rg 6728) (.node (rg 10954) .nil .nil) (.node (rg 15178) .nil .nil)))) (.node (rg 924) (.node (rg 1974) (.node (rg 4096) (.node (rg 8320) (.node (rg 16770) .nil .nil) .nil) (.node (rg 12546) .nil .nil)) (.node (rg 6198) (.node (rg 10424) .nil .nil) (.node (rg 14648) .nil .nil))) (.node (rg 3030) (.node (rg 5148) (.node (rg 9374) .nil .nil) (.node (rg 13598) .nil .nil)) (.node (rg 7254) (.node (rg 11480) .nil .nil) (.node (rg 15704) .nil .nil)))))) (.node (Pre.o_21 P) (.node (Pre.o_41 P) (.node (rg 280) (.node (rg 1320) (.node (rg 3432) (.node (rg 7656) (.node (rg 16104) .nil .nil) .nil) (.node (rg 11880) .nil .nil)) (.node (rg 5544) (.node (rg 9768) .nil .nil) (.node (rg 13992) .nil .nil))) (.node (rg 2376) (.node (rg 4504) (.node (rg 8728) (.node tup0 .nil .nil) .nil) (.node (rg 12952) .nil .nil)) (.node (rg 6600) (.node (rg 10824) .nil .nil) (.node (rg 15048) .nil .nil)))) (.node (rg 796) (.node (rg 1844) (.node (rg 3964) (.node (rg 8188) (.node (rg 16636) .nil .nil) .nil) (.node (rg 12412) .nil .nil)) (.node (rg 6068) (.node (rg 10292) .nil .nil) (.node (rg 14516) .nil .nil))) (.node (rg 2900) (.node (rg 5020) (.node (rg 9244) .nil .nil) (.node (rg 13468) .nil .nil)) (.node (rg 7124) (.node (rg 11348) .nil .nil) (.node (rg 15572) .nil .nil))))) (.node (Pre.o_61 P) (.node (rg 536) (.node (rg 1580) (.node (rg 3696) (.node (rg 7920) (.node (rg 16368) .nil .nil) .nil) (.node (rg 12144) .nil .nil)) (.node (rg 5804) (.node (rg 10028) .nil .nil) (.node (rg 14252) .nil .nil))) (.node (rg 2636) (.node (rg 4760) (.node (rg 8984) .nil .nil) (.node (rg 13208) .nil .nil)) (.node (rg 6860) (.node (rg 11084) .nil .nil) (.node (rg 15308) .nil .nil)))) (.node (rg 1056) (.node (rg 2108) (.node (rg 4232) (.node (rg 8456) (.node (rg 16904) .nil .nil) .nil) (.node (rg 12680) .nil .nil)) (.node (rg 6332) (.node (rg 10556) .nil .nil) (.node (rg 14780) .nil .nil))) (.node (rg 3164) (.node (rg 5280) (.node (rg 9504) .nil .nil) (.node (rg 13728) .nil .nil)) (.node (rg 7388) (.node (rg 11612) .nil .nil) (.node (rg 15836) .nil .nil))))))))) (.node (PySem.W.boot_o_2 P) (.node (PySem.W.boot_o_4 P) (.node (PySem.W.boot_o_8 P) (.node (Pre.o_8 P) (.node (Pre.o_24 P) (.node (Pre.o_64 P) (.node (se 127) (.node (se 255) (.node (se 511) (.node (se 1023) .nil .nil) .nil) (.node (se 767) .nil .nil)) (.node (se 383) (.node (se 639) .nil .nil) (.node (se 895) .nil .nil))) (.node (se 191) (.node (se 319) (.node (se 575) (.node (se 1087) .nil .nil) .nil) (.node (se 831) .nil .nil)) (.node (se 447) (.node (se 703) .nil .nil) (.node (se 959) .nil .nil)))) (.node (se 95) (.node (se 159) (.node (se 287) (.node (se 543) (.node (se 1055) .nil .nil) .nil) (.node (se 799) .nil .nil)) (.node (se 415) (.node (se 671) .nil .nil) (.node (se 927) .nil .nil))) (.node (se 223) (.node (se 351) (.node (se 607) .nil .nil) (.node (se 863) .nil .nil)) (.node (se 479) (.node (se 735) .nil .nil) (.node (se 991) .nil .nil))))) (.node (Pre.o_48 P) (.node (se 79) (.node (se 143) (.node (se 271) (.node (se 527) (.node (se 1039) .nil .nil) .nil) (.node (se 783) .nil .nil)) (.node (se 399) (.node (se 655) .nil .nil) (.node (se 911) .nil .nil))) (.node (se 207) (.node (se 335) (.node (se 591) .nil .nil) (.node (se 847) .nil .nil)) (.node (se 463) (.node (se 719) .nil .nil) (.node (se 975) .nil .nil)))) (.node (se 111) (.node (se 175) (.node (se 303) (.node (se 559) (.node (se 1071) .nil .nil) .nil) (.node (se 815) .nil .nil)) (.node (se 431) (.node (se 687) .nil .nil) (.node (se 943) .nil .nil))) (.node (se 239) (.node (se 367) (.node (se 623) .nil .nil) (.node (se 879) .nil .nil)) (.node (se 495) (.node (se 751) .nil .nil) (.node (se 1007) .nil .nil)))))) (.node (Pre.o_16 P) (.node (Pre.o_36 P) (.node (Pre.o_72 P) (.node (se 135) (.node (se 263) (.node (se 519) (.node (se 1031) .nil .nil) .nil) (.node (se 775) .nil .nil)) (.node (se 391) (.node (se 647) .nil .nil) (.node (se 903) .nil .nil))) (.node (se 199) (.node (se 327) (.node (se 583) (.node (se 1095) .nil .nil) .nil) (.node (se 839) .nil .nil)) (.node (se 455) (.node (se 711) .nil .nil) (.node (se 967) .nil .nil)))) (.node (se 103) (.node (se 167) (.node (se 295) (.node (se 551) (.node (se 1063) .nil .nil) .nil) (.node (se 807) .nil .nil)) (.node (se 423) (.node (se 679) .nil .nil) (.node (se 935) .nil .nil))) (.node (se 231) (.node (se 359) (.node (se 615) .nil .nil) (.node (se 871) .nil .nil)) (.node (se 487) (.node (se 743) .nil .nil) (.node (se 999) .nil .nil))))) (.node (Pre.o_56 P) (.node (se 87) (.node (se 151) (.node (se 279) (.node (se 535) (.node (se 1047) .nil .nil) .nil) (.node (se 791) .nil .nil)) (.node (se 407) (.node (se 663) .nil .nil) (.node (se 919) .nil .nil))) (.node (se 215) (.node (se 343) (.node (se 599) .nil .nil) (.node (se 855) .nil .nil)) (.node (se 471) (.node (se 727) .nil .nil) (.node (se 983) .nil .nil)))) (.node (se 119) (.node (se 183) (.node (se 311) (.node (se 567) (.node (se 1079) .nil .nil) .nil) (.node (se 823) .nil .nil)) (.node (se 439) (.node (se 695) .nil .nil) (.node (se 951) .nil .nil))) (.node (se 247) (.node (se 375) (.node (se 631) .nil .nil) (.node (se 887) .nil .nil)) (.node (se 503) (.node (se 759) .nil .nil) (.node (se 1015) .nil .nil))))))) (.node (Pre.o_45 P) (.node (Pre.o_12 P) (.node (Pre.o_32 P) (.node (Pre.o_68 P) (.node (se 131) (.node (se 259) (.node (se 515) (.node (se 1027) .nil .nil) .nil) (.node (se 771) .nil .nil)) (.node (se 387) (.node (se 643) .nil .nil) (.node (se 899) .nil .nil))) (.node (se 195) (.node (se 323) (.node (se 579) (.node (se 1091) .nil .nil) .nil) (.node (se 835) .nil .nil)) (.node (se 451) (.node (se 707) .nil .nil) (.node (se 963) .nil .nil)))) (.node (se 99) (.node (se 163) (.node (se 291) (.node (se 547) (.node (se 1059) .nil .nil) .nil) (.node (se 803) .nil .nil)) (.node (se 419) (.node (se 675) .nil .nil) (.node (se 931) .nil .nil))) (.node (se 227) (.node (se 355) (.node (se 611) .nil .nil) (.node (se 867) .nil .nil)) (.node (se 483) (.node (se 739) .nil .nil) (.node (se 995) .nil .nil))))) (.node (Pre.o_52 P) (.node (se 83) (.node (se 147) (.node (se 275) (.node (se 531) (.node (se 1043) .nil .nil) .nil) (.node (se 787) .nil .nil)) (.node (se 403) (.node (se 659) .nil .nil) (.node (se 915) .nil .nil))) (.node (se 211) (.node (se 339) (.node (se 595) .nil .nil) (.node (se 851) .nil .nil)) (.node (se 467) (.node (se 723) .nil .nil) (.node (se 979) .nil .nil)))) (.node (se 115) (.node (se 179) (.node (se 307) (.node (se 563) (.node (se 1075) .nil .nil) .nil) (.node (se 819) .nil .nil)) (.node (se 435) (.node (se 691) .nil .nil) (.node (se 947) .nil .nil))) (.node (se 243) (.node (se 371) (.node (se 627) .nil .nil) (.node (se 883) .nil .nil)) (.node (se 499) (.node (se 755) .nil .nil) (.node (se 1011) .nil .nil)))))) (.node (Pre.o_20 P) (.node (Pre.o_40 P) (.node (rit 256 0) (.node (se 139) (.node (se 267) (.node (se 523) (.node (se 1035) .nil .nil) .nil) (.node (se 779) .nil .nil)) (.node (se 395) (.node (se 651) .nil .nil) (.node (se 907) .nil .nil))) (.node (se 203) (.node (se 331) (.node (se 587) (.node (se 1099) .nil .nil) .nil) (.node (se 843) .nil .nil)) (.node (se 459) (.node (se 715) .nil .nil) (.node (se 971) .nil .nil)))) (.node (se 107) (.node (se 171) (.node (se 299) (.node (se 555) (.node (se 1067) .nil .nil) .nil) (.node (se 811) .nil .nil)) (.node (se 427) (.node (se 683) .nil .nil) (.node (se 939) .nil .nil))) (.node (se 235) (.node (se 363) (.node (se 619) .nil .nil) (.node (se 875) .nil .nil)) (.node (se 491) (.node (se 747) .nil .nil) (.node (se 1003) .nil .nil))))) (.node (Pre.o_60 P) (.node (se 91) (.node (se 155) (.node (se 283) (.node (se 539) (.node (se 1051) .nil .nil) .nil) (.node (se 795) .nil .nil)) (.node (se 411) (.node (se 667) .nil .nil) (.node (se 923) .nil .nil))) (.node (se 219) (.node (se 347) (.node (se 603) .nil .nil) (.node (se 859) .nil .nil)) (.node (se 475) (.node (se 731) .nil .nil) (.node (se 987) .nil .nil)))) (.node (se 123) (.node (se 187) (.node (se 315) (.node (se 571) (.node (se 1083) .nil .nil) .nil) (.node (se 827) .nil .nil)) (.node (se 443) (.node (se 699) .nil .nil) (.node (se 955) .nil .nil))) (.node (se 251) (.node (se 379) (.node (se 635) .nil .nil) (.node (se 891) .nil .nil)) (.node (se 507) (.node (se 763) .nil .nil) (.node (se 1019) .nil .nil)))))))) (.node (PySem.W.boot_o_6 P) (.node (PySem.W.boot_o_10 P) (.node (Pre.o_10 P) (.node (Pre.o_26 P) (.node (Pre.o_66 P) (.node ri (.node ri (.node ri (.node ri .nil .nil) .nil) (.node ri .nil .nil)) (.node ri (.node ri .nil .nil) (.node ri .nil .nil))) (.node ri (.node ri (.node ri (.node ri .nil .nil) .nil) (.node ri .nil .nil)) (.node ri (.node ri .nil .nil) (.node ri .nil .nil)))) (.node ri (.node ri (.node ri (.node ri (.node ri .nil .nil) .nil) (.node ri .nil .nil)) (.node ri (.node ri .nil .nil) (.node ri .nil .nil))) (.node ri (.node ri (.node ri .nil .nil) (.node ri .nil .nil)) (.node ri (.node ri .nil .nil) (.node ri .nil .nil))))) (.node (Pre.o_50 P) (.node ri (.node ri (.node ri (.node ri (.node ri .nil .nil) .nil) (.node ri .nil .nil)) (.node ri (.node ri .nil .nil) (.node ri .nil .nil))) (.node ri (.node ri (.node ri .nil .nil) (.node ri .nil .nil)) (.node ri (.node ri .nil .nil) (.node ri .nil .nil)))) (.node ri (.node ri (.node ri (.node ri (.node ri .nil .nil) .nil) (.node ri .nil .nil)) (.node ri (.node ri .nil .nil) (.node ri .nil .nil))) (.node ri (.node ri (.node ri .nil .nil) (.node ri .nil .nil)) (.node ri (.node ri .nil .nil) (.node ri .nil .nil)))))) (.node (Pre.o_18 P) (.node (Pre.o_38 P) (.node (ls 256) (.node ri (.node ri (.node ri (.node ri .nil .nil) .nil) (.node ri .nil .nil)) (.node ri (.node ri .nil .nil) (.node ri .nil .nil))) (.node ri (.node ri (.node ri (.node ri .nil .nil) .nil) (.node ri .nil .nil)) (.node ri (.node ri .nil .nil) (.node ri .nil .nil)))) (.node ri (.node ri (.node ri (.node ri (.node ri .nil .nil) .nil) (.node ri .nil .nil)) (.node ri (.node ri .nil .nil) (.node ri .nil .nil))) (.node ri (.node ri (.node ri .nil .nil) (.node ri .nil .nil)) (.node ri (.node ri .nil .nil) (.node ri .nil .nil))))) (.node (Pre.o_58 P) (.node ri (.node ri (.node ri (.node ri (.node ri .nil .nil) .nil) (.node ri .nil .nil)) (.node ri (.node ri .nil .nil) (.node ri .nil .nil))) (.node ri (.node ri (.node ri .nil .nil) (.node ri .nil .nil)) (.node ri (.node ri .nil .nil) (.node ri .nil .nil)))) (.node ri (.node ri (.node ri (.node ri (.node ri .nil .nil) .nil) (.node ri .nil .nil)) (.node ri (.node ri .nil .nil) (.node ri .nil .nil))) (.node ri (.node ri (.node ri .nil .nil) (.node ri .nil .nil)) (.node ri (.node ri .nil .nil) (.node ri .nil .nil))))))) (.node (Pre.o_4 P) (.node (Pre.o_14 P) (.node (Pre.o_34 P) (.node (Pre.o_70 P) (.node ri (.node ri (.node ri (.node ri .nil .nil) .nil) (.node ri .nil .nil)) (.node ri (.node ri .nil .nil) (.node ri .nil .nil))) (.node ri (.node ri (.node ri (.node ri .nil .nil) .nil) (.node ri .nil .nil)) (.node ri (.node ri .nil .nil) (.node ri .nil .nil)))) (.node ri (.node ri (.node ri (.node ri (.node ri .nil .nil) .nil) (.node ri .nil .nil)) (.node ri (.node ri .nil .nil) (.node ri .nil .nil))) (.node ri (.node ri (.node ri .nil .nil) (.node ri .nil .nil)) (.node ri (.node ri .nil .nil) (.node ri .nil .nil))))) (.node (Pre.o_54 P) (.node ri (.node ri (.node ri (.node ri (.node ri .nil .nil) .nil) (.node ri .nil .nil)) (.node ri (.node ri .nil .nil) (.node ri .nil .nil))) (.node ri (.node ri (.node ri .nil .nil) (.node ri .nil .nil)) (.node ri (.node ri .nil .nil) (.node ri .nil .nil)))) (.node ri (.node ri (.node ri (.node ri (.node ri .nil .nil) .nil) (.node ri .nil .nil)) (.node ri (.node ri .nil .nil) (.node ri .nil .nil))) (.node ri (.node ri (.node ri .nil .nil) (.node ri .nil .nil)) (.node ri (.node ri .nil .nil) (.node ri .nil .nil)))))) (.node (Pre.o_22 P) (.node (Pre.o_42 P) (.node ri (.node ri (.node ri (.node ri (.node ri .nil .nil) .nil) (.node ri .nil .nil)) (.node ri (.node ri .nil .nil) (.node ri .nil .nil))) (.node ri (.node ri (.node ri (.node (se 1101) .nil .nil) .nil) (.node ri .nil .nil)) (.node ri (.node ri .nil .nil) (.node ri .nil .nil)))) (.node ri (.node ri (.node ri (.node ri (.node ri .nil .nil) .nil) (.node ri .nil .nil)) (.node ri (.node ri .nil .nil) (.node ri .nil .nil))) (.node ri (.node ri (.node ri .nil .nil) (.node ri .nil .nil)) (.node ri (.node ri .nil .nil) (.node ri .nil .nil))))) (.node (Pre.o_62 P) (.node ri (.node ri (.node ri (.node ri (.node ri .nil .nil) .nil) (.node ri .nil .nil)) (.node ri (.node ri .nil .nil) (.node ri .nil .nil))) (.node ri (.node ri (.node ri .nil .nil) (.node ri .nil .nil)) (.node ri (.node ri .nil .nil) (.node ri .nil .nil)))) (.node ri (.node ri (.node ri (.node ri (.node ri .nil .nil) .nil) (.node ri .nil .nil)) (.node ri (.node ri .nil .nil) (.node ri .nil .nil))) (.node ri (.node ri (.node ri .nil .nil) (.node ri .nil .nil)) (.node ri (.node ri .nil .nil) (.node ri .nil .nil))))))))))
noncomputable def sE (P : Params) (os : OsState) : SharedT := shr (tE P) 1103 17173 os
noncomputable def st4 : List Stmt := (PySem.Challenge.pw_ui0507_14.main.body).drop 11
noncomputable def runW (p : Program) (w : World) (n : Nat) (s : SharedT) (t : Thread) : Option (Flow × SharedT × Code × Pos) := PySem.W.Fast.tw10110043849684766642 PySem.W.Fast.tw14364793385576792824 p w 11 (some (Value.ref 6)) 1 n s t
theorem runW_eq {p : Program} {w : World} {n : Nat} {s : SharedT} {t : Thread} : segRunT treeTable p w 11 (some (Value.ref 6)) 1 n s t = runW p w n s t := by
  unfold runW
  rw [← PySem.W.Fast.te10110043849684766642, ← PySem.W.Fast.te14364793385576792824]
noncomputable def thr4 (b : List Stmt) : Thread := piecesOf st4 Pre.env_1 (Code.body b Pre.env_1) { line := 32, col := 0, endLine := 32, endCol := 6 } [topFrame { line := 0, col := 0, endLine := 0, endCol := 0 }]
def wP (P : Params) : World := { draws := fun _ _ => 0, params := P }
noncomputable def tF (P : Params) : BT := match runW PySem.Challenge.pw_ui0507_14 (wF (wP P)) 787 (sE P {}) (thr4 []) with | some r => r.2.1.tree | none => tE P
noncomputable def sF (P : Params) (os : OsState) : SharedT := shr (tF P) 1228 17359 os
theorem last (p : Program) (w : World) (b : List Stmt) (os : OsState) : goW p (wF w) 37 (a255 w.params os) (thrA p w b os) = some (b255 w.params os, thrB p w b os (a255 w.params os)) ∧
    goW p (wT w) 37 (a255 w.params os) (thrA p w b os) = some (b255 w.params os, thrB p w b os (a255 w.params os)) ∧
    runW p w 517 (b255 w.params os) (thrB p w b os (a255 w.params os)) = some (.next, sE w.params os, Code.body b Pre.env_1, { line := 32, col := 0, endLine := 32, endCol := 6 }) := ⟨by kernel_rfl, by kernel_rfl, by kernel_rfl⟩
theorem start_ (p : Program) (w : World) (b : List Stmt) (os : OsState) : goW p (wF w) 92 (st0 w.params os) (thr0 b) = some (a0 w.params os, thrA p w b os) ∧ goW p (wT w) 92 (st0 w.params os) (thr0 b) = some (a0 w.params os, thrA p w b os) := ⟨by kernel_rfl, by kernel_rfl⟩
theorem rest (p : Program) (w : World) (b : List Stmt) (os : OsState) : runW p (wF w) 787 (sE w.params os) (thr4 b) = some (.next, sF w.params os, Code.body b Pre.env_1, { line := 109, col := 0, endLine := 123, endCol := 32 }) ∧ runW p (wT w) 787 (sE w.params os) (thr4 b) = some (.next, sF w.params os, Code.body b Pre.env_1, { line := 109, col := 0, endLine := 123, endCol := 32 }) := ⟨by kernel_rfl, by kernel_rfl⟩
def GoS (p : Program) (w : World) (n : Nat) (s : SharedT) (t : Thread) (s' : SharedT) (t' : Thread) : Prop := segGo treeTable p w 11 (some (Value.ref 6)) 1 n s.abs t = some (s'.abs, t')
theorem sg_trans {tb : String → Option Builtin} {p : Program} {w : World} {n₀ : Nat} {ann : Option Value} {b : Nat} : ∀ {n m : Nat} {s s' : Shared} {t t' : Thread} {r : Shared × Thread}, segGo tb p w n₀ ann b n s t = some (s', t') → segGo tb p w n₀ ann b m s' t' = some r → segGo tb p w n₀ ann b (n + m) s t = some r
  | 0, m, s, s', t, t', r, h, k => by
    obtain ⟨rfl, rfl⟩ : s = s' ∧ t = t' := by simpa [segGo] using h
    rw [Nat.zero_add]; exact k
  | n + 1, m, s, s', t, t', r, h, k => by
    rw [show n + 1 + m = n + m + 1 by omega]
    unfold segGo at h ⊢
    cases he : endAt b t with
    | some f => rw [he] at h; cases h
    | none =>
      rw [he] at h
      cases hk : stepOk n₀ ann t with
      | false => rw [hk] at h; cases h
      | true =>
        rw [hk] at h
        cases hs : step (denote tb) p w s t with
        | halt o s₂ => rw [hs] at h; cases h
        | go s₂ t₂ => rw [hs] at h; exact sg_trans h k
theorem GoS.trans {p : Program} {w : World} {n m : Nat} {s s' s'' : SharedT} {t t' t'' : Thread} (h : GoS p w n s t s' t') (k : GoS p w m s' t' s'' t'') : GoS p w (n + m) s t s'' t'' := sg_trans h k
theorem GoS.run {p : Program} {w : World} {n N : Nat} {s s' : SharedT} {t t' : Thread} {r : Flow × Shared × Code × Pos} (h : GoS p w n s t s' t') (k : segRun treeTable p w 11 (some (Value.ref 6)) 1 N s'.abs t' = some r) : segRun treeTable p w 11 (some (Value.ref 6)) 1 (n + N) s.abs t = some r := seg_go h k
theorem run1 {p : Program} {w : World} {n : Nat} {s s' : SharedT} {t : Thread} {f : Flow} {c : Code} {q : Pos} (h : runW p w n s t = some (f, s', c, q)) : segRun treeTable p w 11 (some (Value.ref 6)) 1 n s.abs t = some (f, s'.abs, c, q) := segRun_of (runW_eq.trans h)
theorem one_ {p : Program} {w : World} {n : Nat} {s s' : SharedT} {t t' : Thread} (h : goW p w n s t = some (s', t')) : GoS p w n s t s' t' := segGo_of (goW_eq.trans h)
theorem run2 {p : Program} {w : World} {n : Nat} {s s' : SharedT} {t : Thread} {f : Flow} {c : Code} {q : Pos} (hF : runW p (wF w) n s t = some (f, s', c, q)) (hT : runW p (wT w) n s t = some (f, s', c, q)) : segRun treeTable p w 11 (some (Value.ref 6)) 1 n s.abs t = some (f, s'.abs, c, q) := by
  refine run1 ?_
  have e := World.withFollow_self w "special-get-raises"
  cases h : w.params.followText "special-get-raises" with
  | false => rw [h] at e; unfold wF at hF; rw [e] at hF; exact hF
  | true => rw [h] at e; unfold wT at hT; rw [e] at hT; exact hT
theorem two_ {p : Program} {w : World} {n : Nat} {s s' : SharedT} {t t' : Thread} (hF : goW p (wF w) n s t = some (s', t')) (hT : goW p (wT w) n s t = some (s', t')) : GoS p w n s t s' t' := by
  refine one_ ?_
  have e := World.withFollow_self w "special-get-raises"
  cases h : w.params.followText "special-get-raises" with
  | false => rw [h] at e; unfold wF at hF; rw [e] at hF; exact hF
  | true => rw [h] at e; unfold wT at hT; rw [e] at hT; exact hT
theorem h0 (p : Program) (w : World) (b : List Stmt) (os : OsState) : GoS p w 4263 (a0 w.params os) (thrA p w b os) (a8 w.params os) (thrA p w b os) := by
  obtain ⟨f0, t0, v0, f1, t1, v1, f2, t2, v2, f3, t3, v3, f4, t4, v4, f5, t5, v5, f6, t6, v6, f7, t7, v7⟩ := g0 p w b os
  exact (((((((((((((((two_ f0 t0).trans (one_ v0)).trans (two_ f1 t1)).trans (one_ v1)).trans (two_ f2 t2)).trans (one_ v2)).trans (two_ f3 t3)).trans (one_ v3)).trans (two_ f4 t4)).trans (one_ v4)).trans (two_ f5 t5)).trans (one_ v5)).trans (two_ f6 t6)).trans (one_ v6)).trans (two_ f7 t7)).trans (one_ v7)
theorem h8 (p : Program) (w : World) (b : List Stmt) (os : OsState) : GoS p w 4309 (a8 w.params os) (thrA p w b os) (a16 w.params os) (thrA p w b os) := by
  obtain ⟨f8, t8, v8, f9, t9, v9, f10, t10, v10, f11, t11, v11, f12, t12, v12, f13, t13, v13, f14, t14, v14, f15, t15, v15⟩ := g8 p w b os
  exact (((((((((((((((two_ f8 t8).trans (one_ v8)).trans (two_ f9 t9)).trans (one_ v9)).trans (two_ f10 t10)).trans (one_ v10)).trans (two_ f11 t11)).trans (one_ v11)).trans (two_ f12 t12)).trans (one_ v12)).trans (two_ f13 t13)).trans (one_ v13)).trans (two_ f14 t14)).trans (one_ v14)).trans (two_ f15 t15)).trans (one_ v15)
theorem h16 (p : Program) (w : World) (b : List Stmt) (os : OsState) : GoS p w 4309 (a16 w.params os) (thrA p w b os) (a24 w.params os) (thrA p w b os) := by
  obtain ⟨f16, t16, v16, f17, t17, v17, f18, t18, v18, f19, t19, v19, f20, t20, v20, f21, t21, v21, f22, t22, v22, f23, t23, v23⟩ := g16 p w b os
  exact (((((((((((((((two_ f16 t16).trans (one_ v16)).trans (two_ f17 t17)).trans (one_ v17)).trans (two_ f18 t18)).trans (one_ v18)).trans (two_ f19 t19)).trans (one_ v19)).trans (two_ f20 t20)).trans (one_ v20)).trans (two_ f21 t21)).trans (one_ v21)).trans (two_ f22 t22)).trans (one_ v22)).trans (two_ f23 t23)).trans (one_ v23)
theorem h24 (p : Program) (w : World) (b : List Stmt) (os : OsState) : GoS p w 4364 (a24 w.params os) (thrA p w b os) (a32 w.params os) (thrA p w b os) := by
  obtain ⟨f24, t24, v24, f25, t25, v25, f26, t26, v26, f27, t27, v27, f28, t28, v28, f29, t29, v29, f30, t30, v30, f31, t31, v31⟩ := g24 p w b os
  exact (((((((((((((((two_ f24 t24).trans (one_ v24)).trans (two_ f25 t25)).trans (one_ v25)).trans (two_ f26 t26)).trans (one_ v26)).trans (two_ f27 t27)).trans (one_ v27)).trans (two_ f28 t28)).trans (one_ v28)).trans (two_ f29 t29)).trans (one_ v29)).trans (two_ f30 t30)).trans (one_ v30)).trans (two_ f31 t31)).trans (one_ v31)
theorem h32 (p : Program) (w : World) (b : List Stmt) (os : OsState) : GoS p w 4309 (a32 w.params os) (thrA p w b os) (a40 w.params os) (thrA p w b os) := by
  obtain ⟨f32, t32, v32, f33, t33, v33, f34, t34, v34, f35, t35, v35, f36, t36, v36, f37, t37, v37, f38, t38, v38, f39, t39, v39⟩ := g32 p w b os
  exact (((((((((((((((two_ f32 t32).trans (one_ v32)).trans (two_ f33 t33)).trans (one_ v33)).trans (two_ f34 t34)).trans (one_ v34)).trans (two_ f35 t35)).trans (one_ v35)).trans (two_ f36 t36)).trans (one_ v36)).trans (two_ f37 t37)).trans (one_ v37)).trans (two_ f38 t38)).trans (one_ v38)).trans (two_ f39 t39)).trans (one_ v39)
theorem h40 (p : Program) (w : World) (b : List Stmt) (os : OsState) : GoS p w 4364 (a40 w.params os) (thrA p w b os) (a48 w.params os) (thrA p w b os) := by
  obtain ⟨f40, t40, v40, f41, t41, v41, f42, t42, v42, f43, t43, v43, f44, t44, v44, f45, t45, v45, f46, t46, v46, f47, t47, v47⟩ := g40 p w b os
  exact (((((((((((((((two_ f40 t40).trans (one_ v40)).trans (two_ f41 t41)).trans (one_ v41)).trans (two_ f42 t42)).trans (one_ v42)).trans (two_ f43 t43)).trans (one_ v43)).trans (two_ f44 t44)).trans (one_ v44)).trans (two_ f45 t45)).trans (one_ v45)).trans (two_ f46 t46)).trans (one_ v46)).trans (two_ f47 t47)).trans (one_ v47)
theorem h48 (p : Program) (w : World) (b : List Stmt) (os : OsState) : GoS p w 4364 (a48 w.params os) (thrA p w b os) (a56 w.params os) (thrA p w b os) := by
  obtain ⟨f48, t48, v48, f49, t49, v49, f50, t50, v50, f51, t51, v51, f52, t52, v52, f53, t53, v53, f54, t54, v54, f55, t55, v55⟩ := g48 p w b os
  exact (((((((((((((((two_ f48 t48).trans (one_ v48)).trans (two_ f49 t49)).trans (one_ v49)).trans (two_ f50 t50)).trans (one_ v50)).trans (two_ f51 t51)).trans (one_ v51)).trans (two_ f52 t52)).trans (one_ v52)).trans (two_ f53 t53)).trans (one_ v53)).trans (two_ f54 t54)).trans (one_ v54)).trans (two_ f55 t55)).trans (one_ v55)
theorem h56 (p : Program) (w : World) (b : List Stmt) (os : OsState) : GoS p w 4420 (a56 w.params os) (thrA p w b os) (a64 w.params os) (thrA p w b os) := by
  obtain ⟨f56, t56, v56, f57, t57, v57, f58, t58, v58, f59, t59, v59, f60, t60, v60, f61, t61, v61, f62, t62, v62, f63, t63, v63⟩ := g56 p w b os
  exact (((((((((((((((two_ f56 t56).trans (one_ v56)).trans (two_ f57 t57)).trans (one_ v57)).trans (two_ f58 t58)).trans (one_ v58)).trans (two_ f59 t59)).trans (one_ v59)).trans (two_ f60 t60)).trans (one_ v60)).trans (two_ f61 t61)).trans (one_ v61)).trans (two_ f62 t62)).trans (one_ v62)).trans (two_ f63 t63)).trans (one_ v63)
theorem h64 (p : Program) (w : World) (b : List Stmt) (os : OsState) : GoS p w 4253 (a64 w.params os) (thrA p w b os) (a72 w.params os) (thrA p w b os) := by
  obtain ⟨f64, t64, v64, f65, t65, v65, f66, t66, v66, f67, t67, v67, f68, t68, v68, f69, t69, v69, f70, t70, v70, f71, t71, v71⟩ := g64 p w b os
  exact (((((((((((((((two_ f64 t64).trans (one_ v64)).trans (two_ f65 t65)).trans (one_ v65)).trans (two_ f66 t66)).trans (one_ v66)).trans (two_ f67 t67)).trans (one_ v67)).trans (two_ f68 t68)).trans (one_ v68)).trans (two_ f69 t69)).trans (one_ v69)).trans (two_ f70 t70)).trans (one_ v70)).trans (two_ f71 t71)).trans (one_ v71)
theorem h72 (p : Program) (w : World) (b : List Stmt) (os : OsState) : GoS p w 4308 (a72 w.params os) (thrA p w b os) (a80 w.params os) (thrA p w b os) := by
  obtain ⟨f72, t72, v72, f73, t73, v73, f74, t74, v74, f75, t75, v75, f76, t76, v76, f77, t77, v77, f78, t78, v78, f79, t79, v79⟩ := g72 p w b os
  exact (((((((((((((((two_ f72 t72).trans (one_ v72)).trans (two_ f73 t73)).trans (one_ v73)).trans (two_ f74 t74)).trans (one_ v74)).trans (two_ f75 t75)).trans (one_ v75)).trans (two_ f76 t76)).trans (one_ v76)).trans (two_ f77 t77)).trans (one_ v77)).trans (two_ f78 t78)).trans (one_ v78)).trans (two_ f79 t79)).trans (one_ v79)
theorem h80 (p : Program) (w : World) (b : List Stmt) (os : OsState) : GoS p w 4308 (a80 w.params os) (thrA p w b os) (a88 w.params os) (thrA p w b os) := by
  obtain ⟨f80, t80, v80, f81, t81, v81, f82, t82, v82, f83, t83, v83, f84, t84, v84, f85, t85, v85, f86, t86, v86, f87, t87, v87⟩ := g80 p w b os
  exact (((((((((((((((two_ f80 t80).trans (one_ v80)).trans (two_ f81 t81)).trans (one_ v81)).trans (two_ f82 t82)).trans (one_ v82)).trans (two_ f83 t83)).trans (one_ v83)).trans (two_ f84 t84)).trans (one_ v84)).trans (two_ f85 t85)).trans (one_ v85)).trans (two_ f86 t86)).trans (one_ v86)).trans (two_ f87 t87)).trans (one_ v87)
theorem h88 (p : Program) (w : World) (b : List Stmt) (os : OsState) : GoS p w 4364 (a88 w.params os) (thrA p w b os) (a96 w.params os) (thrA p w b os) := by
  obtain ⟨f88, t88, v88, f89, t89, v89, f90, t90, v90, f91, t91, v91, f92, t92, v92, f93, t93, v93, f94, t94, v94, f95, t95, v95⟩ := g88 p w b os
  exact (((((((((((((((two_ f88 t88).trans (one_ v88)).trans (two_ f89 t89)).trans (one_ v89)).trans (two_ f90 t90)).trans (one_ v90)).trans (two_ f91 t91)).trans (one_ v91)).trans (two_ f92 t92)).trans (one_ v92)).trans (two_ f93 t93)).trans (one_ v93)).trans (two_ f94 t94)).trans (one_ v94)).trans (two_ f95 t95)).trans (one_ v95)
theorem h96 (p : Program) (w : World) (b : List Stmt) (os : OsState) : GoS p w 4308 (a96 w.params os) (thrA p w b os) (a104 w.params os) (thrA p w b os) := by
  obtain ⟨f96, t96, v96, f97, t97, v97, f98, t98, v98, f99, t99, v99, f100, t100, v100, f101, t101, v101, f102, t102, v102, f103, t103, v103⟩ := g96 p w b os
  exact (((((((((((((((two_ f96 t96).trans (one_ v96)).trans (two_ f97 t97)).trans (one_ v97)).trans (two_ f98 t98)).trans (one_ v98)).trans (two_ f99 t99)).trans (one_ v99)).trans (two_ f100 t100)).trans (one_ v100)).trans (two_ f101 t101)).trans (one_ v101)).trans (two_ f102 t102)).trans (one_ v102)).trans (two_ f103 t103)).trans (one_ v103)
theorem h104 (p : Program) (w : World) (b : List Stmt) (os : OsState) : GoS p w 4364 (a104 w.params os) (thrA p w b os) (a112 w.params os) (thrA p w b os) := by
  obtain ⟨f104, t104, v104, f105, t105, v105, f106, t106, v106, f107, t107, v107, f108, t108, v108, f109, t109, v109, f110, t110, v110, f111, t111, v111⟩ := g104 p w b os
  exact (((((((((((((((two_ f104 t104).trans (one_ v104)).trans (two_ f105 t105)).trans (one_ v105)).trans (two_ f106 t106)).trans (one_ v106)).trans (two_ f107 t107)).trans (one_ v107)).trans (two_ f108 t108)).trans (one_ v108)).trans (two_ f109 t109)).trans (one_ v109)).trans (two_ f110 t110)).trans (one_ v110)).trans (two_ f111 t111)).trans (one_ v111)
theorem h112 (p : Program) (w : World) (b : List Stmt) (os : OsState) : GoS p w 4364 (a112 w.params os) (thrA p w b os) (a120 w.params os) (thrA p w b os) := by
  obtain ⟨f112, t112, v112, f113, t113, v113, f114, t114, v114, f115, t115, v115, f116, t116, v116, f117, t117, v117, f118, t118, v118, f119, t119, v119⟩ := g112 p w b os
  exact (((((((((((((((two_ f112 t112).trans (one_ v112)).trans (two_ f113 t113)).trans (one_ v113)).trans (two_ f114 t114)).trans (one_ v114)).trans (two_ f115 t115)).trans (one_ v115)).trans (two_ f116 t116)).trans (one_ v116)).trans (two_ f117 t117)).trans (one_ v117)).trans (two_ f118 t118)).trans (one_ v118)).trans (two_ f119 t119)).trans (one_ v119)
theorem h120 (p : Program) (w : World) (b : List Stmt) (os : OsState) : GoS p w 4420 (a120 w.params os) (thrA p w b os) (a128 w.params os) (thrA p w b os) := by
  obtain ⟨f120, t120, v120, f121, t121, v121, f122, t122, v122, f123, t123, v123, f124, t124, v124, f125, t125, v125, f126, t126, v126, f127, t127, v127⟩ := g120 p w b os
  exact (((((((((((((((two_ f120 t120).trans (one_ v120)).trans (two_ f121 t121)).trans (one_ v121)).trans (two_ f122 t122)).trans (one_ v122)).trans (two_ f123 t123)).trans (one_ v123)).trans (two_ f124 t124)).trans (one_ v124)).trans (two_ f125 t125)).trans (one_ v125)).trans (two_ f126 t126)).trans (one_ v126)).trans (two_ f127 t127)).trans (one_ v127)
theorem h128 (p : Program) (w : World) (b : List Stmt) (os : OsState) : GoS p w 4253 (a128 w.params os) (thrA p w b os) (a136 w.params os) (thrA p w b os) := by
  obtain ⟨f128, t128, v128, f129, t129, v129, f130, t130, v130, f131, t131, v131, f132, t132, v132, f133, t133, v133, f134, t134, v134, f135, t135, v135⟩ := g128 p w b os
  exact (((((((((((((((two_ f128 t128).trans (one_ v128)).trans (two_ f129 t129)).trans (one_ v129)).trans (two_ f130 t130)).trans (one_ v130)).trans (two_ f131 t131)).trans (one_ v131)).trans (two_ f132 t132)).trans (one_ v132)).trans (two_ f133 t133)).trans (one_ v133)).trans (two_ f134 t134)).trans (one_ v134)).trans (two_ f135 t135)).trans (one_ v135)
theorem h136 (p : Program) (w : World) (b : List Stmt) (os : OsState) : GoS p w 4308 (a136 w.params os) (thrA p w b os) (a144 w.params os) (thrA p w b os) := by
  obtain ⟨f136, t136, v136, f137, t137, v137, f138, t138, v138, f139, t139, v139, f140, t140, v140, f141, t141, v141, f142, t142, v142, f143, t143, v143⟩ := g136 p w b os
  exact (((((((((((((((two_ f136 t136).trans (one_ v136)).trans (two_ f137 t137)).trans (one_ v137)).trans (two_ f138 t138)).trans (one_ v138)).trans (two_ f139 t139)).trans (one_ v139)).trans (two_ f140 t140)).trans (one_ v140)).trans (two_ f141 t141)).trans (one_ v141)).trans (two_ f142 t142)).trans (one_ v142)).trans (two_ f143 t143)).trans (one_ v143)
theorem h144 (p : Program) (w : World) (b : List Stmt) (os : OsState) : GoS p w 4308 (a144 w.params os) (thrA p w b os) (a152 w.params os) (thrA p w b os) := by
  obtain ⟨f144, t144, v144, f145, t145, v145, f146, t146, v146, f147, t147, v147, f148, t148, v148, f149, t149, v149, f150, t150, v150, f151, t151, v151⟩ := g144 p w b os
  exact (((((((((((((((two_ f144 t144).trans (one_ v144)).trans (two_ f145 t145)).trans (one_ v145)).trans (two_ f146 t146)).trans (one_ v146)).trans (two_ f147 t147)).trans (one_ v147)).trans (two_ f148 t148)).trans (one_ v148)).trans (two_ f149 t149)).trans (one_ v149)).trans (two_ f150 t150)).trans (one_ v150)).trans (two_ f151 t151)).trans (one_ v151)
theorem h152 (p : Program) (w : World) (b : List Stmt) (os : OsState) : GoS p w 4364 (a152 w.params os) (thrA p w b os) (a160 w.params os) (thrA p w b os) := by
  obtain ⟨f152, t152, v152, f153, t153, v153, f154, t154, v154, f155, t155, v155, f156, t156, v156, f157, t157, v157, f158, t158, v158, f159, t159, v159⟩ := g152 p w b os
  exact (((((((((((((((two_ f152 t152).trans (one_ v152)).trans (two_ f153 t153)).trans (one_ v153)).trans (two_ f154 t154)).trans (one_ v154)).trans (two_ f155 t155)).trans (one_ v155)).trans (two_ f156 t156)).trans (one_ v156)).trans (two_ f157 t157)).trans (one_ v157)).trans (two_ f158 t158)).trans (one_ v158)).trans (two_ f159 t159)).trans (one_ v159)
theorem h160 (p : Program) (w : World) (b : List Stmt) (os : OsState) : GoS p w 4308 (a160 w.params os) (thrA p w b os) (a168 w.params os) (thrA p w b os) := by
  obtain ⟨f160, t160, v160, f161, t161, v161, f162, t162, v162, f163, t163, v163, f164, t164, v164, f165, t165, v165, f166, t166, v166, f167, t167, v167⟩ := g160 p w b os
  exact (((((((((((((((two_ f160 t160).trans (one_ v160)).trans (two_ f161 t161)).trans (one_ v161)).trans (two_ f162 t162)).trans (one_ v162)).trans (two_ f163 t163)).trans (one_ v163)).trans (two_ f164 t164)).trans (one_ v164)).trans (two_ f165 t165)).trans (one_ v165)).trans (two_ f166 t166)).trans (one_ v166)).trans (two_ f167 t167)).trans (one_ v167)
theorem h168 (p : Program) (w : World) (b : List Stmt) (os : OsState) : GoS p w 4364 (a168 w.params os) (thrA p w b os) (a176 w.params os) (thrA p w b os) := by
  obtain ⟨f168, t168, v168, f169, t169, v169, f170, t170, v170, f171, t171, v171, f172, t172, v172, f173, t173, v173, f174, t174, v174, f175, t175, v175⟩ := g168 p w b os
  exact (((((((((((((((two_ f168 t168).trans (one_ v168)).trans (two_ f169 t169)).trans (one_ v169)).trans (two_ f170 t170)).trans (one_ v170)).trans (two_ f171 t171)).trans (one_ v171)).trans (two_ f172 t172)).trans (one_ v172)).trans (two_ f173 t173)).trans (one_ v173)).trans (two_ f174 t174)).trans (one_ v174)).trans (two_ f175 t175)).trans (one_ v175)
theorem h176 (p : Program) (w : World) (b : List Stmt) (os : OsState) : GoS p w 4364 (a176 w.params os) (thrA p w b os) (a184 w.params os) (thrA p w b os) := by
  obtain ⟨f176, t176, v176, f177, t177, v177, f178, t178, v178, f179, t179, v179, f180, t180, v180, f181, t181, v181, f182, t182, v182, f183, t183, v183⟩ := g176 p w b os
  exact (((((((((((((((two_ f176 t176).trans (one_ v176)).trans (two_ f177 t177)).trans (one_ v177)).trans (two_ f178 t178)).trans (one_ v178)).trans (two_ f179 t179)).trans (one_ v179)).trans (two_ f180 t180)).trans (one_ v180)).trans (two_ f181 t181)).trans (one_ v181)).trans (two_ f182 t182)).trans (one_ v182)).trans (two_ f183 t183)).trans (one_ v183)
theorem h184 (p : Program) (w : World) (b : List Stmt) (os : OsState) : GoS p w 4420 (a184 w.params os) (thrA p w b os) (a192 w.params os) (thrA p w b os) := by
  obtain ⟨f184, t184, v184, f185, t185, v185, f186, t186, v186, f187, t187, v187, f188, t188, v188, f189, t189, v189, f190, t190, v190, f191, t191, v191⟩ := g184 p w b os
  exact (((((((((((((((two_ f184 t184).trans (one_ v184)).trans (two_ f185 t185)).trans (one_ v185)).trans (two_ f186 t186)).trans (one_ v186)).trans (two_ f187 t187)).trans (one_ v187)).trans (two_ f188 t188)).trans (one_ v188)).trans (two_ f189 t189)).trans (one_ v189)).trans (two_ f190 t190)).trans (one_ v190)).trans (two_ f191 t191)).trans (one_ v191)
theorem h192 (p : Program) (w : World) (b : List Stmt) (os : OsState) : GoS p w 4252 (a192 w.params os) (thrA p w b os) (a200 w.params os) (thrA p w b os) := by
  obtain ⟨f192, t192, v192, f193, t193, v193, f194, t194, v194, f195, t195, v195, f196, t196, v196, f197, t197, v197, f198, t198, v198, f199, t199, v199⟩ := g192 p w b os
  exact (((((((((((((((two_ f192 t192).trans (one_ v192)).trans (two_ f193 t193)).trans (one_ v193)).trans (two_ f194 t194)).trans (one_ v194)).trans (two_ f195 t195)).trans (one_ v195)).trans (two_ f196 t196)).trans (one_ v196)).trans (two_ f197 t197)).trans (one_ v197)).trans (two_ f198 t198)).trans (one_ v198)).trans (two_ f199 t199)).trans (one_ v199)
theorem h200 (p : Program) (w : World) (b : List Stmt) (os : OsState) : GoS p w 4308 (a200 w.params os) (thrA p w b os) (a208 w.params os) (thrA p w b os) := by
  obtain ⟨f200, t200, v200, f201, t201, v201, f202, t202, v202, f203, t203, v203, f204, t204, v204, f205, t205, v205, f206, t206, v206, f207, t207, v207⟩ := g200 p w b os
  exact (((((((((((((((two_ f200 t200).trans (one_ v200)).trans (two_ f201 t201)).trans (one_ v201)).trans (two_ f202 t202)).trans (one_ v202)).trans (two_ f203 t203)).trans (one_ v203)).trans (two_ f204 t204)).trans (one_ v204)).trans (two_ f205 t205)).trans (one_ v205)).trans (two_ f206 t206)).trans (one_ v206)).trans (two_ f207 t207)).trans (one_ v207)
theorem h208 (p : Program) (w : World) (b : List Stmt) (os : OsState) : GoS p w 4308 (a208 w.params os) (thrA p w b os) (a216 w.params os) (thrA p w b os) := by
  obtain ⟨f208, t208, v208, f209, t209, v209, f210, t210, v210, f211, t211, v211, f212, t212, v212, f213, t213, v213, f214, t214, v214, f215, t215, v215⟩ := g208 p w b os
  exact (((((((((((((((two_ f208 t208).trans (one_ v208)).trans (two_ f209 t209)).trans (one_ v209)).trans (two_ f210 t210)).trans (one_ v210)).trans (two_ f211 t211)).trans (one_ v211)).trans (two_ f212 t212)).trans (one_ v212)).trans (two_ f213 t213)).trans (one_ v213)).trans (two_ f214 t214)).trans (one_ v214)).trans (two_ f215 t215)).trans (one_ v215)
theorem h216 (p : Program) (w : World) (b : List Stmt) (os : OsState) : GoS p w 4364 (a216 w.params os) (thrA p w b os) (a224 w.params os) (thrA p w b os) := by
  obtain ⟨f216, t216, v216, f217, t217, v217, f218, t218, v218, f219, t219, v219, f220, t220, v220, f221, t221, v221, f222, t222, v222, f223, t223, v223⟩ := g216 p w b os
  exact (((((((((((((((two_ f216 t216).trans (one_ v216)).trans (two_ f217 t217)).trans (one_ v217)).trans (two_ f218 t218)).trans (one_ v218)).trans (two_ f219 t219)).trans (one_ v219)).trans (two_ f220 t220)).trans (one_ v220)).trans (two_ f221 t221)).trans (one_ v221)).trans (two_ f222 t222)).trans (one_ v222)).trans (two_ f223 t223)).trans (one_ v223)
theorem h224 (p : Program) (w : World) (b : List Stmt) (os : OsState) : GoS p w 4308 (a224 w.params os) (thrA p w b os) (a232 w.params os) (thrA p w b os) := by
  obtain ⟨f224, t224, v224, f225, t225, v225, f226, t226, v226, f227, t227, v227, f228, t228, v228, f229, t229, v229, f230, t230, v230, f231, t231, v231⟩ := g224 p w b os
  exact (((((((((((((((two_ f224 t224).trans (one_ v224)).trans (two_ f225 t225)).trans (one_ v225)).trans (two_ f226 t226)).trans (one_ v226)).trans (two_ f227 t227)).trans (one_ v227)).trans (two_ f228 t228)).trans (one_ v228)).trans (two_ f229 t229)).trans (one_ v229)).trans (two_ f230 t230)).trans (one_ v230)).trans (two_ f231 t231)).trans (one_ v231)
theorem h232 (p : Program) (w : World) (b : List Stmt) (os : OsState) : GoS p w 4364 (a232 w.params os) (thrA p w b os) (a240 w.params os) (thrA p w b os) := by
  obtain ⟨f232, t232, v232, f233, t233, v233, f234, t234, v234, f235, t235, v235, f236, t236, v236, f237, t237, v237, f238, t238, v238, f239, t239, v239⟩ := g232 p w b os
  exact (((((((((((((((two_ f232 t232).trans (one_ v232)).trans (two_ f233 t233)).trans (one_ v233)).trans (two_ f234 t234)).trans (one_ v234)).trans (two_ f235 t235)).trans (one_ v235)).trans (two_ f236 t236)).trans (one_ v236)).trans (two_ f237 t237)).trans (one_ v237)).trans (two_ f238 t238)).trans (one_ v238)).trans (two_ f239 t239)).trans (one_ v239)
theorem h240 (p : Program) (w : World) (b : List Stmt) (os : OsState) : GoS p w 4364 (a240 w.params os) (thrA p w b os) (a248 w.params os) (thrA p w b os) := by
  obtain ⟨f240, t240, v240, f241, t241, v241, f242, t242, v242, f243, t243, v243, f244, t244, v244, f245, t245, v245, f246, t246, v246, f247, t247, v247⟩ := g240 p w b os
  exact (((((((((((((((two_ f240 t240).trans (one_ v240)).trans (two_ f241 t241)).trans (one_ v241)).trans (two_ f242 t242)).trans (one_ v242)).trans (two_ f243 t243)).trans (one_ v243)).trans (two_ f244 t244)).trans (one_ v244)).trans (two_ f245 t245)).trans (one_ v245)).trans (two_ f246 t246)).trans (one_ v246)).trans (two_ f247 t247)).trans (one_ v247)
theorem h248 (p : Program) (w : World) (b : List Stmt) (os : OsState) : GoS p w 3864 (a248 w.params os) (thrA p w b os) (a255 w.params os) (thrA p w b os) := by
  obtain ⟨f248, t248, v248, f249, t249, v249, f250, t250, v250, f251, t251, v251, f252, t252, v252, f253, t253, v253, f254, t254, v254⟩ := g248 p w b os
  exact (((((((((((((two_ f248 t248).trans (one_ v248)).trans (two_ f249 t249)).trans (one_ v249)).trans (two_ f250 t250)).trans (one_ v250)).trans (two_ f251 t251)).trans (one_ v251)).trans (two_ f252 t252)).trans (one_ v252)).trans (two_ f253 t253)).trans (one_ v253)).trans (two_ f254 t254)).trans (one_ v254)
theorem loop_ (p : Program) (w : World) (b : List Stmt) (os : OsState) : GoS p w 138212 (a0 w.params os) (thrA p w b os) (a255 w.params os) (thrA p w b os) := ((((((((((((((((((((((((((((((((h0 p w b os)).trans (h8 p w b os)).trans (h16 p w b os)).trans (h24 p w b os)).trans (h32 p w b os)).trans (h40 p w b os)).trans (h48 p w b os)).trans (h56 p w b os)).trans (h64 p w b os)).trans (h72 p w b os)).trans (h80 p w b os)).trans (h88 p w b os)).trans (h96 p w b os)).trans (h104 p w b os)).trans (h112 p w b os)).trans (h120 p w b os)).trans (h128 p w b os)).trans (h136 p w b os)).trans (h144 p w b os)).trans (h152 p w b os)).trans (h160 p w b os)).trans (h168 p w b os)).trans (h176 p w b os)).trans (h184 p w b os)).trans (h192 p w b os)).trans (h200 p w b os)).trans (h208 p w b os)).trans (h216 p w b os)).trans (h224 p w b os)).trans (h232 p w b os)).trans (h240 p w b os)).trans (h248 p w b os)
theorem table_ (p : Program) (w : World) (b : List Stmt) (os : OsState) : segRun treeTable p w 11 (some (Value.ref 6)) 1 (92 + 138212 + 37 + 517) (st0 w.params os).abs (thr0 b) = some (.next, (sE w.params os).abs, Code.body b Pre.env_1, { line := 32, col := 0, endLine := 32, endCol := 6 }) := by
  obtain ⟨s1, s2⟩ := start_ p w b os
  obtain ⟨l1, l2, l3⟩ := last p w b os
  exact (((two_ s1 s2).trans (loop_ p w b os)).trans (two_ l1 l2)).run (run1 l3)
noncomputable def P6 : Program := PySem.Challenge.rw_ui0507_14.row.prog
noncomputable def H1 (P : Params) : Heap := absHeap (tF P) 1228 { }
theorem body_ : behindTheImports P6 = Pre.sts_4 ++ (Pre.sts_28 ++ (Pre.sts_44 ++ (st3 ++ (st4 ++ [])))) := by kernel_rfl
theorem pre_ (w : World) (os : OsState) : topGo treeTable P6 w 11 (some (Value.ref 6)) 12 ⟨boot_heap w.params, { toList := [] }, boot_drawn, boot_toks, os⟩ (topStub P6) =
    some ((shr (Pre.tree_4 w.params) 15 187 os).abs, ⟨denote treeTable (.body (behindTheImports P6) Pre.env_1), .body (behindTheImports P6) Pre.env_1, { line := 0, col := 0, endLine := 0, endCol := 0 }, [topFrame { line := 0, col := 0, endLine := 0, endCol := 0 }]⟩) := by kernel_rfl
theorem block_ (w : World) (b : List Stmt) (os : OsState) : segRun treeTable P6 w 11 (some (Value.ref 6)) 1 1 (shr (Pre.tree_4 w.params) 15 187 os).abs (blockOf (behindTheImports P6) Pre.env_1 (.body b Pre.env_1) { line := 0, col := 0, endLine := 0, endCol := 0 } [topFrame { line := 0, col := 0, endLine := 0, endCol := 0 }]) =
    some (.next, (shr (Pre.tree_4 w.params) 15 187 os).abs, .body b Pre.env_1, { line := 0, col := 0, endLine := 0, endCol := 0 }) := by kernel_rfl
theorem fin_ (w : World) (c : Code) (os : OsState) (q : Pos) : topRun treeTable P6 w 11 (some (Value.ref 6)) 2 (sF w.params os).abs ⟨doneF .next, c, q, [topFrame { line := 0, col := 0, endLine := 0, endCol := 0 }]⟩ = some (sF w.params os).abs := by kernel_rfl
theorem run_ (w : World) (os : OsState) : topRun treeTable P6 w 11 (some (Value.ref 6)) (12 + (1 + (225 + (214 + (305 + (92 + 138212 + 37 + 517 + (787 + 2))))))) ⟨boot_heap w.params, { toList := [] }, boot_drawn, boot_toks, os⟩ (topStub P6) = some ⟨H1 w.params, { toList := [] }, { }, 17359, os⟩ := by
  refine go_top (pre_ w os) (piece_block (block_ w _ os) ?_)
  rw [body_]
  refine Pre.chain P6 _ w os (st3 ++ (st4 ++ [])) _ _ ?_
  refine piece_app (table_ P6 w _ os) ?_
  obtain ⟨r1, r2⟩ := rest P6 w (Pre.sts_4 ++ (Pre.sts_28 ++ (Pre.sts_44 ++ (st3 ++ (st4 ++ []))))) os
  refine piece_app (run2 r1 r2) ?_
  exact piece_nil (fin_ w _ os _)

noncomputable def q6 : Program := { P6 with main := { P6.main with body := [0, 2, 3, 4, 6, 8, 9, 10, 16, 17, 18, 19, 20, 21, 23, 24].filterMap fun i => P6.main.body[i]? } }
def loose6 : List Str := [Str.ofString "_TABLE", Str.ofString "crc32", Str.ofString "adler32", Str.ofString "fletcher16", Str.ofString "xor8", Str.ofString "sum8", Str.ofString "_WIDTHS"]
theorem open6 : ∀ w : World, (fencedOpening treeTable P6 w 300000).map (fun s => (s.heap, s.gens, s.drawn, s.toks)) = some (boot_heap w.params, { toList := [] }, boot_drawn, boot_toks) := boot_open (by kernel_rfl) (by decide) (fun s => by kernel_rfl)
theorem size6 : ∀ w : World, ((boot_heap w.params).isNs mainGlobals && ({ toList := [] } : Array GenState).size == 0, (boot_heap w.params).objs.size, (boot_heap w.params).nsMap mainGlobals (Str.ofString "__annotations__")) = (true, 11, some (.ref 6)) := fun w => by kernel_rfl
noncomputable def S6 (P : Params) (os : OsState) : Shared := ⟨H1 P, { toList := [] }, { }, 17359, os⟩
theorem look1a (w : World) : staticsOk (importedModules P6.main.body) (boot_heap w.params) (H1 w.params) = true := by kernel_rfl
theorem look1b (w : World) : namesBound P6 (H1 w.params) = true := by kernel_rfl
theorem look1c (w : World) (os : OsState) : gensDone (S6 w.params os) = true := by kernel_rfl
theorem look1d (w : World) : laidKept (boot_heap w.params) (H1 w.params) = true := by kernel_rfl
noncomputable def Xt6 (s : Shared) : Bool := xlAt q6 [] s && recOk (RowW.records PySem.Challenge.rw_ui0507_14.row.toRowW) s
theorem look2 (w : World) (os : OsState) : openSeen q6 loose6 (importedModules P6.main.body) Xt6 true (S6 w.params os) = openGood q6 loose6 := by
  rw [PySem.W.Fast.te4187177175401517315]
  kernel_rfl
theorem left6 {α : Type} {Yf : Shared → α} {Ya : World → α} (hY : ∀ (w : World) (os : OsState), Yf (S6 w.params os) = Ya w) : LeftO P6 q6 loose6 Xt6 Yf Ya 300000 true :=
  LeftO.of_pieces (H₀ := boot_heap) (H₁ := H1) open6 size6 run_ (by decide) (fun w => funext fun os => looks_pair (by
    show (staticsOk _ _ _ && namesBound _ _ && gensDone _ && laidKept _ _) = true
    rw [look1a, look1b, look1d]
    exact look1c w os) (looks_pair (look2 w os) (hY w os)))
end Mine
local macro_rules | `(tactic| o_head $H) => `(tactic| refine holds_open (q := Mine.q6) (loose := Mine.loose6) (Xt := Mine.Xt6) (XP := XL Mine.q6 []) (Yf := Hook.obs $H) (Ya := Hook.val $H) (YP := Hook.says $H) (N := 300000) (Mine.left6 (by intro w os; kernel_rfl)) (Hook.of $H) (Hook.keeps $H) (fun s e => xl_of s (Bool.and_eq_true_iff.mp e).1) XL.keeps (by rfl) (by rfl) (by rfl) (fun s e => recFacts_of (Bool.and_eq_true_iff.mp e).2) (by rfl) (by first | assumption | decide +kernel) (by decide +kernel) ⟨rfl, rfl, rfl, rfl, rfl, by decide +kernel⟩ ?hw ?hc)
namespace Mine
set_option maxHeartbeats 0 in
open_top hd for PySem.Challenge.rw_ui0507_14
end Mine
namespace Mine
/-- what a def does, wherever it is called: from the ledger news and the arguments vs it comes back with r and the ledger news' that R tells -/
def Fun (prog : Program) (w : World) (K : Frag) (p : Program) (loose : List Str) (mean : ExcName → Option Value) (mg mb : Str → Option Value) (k : Nat) (f : Addr) (vs : List Value) (news : List (Addr × Obj)) (R : Value → List (Addr × Obj) → Prop) : Prop :=
  ∀ (dp un : Nat) (gd : Option (List Code)) (cn : Str) (cs : Scope) (a : Addr) (ccd : Value) (cl : List (Str × Addr)) (outer : List Env) (A₀ : Around) (base h₀ : Heap) (L : Addr) (m : Str → Option Value) (s : Shared) (Q E : Value → Shared → Prop),
    Below A₀ base outer h₀ → Fr h₀ L s.heap m → K.In h₀ → News h₀ L s.heap news → Top p loose mean mg mb h₀ → cs.kind = .function → dp + k < recursionLimit → un + 8 * k < cLine →
    (∀ r news' h' tk', R r news' → Fr h₀ L h' m → News h₀ L h' news' → Q r { s with heap := h', toks := tk' }) →
    wpAny (model prog w) (ktrTop dp un gd cn cs L a ccd cl outer) (call (.ref f) vs) Q E s
theorem bring {α : Type} {prog : Program} {w : World} {A : Around} {tree : Sem α} {Q : α → Shared → Prop} {E : Value → Shared → Prop} {s : Shared} {K : Frag} {h₀ : Heap} {p : Program} {loose : List Str} {mean : ExcName → Option Value} {mg mb : Str → Option Value}
    (C : Program → World → Frag → Program → List Str → (ExcName → Option Value) → (Str → Option Value) → (Str → Option Value) → Prop) (_X : K.In h₀) (_T : Top p loose mean mg mb h₀) (ctr : C prog w K p loose mean mg mb) (h : C prog w K p loose mean mg mb → wpAny (model prog w) A tree Q E s) : wpAny (model prog w) A tree Q E s := h ctr
section
variable {prog : Program} {w : World} {A : Around} {E : Value → Shared → Prop} {s : Shared} {env : Env} {h₀ : Heap} {target : Expr} {body : List Stmt} {Q : Flow → Shared → Prop}
/-- a for over a list of the ledger's, its target whatever it is -/
theorem turns_list {l : Addr} {vs : List Value} {nn : Nat} {m₀ : Str → Option Value} {news : List (Addr × Obj)} (J : Nat → (Str → Option Value) → List (Addr × Obj) → Prop)
    (hh : A.handled = none) (hl : (l, listOf vs.toArray nn) ∈ news) (F : Fr h₀ env.locals s.heap m₀) (N : News h₀ env.locals s.heap news) (hj : J 0 m₀ news) (hJl : ∀ i m nx, J i m nx → (l, listOf vs.toArray nn) ∈ nx)
    (turn : ∀ i v m₁ news₁ h tk own, vs[i]? = some v → OwnOff own (news₁.map (·.1)) → J i m₁ news₁ → Fr h₀ env.locals h m₁ → News h₀ env.locals h (news₁ ++ own) →
      wpAny (model prog w) A (assign target env v) (fun _ s₃ => wpAny (model prog w) A (execs body env) (InvPostG h₀ env.locals (J (i + 1)) own { s with heap := h, toks := tk } Q) E s₃) E { s with heap := h, toks := tk })
    (done : ∀ m₁ news₁ h tk, J vs.length m₁ news₁ → Fr h₀ env.locals h m₁ → News h₀ env.locals h news₁ → Q .next { s with heap := h, toks := tk }) :
    wpAny (model prog w) A (pyIter (.ref l)) (fun it s₂ => TurnsAt prog w A h₀ env target body Q E it s₂) E s := by
  have hol : s.heap.get? l = some (listOf vs.toArray nn) := (N _ hl).1
  have hls : s.heap.IsList l vs.toArray := ⟨_, hol, rfl, nn, rfl⟩
  have hne : l ≠ s.heap.objs.size := Nat.ne_of_lt (Heap.lt_size hol)
  refine wpAny_pyIter_list hls ?_
  have W := Walks.list (prog := prog) (w := w) hh s.heap.objs.size l hne vs.toArray
  have hlen : vs.toArray.size = vs.length := by simp
  rw [hlen] at W
  refine ⟨_, _, _, vs.length, _, _, _, m₀, news, J, rfl, KTurns.ofWalks W fun i v s Q E st q => letGo_listiter st.1 q, ?_, ?_, ?_, ⟨⟨_, Heap.get?_push_size _ rfl, rfl, rfl⟩, hls.at fun o e => Heap.get?_push_of_some _ e⟩, F.push _, (fun p hp => ⟨Heap.get?_push_of_some _ (N p hp).1, (N p hp).2⟩), hj, ?_, ?_⟩
  · intro hm
    rcases List.mem_cons.mp hm with e | hm
    · exact absurd F.ns.lt (e ▸ Nat.lt_irrefl _)
    · exact (N _ hl).2.1 ((List.mem_singleton.mp hm).symm)
  · intro b hb
    rw [List.mem_singleton.mp hb]
    exact next_is_new F
  · intro p hp hI
    exact absurd (Heap.lt_size (N p hp).1) ((List.mem_singleton.mp hI) ▸ Nat.lt_irrefl _)
  · intro i v m₁ news₁ hh' tk' own hin hP hJ hoff hown hget hfp hst F₁ N₁
    have hl₁ := hJl _ _ _ hJ
    have hP' : vs[i]? = some v := by simpa using hP
    have hI0 : h₀.get? s.heap.objs.size = none := next_is_new F
    obtain ⟨⟨oI, hoI, _⟩, _⟩ := id hst
    have hIown : (s.heap.objs.size, oI) ∈ own.filter fun p => decide (p.1 = s.heap.objs.size) := List.mem_filter.mpr ⟨hfp _ (List.mem_cons.mpr (.inl rfl)) hI0 _ hoI, by simp⟩
    have hsep : OwnOff (own.filter fun p => decide (p.1 = s.heap.objs.size)) (news₁.map (·.1)) := by
      intro p hp b hb e
      obtain ⟨q, hq, rfl⟩ := List.mem_map.mp hb
      have h1 : p.1 = s.heap.objs.size := by simpa using (List.mem_filter.mp hp).2
      exact hoff q hq (List.mem_singleton.mpr (e ▸ h1))
    have N₂ : News h₀ env.locals hh' (news₁ ++ own.filter fun p => decide (p.1 = s.heap.objs.size)) := fun p hp => N₁ p ((List.mem_append.mp hp).elim (fun h => List.mem_append.mpr (.inr h)) fun h => List.mem_append.mpr (.inl ((List.mem_filter.mp h).1)))
    have hlo : hh'.get? l = some (listOf vs.toArray nn) := (N₁ _ (List.mem_append.mpr (.inr hl₁))).1
    refine wpAny_mono (turn i v m₁ news₁ hh' tk' _ hP' hsep hJ F₁ N₂) (fun _ s₃ p3 => wpAny_mono p3 (fun f s₂ p => ?_) fun _ _ e => e) fun _ _ e => e
    have fin : InvEndG h₀ env.locals (J (i + 1)) (own.filter fun p => decide (p.1 = s.heap.objs.size)) { s with heap := hh', toks := tk' } s₂ →
        LoopStepU h₀ env.locals [s.heap.objs.size] own (J (i + 1)) { s with heap := hh', toks := tk' } .next s₂ := by
      rintro ⟨h', tk, m', news', nx, e, F', N', hn, ho, ha, hm⟩
      refine ⟨rfl, h', tk, m', nx, e, F', fun p hp => ?_, fun p hp hq => ?_, hm⟩
      · rcases List.mem_append.mp hp with h | h
        · by_cases hI : p.1 = s.heap.objs.size
          · exact N' p (ho p (List.mem_filter.mpr ⟨h, by simpa using hI⟩))
          · have h1 : p.1 = l := by
              rcases List.mem_cons.mp (hown p h) with h2 | h2
              · exact absurd h2 hI
              · exact List.mem_singleton.mp h2
            have h2 : hh'.get? p.1 = some p.2 := hget p h
            rw [h1, hlo] at h2
            have h3 : p = (l, listOf vs.toArray nn) := Prod.ext h1 (Option.some.inj h2).symm
            rw [h3]
            exact N' _ (hn _ (hJl _ _ _ hm))
        · exact N' p (hn p h)
      · exact ha _ hIown p.1 (List.mem_map.mpr ⟨p, hp, rfl⟩) (List.mem_singleton.mp hq).symm
    cases f with
    | ret v => exact p
    | brk => exact p
    | next => exact fin p
    | cont => exact fin p
  · rintro h' tk m' news' F' N' _ hJ
    exact done m' news' h' tk hJ F' N'
end
section
variable {prog : Program} {w : World} {K : Frag} {p : Program} {loose : List Str} {mean : ExcName → Option Value} {mg mb : Str → Option Value} {k : Nat} {f : Addr} {vs : List Value} {news : List (Addr × Obj)} {R : Value → List (Addr × Obj) → Prop}
theorem Fun.use {dp un : Nat} {gd : Option (List Code)} {cn : Str} {cs : Scope} {a : Addr} {ccd : Value} {cl : List (Str × Addr)} {outer : List Env} {A₀ : Around} {base h₀ : Heap} {L : Addr} {m : Str → Option Value} {s : Shared} {Q E : Value → Shared → Prop}
    (C : Fun prog w K p loose mean mg mb k f vs news R) (B : Below A₀ base outer h₀) (F : Fr h₀ L s.heap m) (X : K.In h₀) (N : News h₀ L s.heap news) (T : Top p loose mean mg mb h₀) (hk : cs.kind = .function) (hd : dp + k < recursionLimit) (hu : un + 8 * k < cLine)
    (ret : ∀ r news' h' tk', R r news' → Fr h₀ L h' m → News h₀ L h' news' → Q r { s with heap := h', toks := tk' }) :
    wpAny (model prog w) (ktrTop dp un gd cn cs L a ccd cl outer) (call (.ref f) vs) Q E s := C _ _ _ _ _ _ _ _ _ _ _ _ _ _ _ _ _ B F X N T hk hd hu ret
end
/-- the ledger with o at O -/
def put (O : Addr) (o : Obj) (news : List (Addr × Obj)) : List (Addr × Obj) := news.map fun p => if p.1 = O then (O, o) else p
theorem put_nil {O : Addr} {o : Obj} : put O o [] = [] := rfl
theorem put_hit {O : Addr} {o o' : Obj} {r : List (Addr × Obj)} : put O o ((O, o') :: r) = (O, o) :: put O o r := by simp [put]
theorem put_miss {O : Addr} {o : Obj} {q : Addr × Obj} {r : List (Addr × Obj)} (h : q.1 ≠ O) : put O o (q :: r) = q :: put O o r := by simp [put, h]
theorem put_off {O : Addr} {o : Obj} {r : List (Addr × Obj)} (h : ∀ q ∈ r, q.1 ≠ O) : put O o r = r := by
  induction r with
  | nil => rfl
  | cons q r ih => rw [put_miss (h q (.head _)), ih fun x hx => h x (.tail _ hx)]
theorem mem_put {O : Addr} {o : Obj} {news : List (Addr × Obj)} {q : Addr × Obj} (h : q ∈ put O o news) : q = (O, o) ∨ (q.1 ≠ O ∧ q ∈ news) := by
  obtain ⟨x, hx, rfl⟩ := List.mem_map.mp h
  by_cases e : x.1 = O
  · rw [if_pos e]; exact .inl rfl
  · rw [if_neg e]; exact .inr ⟨e, hx⟩
section
variable {prog : Program} {w : World} {A : Around} {E : Value → Shared → Prop} {s : Shared} {h₀ : Heap} {L D b : Addr} {m : Str → Option Value} {news : List (Addr × Obj)} {its its2 : Array Value} {n n2 : Nat}
/-- extend by a list of the ledger's -/
theorem extend_U {g : Obj → List (Addr × Obj)} {Q : Value → Shared → Prop} (F : Fr h₀ L s.heap m) (N : News h₀ L s.heap news) (hb : (b, listOf its2 n2) ∈ news) (U : UpdF D (listOf its n) news g) (hz : its.size + its2.size ≤ sizeLine)
    (h : ∀ h' n', Fr h₀ L h' m → News h₀ L h' (g (listOf (its ++ its2) n')) → Q .none { s with heap := h' }) : wpAny (model prog w) A (call (.builtin "list.extend") [.ref D, .ref b]) Q E s := by
  obtain ⟨pre, post, rfl, hg, a, c⟩ := U.split
  obtain ⟨ys, rfl⟩ : ∃ ys : List Value, its = ys.toArray := ⟨its.toList, by rw [Array.toArray_toList]⟩
  refine extend_in F N a c (N _ hb).1 (fun h' n' F' N' => h h' n' F' ?_) (by rw [List.size_toArray] at hz; exact hz)
  rw [hg]
  have e : ys.toArray ++ its2 = (ys ++ its2.toList).toArray := by simp
  rw [e]
  exact N'
end
theorem off_lt {l : List (Addr × Obj)} {D : Addr} (h : ∀ p ∈ l, p.1 < D) : ∀ p ∈ l, p.1 ≠ D := fun p hp => Nat.ne_of_lt (h p hp)
theorem off_gt {l : List (Addr × Obj)} {D : Addr} (h : ∀ p ∈ l, D < p.1) : ∀ p ∈ l, p.1 ≠ D := fun p hp => Nat.ne_of_gt (h p hp)
/-- what holds ahead of turn i of a for -/
def RgJ {σ : Type} (Led : σ → List (Addr × Obj)) (ps : σ → List (Str × Value)) (x : Str) (stored : List Str) (m₀ : Str → Option Value) (P : Nat → σ → Prop) (i : Nat) (m : Str → Option Value) (nx : List (Addr × Obj)) : Prop :=
  ∃ c, nx = Led c ∧ P i c ∧ (∀ p ∈ ps c, m p.1 = some p.2) ∧ (∀ z, z ≠ x → (∀ p ∈ ps c, z ≠ p.1) → stored.contains z = false → m z = m₀ z)
theorem rg_end {σ : Type} {Led : σ → List (Addr × Obj)} {ps : σ → List (Str × Value)} {x : Str} {stored : List Str} {m₀ m' : Str → Option Value} {P : Nat → σ → Prop} {i : Nat} {h₀ h' : Heap} {L : Addr} {own news' : List (Addr × Obj)} {s₁ : Shared} {tk : Nat} (c' : σ)
    (F : Fr h₀ L h' m') (N : News h₀ L h' news') (hn : ∀ p ∈ Led c', p ∈ news') (ho : ∀ p ∈ own, p ∈ news') (ha : ∀ p ∈ own, ∀ q ∈ Led c', p.1 ≠ q.1) (hk : ∀ p ∈ ps c', m' p.1 = some p.2) (hr : ∀ z, z ≠ x → (∀ p ∈ ps c', z ≠ p.1) → stored.contains z = false → m' z = m₀ z) (hp : P i c') :
    InvEndG h₀ L (RgJ Led ps x stored m₀ P i) own s₁ { s₁ with heap := h', toks := tk } :=
  InvEndG.intro F N ⟨c', rfl, hp, hk, hr⟩ (fun p hp b hb => by obtain ⟨q, hq, rfl⟩ := List.mem_map.mp hb; exact ha p hp q hq) hn ho
section
variable {prog : Program} {w : World} {A : Around} {E : Value → Shared → Prop} {s : Shared} {env : Env} {h₀ : Heap} {x : Str} {body : List Stmt} {Q : Flow → Shared → Prop}
/-- a for over a range -/
theorem rg_for {σ : Type} {r : Addr} {a₀ b₀ : Int} {t₀ u₀ v₀ : Tok} {n : Nat} {m₀ : Str → Option Value} {news : List (Addr × Obj)} (Led : σ → List (Addr × Obj)) (ps : σ → List (Str × Value)) (stored : List Str) (P : Nat → σ → Prop) (c₀ : σ)
    (hh : A.handled = none) (hr : IsRange s.heap r a₀ b₀ 1 t₀ u₀ v₀) (hsmall : Builtin.Range.small a₀ b₀ 1 = true) (hsz : Builtin.Range.rangeSize a₀ b₀ 1 = (n : Int)) (F : Fr h₀ env.locals s.heap m₀) (N : News h₀ env.locals s.heap news) (hn : ∀ p ∈ Led c₀, p ∈ news) (hk : ∀ p ∈ ps c₀, m₀ p.1 = some p.2) (hp : P 0 c₀)
    (turn : ∀ (c : σ) (i : Nat) t (u : Str → Option Value) h tk own, i < n → P i c → (∀ p ∈ own, ∀ q ∈ Led c, p.1 ≠ q.1) →
      Fr h₀ env.locals h (fun y => if y = x then some (.int (a₀ + i) t) else kstB (fun z => if stored.contains z then u z else m₀ z) (ps c) y) → News h₀ env.locals h (Led c ++ own) →
      wpAny (model prog w) A (execs body env) (InvPostG h₀ env.locals (RgJ Led ps x stored m₀ P (i + 1)) own { s with heap := h, toks := tk } Q) E { s with heap := h, toks := tk })
    (done : ∀ (c : σ) (u : Str → Option Value) h tk, P n c → Fr h₀ env.locals h (fun y => if y = x then u y else kstB (fun z => if stored.contains z then u z else m₀ z) (ps c) y) → News h₀ env.locals h (Led c) → Q .next { s with heap := h, toks := tk }) :
    wpAny (model prog w) A (pyIter (.ref r)) (fun it s₂ => LoopAtV prog w A h₀ env x body Q E it s₂) E s := by
  refine wpAny_pyIter_range hr hsmall ?_
  have W : Walks prog w A s.heap.objs.size [s.heap.objs.size] [s.heap.objs.size] n (fun i v => i < n ∧ ∃ t, v = .int (a₀ + i * 1) t)
      (fun i h => IsRangeIter h s.heap.objs.size (a₀ + (i : Nat) * 1) ((n : Int) - (i : Nat)) 1) := (Walks.range hh _ a₀ 1 n).bound
  refine kdr_loop (RgJ Led ps x stored m₀ P) W (fun _ h => h) (fun _ h => h) ?_ ?_ ?_ ?_ (by show IsRangeIter _ _ _ _ _; rw [hsz]; simpa using Heap.get?_push_size _ rfl) (F.push _) (fun p hp => ⟨Heap.get?_push_of_some _ (N p (hn p hp)).1, (N p (hn p hp)).2⟩) ⟨c₀, rfl, hp, hk, fun _ _ _ _ => rfl⟩ ?_ ?_
  · intro i h hi b hb
    rw [List.mem_singleton.mp hb]
    exact ⟨_, hi⟩
  · intro hm
    exact absurd F.ns.lt ((List.mem_singleton.mp hm) ▸ Nat.lt_irrefl _)
  · intro b hb
    rw [List.mem_singleton.mp hb]
    exact next_is_new F
  · intro p hp hI
    exact absurd (Heap.lt_size (N p (hn p hp)).1) ((List.mem_singleton.mp hI) ▸ Nat.lt_irrefl _)
  · rintro i v m₁ nx h tk own hi ⟨_, t, rfl⟩ hoff ⟨c, rfl, hp', h1, h2⟩ F₁ N₁
    have e1 : a₀ + (i : Int) * 1 = a₀ + (i : Int) := by omega
    rw [e1] at F₁
    exact turn c i t m₁ h tk own hi hp' (fun p hp q hq => hoff p hp q.1 (List.mem_map.mpr ⟨q, hq, rfl⟩)) (kst_fr h1 h2 F₁) N₁
  · rintro m₁ nx h tk ⟨c, rfl, hp', h1, h2⟩ F₁ N₁
    exact done c m₁ h tk hp' (kst_frOut h1 h2 F₁) N₁
/-- a for over a list of the ledger's, by a name -/
theorem ls_for {σ : Type} {l : Addr} {vs : List Value} {nn : Nat} {m₀ : Str → Option Value} {news : List (Addr × Obj)} (Led : σ → List (Addr × Obj)) (ps : σ → List (Str × Value)) (stored : List Str) (P : Nat → σ → Prop) (c₀ : σ)
    (hh : A.handled = none) (hl : (l, listOf vs.toArray nn) ∈ news) (hlL : ∀ c, (l, listOf vs.toArray nn) ∈ Led c) (F : Fr h₀ env.locals s.heap m₀) (N : News h₀ env.locals s.heap news) (hn : ∀ p ∈ Led c₀, p ∈ news) (hk : ∀ p ∈ ps c₀, m₀ p.1 = some p.2) (hp : P 0 c₀)
    (turn : ∀ (c : σ) (i : Nat) v (u : Str → Option Value) h tk own, vs[i]? = some v → P i c → (∀ p ∈ own, ∀ q ∈ Led c, p.1 ≠ q.1) →
      Fr h₀ env.locals h (fun y => if y = x then some v else kstB (fun z => if stored.contains z then u z else m₀ z) (ps c) y) → News h₀ env.locals h (Led c ++ own) →
      wpAny (model prog w) A (execs body env) (InvPostG h₀ env.locals (fun m' nx => (l, listOf vs.toArray nn) ∈ nx ∧ RgJ Led ps x stored m₀ P (i + 1) m' nx) own { s with heap := h, toks := tk } Q) E { s with heap := h, toks := tk })
    (done : ∀ (c : σ) (u : Str → Option Value) h tk, P vs.length c → Fr h₀ env.locals h (fun y => if y = x then u y else kstB (fun z => if stored.contains z then u z else m₀ z) (ps c) y) → News h₀ env.locals h (Led c) → Q .next { s with heap := h, toks := tk }) :
    wpAny (model prog w) A (pyIter (.ref l)) (fun it s₂ => LoopAtV prog w A h₀ env x body Q E it s₂) E s := by
  refine kdl_iter (RgJ Led ps x stored m₀ P) hh (hlL c₀) F (fun p hp => N p (hn p hp)) ⟨c₀, rfl, hp, hk, fun _ _ _ _ => rfl⟩ ?_ ?_
  · rintro i v m₁ nx h tk own hi hoff hm ⟨c, rfl, hp', h1, h2⟩ F₁ N₁
    exact turn c i v m₁ h tk own hi hp' (fun p hp q hq => hoff p hp q.1 (List.mem_map.mpr ⟨q, hq, rfl⟩)) (kst_fr h1 h2 F₁) N₁
  · rintro m₁ nx h tk ⟨c, rfl, hp', h1, h2⟩ F₁ N₁
    exact done c m₁ h tk hp' (kst_frOut h1 h2 F₁) N₁
theorem ls_end {σ : Type} {Led : σ → List (Addr × Obj)} {ps : σ → List (Str × Value)} {x : Str} {stored : List Str} {m₀ m' : Str → Option Value} {P : Nat → σ → Prop} {i : Nat} {h' : Heap} {L l : Addr} {ol : Obj} {own news' : List (Addr × Obj)} {s₁ : Shared} {tk : Nat} (c' : σ)
    (F : Fr h₀ L h' m') (N : News h₀ L h' news') (hn : ∀ p ∈ Led c', p ∈ news') (ho : ∀ p ∈ own, p ∈ news') (hl : (l, ol) ∈ Led c') (ha : ∀ p ∈ own, ∀ q ∈ Led c', p.1 ≠ q.1) (hk : ∀ p ∈ ps c', m' p.1 = some p.2) (hr : ∀ z, z ≠ x → (∀ p ∈ ps c', z ≠ p.1) → stored.contains z = false → m' z = m₀ z) (hp : P i c') :
    InvEndG h₀ L (fun m' nx => (l, ol) ∈ nx ∧ RgJ Led ps x stored m₀ P i m' nx) own s₁ { s₁ with heap := h', toks := tk } :=
  InvEndG.intro F N ⟨hl, c', rfl, hp, hk, hr⟩ (fun p hp b hb => by obtain ⟨q, hq, rfl⟩ := List.mem_map.mp hb; exact ha p hp q hq) hn ho
end
/-- an object of the ledger's is set anew -/
theorem news_put {h₀ h h' : Heap} {L D : Addr} {o o' : Obj} {news : List (Addr × Obj)} (N : News h₀ L h news) (hm : (D, o) ∈ news) (hs : Heap.SameBut D h h') (ho : h'.get? D = some o') : News h₀ L h' (put D o' news) := by
  intro q hq
  rcases mem_put hq with rfl | ⟨hne, hq⟩
  · exact ⟨ho, (N _ hm).2.1, (N _ hm).2.2⟩
  · exact ⟨(hs.2 _ hne).trans (N q hq).1, (N q hq).2⟩
theorem flat_one (n : Nat) (v : Int) : (List.replicate n [v]).flatten = List.replicate n v := by
  induction n with
  | zero => rfl
  | succ k ih => rw [List.replicate_succ, List.flatten_cons, ih]; rfl
theorem in_app {a b : List Int} (ha : KBa.In a) (hb : KBa.In b) : KBa.In (a ++ b) := fun n hn => (List.mem_append.mp hn).elim (ha n) (hb n)
theorem in_rep {n : Nat} {v : Int} (h0 : 0 ≤ v) (h1 : v < 256) : KBa.In (List.replicate n v) := fun k hk => by rw [List.eq_of_mem_replicate hk]; exact ⟨h0, h1⟩
/-- a number in groups of seven bits, the lowest first -/
def vint (n : Nat) : List Int := if n < 128 then [(n : Int)] else (128 + (n % 128 : Nat) : Int) :: vint (n / 128)
termination_by n
decreasing_by omega
theorem vint_small {n : Nat} (h : n < 128) : vint n = [(n : Int)] := by rw [vint, if_pos h]
theorem vint_big {n : Nat} (h : ¬ n < 128) : vint n = (128 + (n % 128 : Nat) : Int) :: vint (n / 128) := by rw [vint, if_neg h]
theorem vint_len : ∀ n : Nat, 0 < (vint n).length ∧ (vint n).length ≤ n + 1 := by
  intro n
  induction n using Nat.strongRecOn with
  | ind n ih =>
    by_cases h : n < 128
    · rw [vint_small h]; simp
    · rw [vint_big h, List.length_cons]
      have := ih (n / 128) (by omega)
      omega
/-- two numbers whose bits do not meet -/
theorem or_apart {a : Int} {b : Int} {k : Nat} (h0 : 0 ≤ a) (h1 : a < 2 ^ k) (hb : 0 ≤ b) : Builtin.bitOr a (b * 2 ^ k) = a + b * 2 ^ k := by
  obtain ⟨x, rfl⟩ := Int.eq_ofNat_of_zero_le h0
  obtain ⟨y, rfl⟩ := Int.eq_ofNat_of_zero_le hb
  have e : ((y : Int) * 2 ^ k) = ((y * 2 ^ k : Nat) : Int) := by simp
  have hx : x < 2 ^ k := by
    have e2 : ((2 ^ k : Nat) : Int) = (2 : Int) ^ k := by simp
    rw [← e2] at h1
    exact Int.ofNat_lt.mp h1
  rw [e, bitOr_and, bitAnd_pp (Int.natCast_nonneg _) (Int.natCast_nonneg _)]
  have z : x &&& y * 2 ^ k = 0 := by
    refine Nat.eq_of_testBit_eq fun i => ?_
    rw [Nat.testBit_and, Nat.zero_testBit]
    by_cases hi : i < k
    · rw [← Nat.shiftLeft_eq, Nat.testBit_shiftLeft]
      simp [Nat.not_le.mpr hi]
    · have hxi : x.testBit i = false := Nat.testBit_lt_two_pow (Nat.lt_of_lt_of_le hx (Nat.pow_le_pow_right (by decide) (by omega)))
      rw [hxi]; rfl
  rw [Int.toNat_natCast, Int.toNat_natCast, z]
  simp
theorem or_128 {x : Int} (h0 : 0 ≤ x) (h1 : x < 128) : Builtin.bitOr 128 x = 128 + x := by
  rw [bitOr_comm]
  have := or_apart (a := x) (b := 1) (k := 7) h0 (by simpa using h1) (by decide)
  simp at this
  rw [this]; omega
theorem vint_one {n : Nat} (h : n < 128) : (vint n).length = 1 := by rw [vint_small h]; rfl
/-- a number's bytes, the low ones first -/
def fixL (N size : Nat) : List Int := (List.range size).map fun k => ((N / 256 ^ k % 256 : Nat) : Int)
theorem fixL_len (N size : Nat) : (fixL N size).length = size := by simp [fixL]
theorem fixL_in (N size : Nat) : KBa.In (fixL N size) := fun n hn => by
  obtain ⟨k, _, rfl⟩ := List.mem_map.mp hn
  exact ⟨by omega, by omega⟩
theorem fx_item {N e k : Nat} {a : Int} (h : a = Builtin.bitAnd ((N : Int).fdiv (2 ^ e)) 255) (g : e = 8 * k) : a = ((N / 256 ^ k % 256 : Nat) : Int) := by
  have e2 : ((2 : Int) ^ (8 * k)) = ((256 ^ k : Nat) : Int) := by rw [Int.natCast_pow, Int.pow_mul]; rfl
  rw [h, bitAnd_m8, g, e2, Int.fdiv_eq_ediv_of_nonneg _ (Int.natCast_nonneg _)]
  omega
theorem fixL_snoc (N i : Nat) : fixL N (i + 1) = fixL N i ++ [((N / 256 ^ i % 256 : Nat) : Int)] := by simp [fixL, List.range_succ]
theorem fixL_get {N size i : Nat} {ks : List Int} {a : Nat} {z : Int} (h : ks.drop a = fixL N size) (hi : i < size) (hz : z = (a : Int) + (0 + (i : Int))) : ks.getD z.toNat 0 = ((N / 256 ^ i % 256 : Nat) : Int) := by
  have e : z.toNat = a + i := by omega
  have h1 : (ks.drop a).getD i 0 = ks.getD (a + i) 0 := by simp [List.getD]
  rw [e, ← h1, h]
  simp [fixL, List.getD, hi]
theorem or_step {N i : Nat} {a y : Int} {e : Nat} (ha : a = ((N % 256 ^ i : Nat) : Int)) (hy : y = ((N / 256 ^ i % 256 : Nat) : Int)) (he : e = 8 * i) : Builtin.bitOr a (y * 2 ^ e) = ((N % 256 ^ (i + 1) : Nat) : Int) := by
  subst ha
  subst hy
  subst he
  have e1 : (2 : Nat) ^ (8 * i) = 256 ^ i := by rw [Nat.pow_mul]
  have e2 : ((2 : Int) ^ (8 * i)) = ((256 ^ i : Nat) : Int) := by rw [Int.natCast_pow, Int.pow_mul]; rfl
  have hlt : N % 256 ^ i < 256 ^ i := Nat.mod_lt _ (Nat.pow_pos (by decide))
  have h := or_apart (a := ((N % 256 ^ i : Nat) : Int)) (b := ((N / 256 ^ i % 256 : Nat) : Int)) (k := 8 * i) (Int.natCast_nonneg _) (by rw [e2]; exact Int.ofNat_lt.mpr hlt) (Int.natCast_nonneg _)
  rw [h, e2]
  have h3 : N % 256 ^ (i + 1) = N % 256 ^ i + 256 ^ i * (N / 256 ^ i % 256) := by rw [Nat.pow_succ, Nat.mod_mul]
  rw [h3, Nat.mul_comm (256 ^ i)]
  rw [Int.natCast_add, Int.natCast_mul]
section
variable {prog : Program} {w : World} {A : Around} {E : Value → Shared → Prop} {s : Shared} {t u : Tok} {n : Int} {N M : Nat}
theorem rsh_zero {Q : Value → Shared → Prop} (hN : N < M) (hn : 0 ≤ n) (hM : 2 ^ n.toNat = M) (h : Q (.int 0 s.toks) { s with toks := s.toks + 1 }) : wpAny (model prog w) A (binaryOp .RShift (.int (N : Int) t) (.int n u)) Q E s := by
  refine rshift_int hn ?_
  have e : (N : Int).fdiv (2 ^ n.toNat) = 0 := by
    rw [Int.fdiv_eq_ediv_of_nonneg _ (Int.le_of_lt (Int.pow_pos (by decide)))]
    exact Int.ediv_eq_zero_of_lt (Int.natCast_nonneg _) (by rw [show (2 : Int) = ((2 : Nat) : Int) from rfl, ← Int.natCast_pow, hM]; omega)
  rw [e]
  exact h
theorem fxb_len {N i : Nat} {vs : List Value} (hp : IntsAre vs (fixL N i)) (hi : i < 1000) : vs.length < 1000 := by
  have h := IntsAre.length hp
  rw [fixL_len] at h
  omega
/-- fixed_bytes' loop -/
theorem fxb_for {h₀ : Heap} {env : Env} {body : List Stmt} {Q : Flow → Shared → Prop} {r O : Addr} {b₀ : Int} {t₀ u₀ v₀ : Tok} {size : Nat} {m₀ : Str → Option Value} {news : List (Addr × Obj)} {N : Nat} (_hN : N < 256 ^ size)
    (hh : A.handled = none) (hr : IsRange s.heap r 0 b₀ 1 t₀ u₀ v₀) (hb : b₀ = (size : Int)) (hsize : size ≤ 4) (F : Fr h₀ env.locals s.heap m₀) (Nw : News h₀ env.locals s.heap ((O, listOf #[] 0) :: news))
    (turn : ∀ (vs : List Value) (cn i : Nat) t (u : Str → Option Value) h tk own, i < size → IntsAre vs (fixL N i) → vs.length < 1000 → (∀ p ∈ own, p.1 ≠ O) → (∀ p ∈ own, ∀ q ∈ news, p.1 ≠ q.1) →
      Fr h₀ env.locals h (fun y => if y = Str.ofString "k" then some (.int (0 + (i : Int)) t) else m₀ y) → News h₀ env.locals h ((O, listOf vs.toArray cn) :: news ++ own) →
      wpAny (model prog w) A (execs body env) (InvPostG h₀ env.locals (RgJ (fun c : List Value × Nat => (O, listOf c.1.toArray c.2) :: news) (fun _ => []) (Str.ofString "k") [] m₀ (fun i c => IntsAre c.1 (fixL N i)) (i + 1)) own { s with heap := h, toks := tk } Q) E { s with heap := h, toks := tk })
    (done : ∀ (vs : List Value) (cn : Nat) (u : Str → Option Value) h tk, IntsAre vs (fixL N size) → Fr h₀ env.locals h (fun y => if y = Str.ofString "k" then u y else m₀ y) → News h₀ env.locals h ((O, listOf vs.toArray cn) :: news) → Q .next { s with heap := h, toks := tk }) :
    wpAny (model prog w) A (pyIter (.ref r)) (fun it s₂ => LoopAtV prog w A h₀ env (Str.ofString "k") body Q E it s₂) E s := by
  subst hb
  have hz : Builtin.Range.rangeSize 0 (size : Int) 1 = (size : Int) := by
    have : size = 0 ∨ size = 1 ∨ size = 2 ∨ size = 3 ∨ size = 4 := by omega
    rcases this with rfl | rfl | rfl | rfl | rfl <;> decide
  have hsm : Builtin.Range.small 0 (size : Int) 1 = true := by
    have : size = 0 ∨ size = 1 ∨ size = 2 ∨ size = 3 ∨ size = 4 := by omega
    rcases this with rfl | rfl | rfl | rfl | rfl <;> decide
  refine rg_for (fun c : List Value × Nat => (O, listOf c.1.toArray c.2) :: news) (fun _ => []) [] (fun i c => IntsAre c.1 (fixL N i)) ([], 0) hh hr hsm hz F Nw (fun _ h => h) (fun _ h => nomatch h) .nil ?_ ?_
  · rintro ⟨vs, cn⟩ i t u h tk own hi hp hoff F₁ N₁
    exact turn vs cn i t u h tk own hi hp (fxb_len hp (by omega)) (fun p hp => hoff p hp _ (.head _)) (fun p hp q hq => hoff p hp q (.tail _ hq)) F₁ N₁
  · rintro ⟨vs, cn⟩ u h tk hp F₁ N₁
    exact done vs cn u h tk hp F₁ N₁
/-- read_fixed's loop -/
theorem fxr_for {h₀ : Heap} {env : Env} {body : List Stmt} {Q : Flow → Shared → Prop} {r : Addr} {b₀ x₀ : Int} {t₀ u₀ v₀ tv : Tok} {size : Nat} {m₀ : Str → Option Value} {news : List (Addr × Obj)} {N : Nat} (_hN : N < 256 ^ size)
    (hh : A.handled = none) (hr : IsRange s.heap r 0 b₀ 1 t₀ u₀ v₀) (hb : b₀ = (size : Int)) (hsize : size ≤ 4) (F : Fr h₀ env.locals s.heap m₀) (Nw : News h₀ env.locals s.heap news) (hv : m₀ (Str.ofString "value") = some (.int x₀ tv)) (hx : x₀ = 0)
    (turn : ∀ (v : Int) (i : Nat) (tv t : Tok) (u : Str → Option Value) h tk own, i < size → v = ((N % 256 ^ i : Nat) : Int) → (∀ p ∈ own, ∀ q ∈ news, p.1 ≠ q.1) →
      Fr h₀ env.locals h (fun y => if y = Str.ofString "k" then some (.int (0 + (i : Int)) t) else if y = Str.ofString "value" then some (.int v tv) else m₀ y) → News h₀ env.locals h (news ++ own) →
      wpAny (model prog w) A (execs body env) (InvPostG h₀ env.locals (RgJ (fun _ : Int × Tok => news) (fun c => [(Str.ofString "value", .int c.1 c.2)]) (Str.ofString "k") [] m₀ (fun i c => c.1 = ((N % 256 ^ i : Nat) : Int)) (i + 1)) own { s with heap := h, toks := tk } Q) E { s with heap := h, toks := tk })
    (done : ∀ (v : Int) (tv : Tok) (u : Str → Option Value) h tk, v = (N : Int) → Fr h₀ env.locals h (fun y => if y = Str.ofString "k" then u y else if y = Str.ofString "value" then some (.int v tv) else m₀ y) → News h₀ env.locals h news → Q .next { s with heap := h, toks := tk }) :
    wpAny (model prog w) A (pyIter (.ref r)) (fun it s₂ => LoopAtV prog w A h₀ env (Str.ofString "k") body Q E it s₂) E s := by
  subst hb
  subst hx
  have hz : Builtin.Range.rangeSize 0 (size : Int) 1 = (size : Int) := by
    have : size = 0 ∨ size = 1 ∨ size = 2 ∨ size = 3 ∨ size = 4 := by omega
    rcases this with rfl | rfl | rfl | rfl | rfl <;> decide
  have hsm : Builtin.Range.small 0 (size : Int) 1 = true := by
    have : size = 0 ∨ size = 1 ∨ size = 2 ∨ size = 3 ∨ size = 4 := by omega
    rcases this with rfl | rfl | rfl | rfl | rfl <;> decide
  refine rg_for (fun _ : Int × Tok => news) (fun c => [(Str.ofString "value", .int c.1 c.2)]) [] (fun i c => c.1 = ((N % 256 ^ i : Nat) : Int)) (0, tv) hh hr hsm hz F Nw (fun _ h => h) ?_ (by show (0 : Int) = ((N % 256 ^ 0 : Nat) : Int); rw [Nat.pow_zero, Nat.mod_one]; rfl) ?_ ?_
  · intro p hp
    rw [List.mem_singleton.mp hp]
    exact hv
  · rintro ⟨v, tv⟩ i t u h tk own hi hp hoff F₁ N₁
    exact turn v i tv t u h tk own hi hp hoff F₁ N₁
  · rintro ⟨v, tv⟩ u h tk hp F₁ N₁
    exact done v tv u h tk (by rw [show v = ((N % 256 ^ size : Nat) : Int) from hp, Nat.mod_eq_of_lt _hN]) F₁ N₁
theorem fxr_end {h₀ : Heap} {L : Addr} {N i size a e : Nat} {v z : Int} {tX : Tok} {ks : List Int} {m₀ m' : Str → Option Value} {news own : List (Addr × Obj)} {s₁ : Shared} {h' : Heap} {tk : Nat}
    (F : Fr h₀ L h' m') (Nw : News h₀ L h' (news ++ own)) (hm : m' (Str.ofString "value") = some (.int (Builtin.bitOr v (ks.getD z.toNat 0 * 2 ^ e)) tX)) (hk : ks.drop a = fixL N size) (hi : i < size) (hv : v = ((N % 256 ^ i : Nat) : Int)) (hz : z = (a : Int) + (0 + (i : Int))) (he : e = 8 * i) (ho2 : ∀ p ∈ own, ∀ q ∈ news, p.1 ≠ q.1)
    (hr : ∀ z, z ≠ Str.ofString "k" → z ≠ Str.ofString "value" → m' z = m₀ z) :
    InvEndG h₀ L (RgJ (fun _ : Int × Tok => news) (fun c => [(Str.ofString "value", .int c.1 c.2)]) (Str.ofString "k") [] m₀ (fun i c => c.1 = ((N % 256 ^ i : Nat) : Int)) (i + 1)) own s₁ { s₁ with heap := h', toks := tk } := by
  refine rg_end (c' := (Builtin.bitOr v (ks.getD z.toNat 0 * 2 ^ e), tX)) F Nw (fun p hp => List.mem_append.mpr (.inl hp)) (fun p hp => List.mem_append.mpr (.inr hp)) ho2 ?_ (fun z h1 h2 _ => hr z h1 (h2 _ (.head _))) ?_
  · intro p hp
    rw [List.mem_singleton.mp hp]
    exact hm
  · exact or_step hv (fixL_get hk hi hz) he
theorem fxb_end {h₀ : Heap} {L : Addr} {O : Addr} {N i n' : Nat} {X : Int} {tX : Tok} {m₀ m' : Str → Option Value} {news own : List (Addr × Obj)} {vs : List Value} {s₁ : Shared} {h' : Heap} {tk : Nat}
    (F : Fr h₀ L h' m') (Nw : News h₀ L h' ((O, listOf (vs.toArray.push (.int X tX)) n') :: news ++ own)) (hp : IntsAre vs (fixL N i)) (ho : ∀ p ∈ own, p.1 ≠ O) (ho2 : ∀ p ∈ own, ∀ q ∈ news, p.1 ≠ q.1) (hX : X = ((N / 256 ^ i % 256 : Nat) : Int))
    (hr : ∀ z, z ≠ Str.ofString "k" → m' z = m₀ z) :
    InvEndG h₀ L (RgJ (fun c : List Value × Nat => (O, listOf c.1.toArray c.2) :: news) (fun _ => []) (Str.ofString "k") [] m₀ (fun i c => IntsAre c.1 (fixL N i)) (i + 1)) own s₁ { s₁ with heap := h', toks := tk } := by
  have ea : vs.toArray.push (.int X tX) = (vs ++ [Value.int X tX]).toArray := by simp
  rw [ea] at Nw
  refine rg_end (c' := (vs ++ [Value.int X tX], n')) F Nw (fun p hp => List.mem_append.mpr (.inl hp)) (fun p hp => List.mem_append.mpr (.inr hp)) ?_ (fun _ h => nomatch h) (fun z h1 _ _ => hr z h1) ?_
  · intro p hp q hq
    rcases List.mem_cons.mp hq with rfl | hq
    · exact ho p hp
    · exact ho2 p hp q hq
  · show IntsAre (vs ++ [Value.int X tX]) (fixL N (i + 1))
    rw [fixL_snoc, hX]
    exact hp.append (.cons _ _ .nil)
end
theorem pow_sh (size : Nat) : 2 ^ (8 * (size : Int)).toNat = 256 ^ size := by
  have : (8 * (size : Int)).toNat = 8 * size := by omega
  rw [this, Nat.pow_mul]
def FbOut (ns : List Int) (news : List (Addr × Obj)) (r : Value) (news' : List (Addr × Obj)) : Prop := ∃ b t, r = .bytes b t ∧ news' = news ∧ KBw.bInts b = ns
def FbC (f : Addr) (prog : Program) (w : World) (K : Frag) (p : Program) (loose : List Str) (mean : ExcName → Option Value) (mg mb : Str → Option Value) : Prop :=
  ∀ (N size : Nat) (x y : Int) (t u : Tok) (news : List (Addr × Obj)), x = (N : Int) → y = (size : Int) → size ≤ 4 → N < 256 ^ size → Fun prog w K p loose mean mg mb 20 f [.int x t, .int y u] news (FbOut (fixL N size) news)
def RfOut (n e : Int) (news : List (Addr × Obj)) (r : Value) (news' : List (Addr × Obj)) : Prop := ∃ T x y t1 t2, r = .ref T ∧ news' = (T, { cls := .type "tuple", data := .seq #[.int x t1, .int y t2] }) :: news ∧ (∀ q ∈ news, q.1 < T) ∧ x = n ∧ y = e
def RfC (f : Addr) (prog : Program) (w : World) (K : Frag) (p : Program) (loose : List Str) (mean : ExcName → Option Value) (mg mb : Str → Option Value) : Prop :=
  ∀ (b : Array UInt8) (ks : List Int) (N size a : Nat) (x y : Int) (tb t u : Tok) (news : List (Addr × Obj)), KBw.bInts b = ks → x = (a : Int) → y = (size : Int) → size ≤ 4 → N < 256 ^ size → ks.drop a = fixL N size → a + size = ks.length → ks.length ≤ 1000000 →
    Fun prog w K p loose mean mg mb 20 f [.bytes b tb, .int x t, .int y u] news (RfOut N (a + size : Nat) news)
theorem rf_ret {h₀ h : Heap} {L T : Addr} {m : Str → Option Value} {s : Shared} {Q : Value → Shared → Prop} {n e x y : Int} {t1 t2 : Tok} {news : List (Addr × Obj)} {tk : Nat}
    (hret : ∀ r news' h' tk', RfOut n e news r news' → Fr h₀ L h' m → News h₀ L h' news' → Q r { s with heap := h', toks := tk' })
    (N : News h₀ L h ((T, { cls := .type "tuple", data := .seq #[.int x t1, .int y t2] }) :: news)) (F : Fr h₀ L h m) (l1 : ∀ q ∈ news, q.1 < T) (hx : x = n) (hy : y = e) : Q (.ref T) { s with heap := h, toks := tk } :=
  hret _ _ _ _ ⟨_, _, _, _, _, rfl, rfl, l1, hx, hy⟩ F N
def crcBit (v : Nat) : Nat := if v % 2 = 1 then (v / 2) ^^^ 3988292384 else v / 2
def crcTab (b : Nat) : Nat := crcBit (crcBit (crcBit (crcBit (crcBit (crcBit (crcBit (crcBit b)))))))
def crcInv : List Nat := [0, 65, 195, 130, 134, 199, 69, 4, 77, 12, 142, 207, 203, 138, 8, 73, 154, 219, 89, 24, 28, 93, 223, 158, 215, 150, 20, 85, 81, 16, 146, 211, 117, 52, 182, 247, 243, 178, 48, 113, 56, 121, 251, 186, 190, 255, 125, 60, 239, 174, 44, 109, 105, 40, 170, 235, 162, 227, 97, 32, 36, 101, 231, 166, 234, 171, 41, 104, 108, 45, 175, 238, 167, 230, 100, 37, 33, 96, 226, 163, 112, 49, 179, 242, 246, 183, 53, 116, 61, 124, 254, 191, 187, 250, 120, 57, 159, 222, 92, 29, 25, 88, 218, 155, 210, 147, 17, 80, 84, 21, 151, 214, 5, 68, 198, 135, 131, 194, 64, 1, 72, 9, 139, 202, 206, 143, 13, 76, 149, 212, 86, 23, 19, 82, 208, 145, 216, 153, 27, 90, 94, 31, 157, 220, 15, 78, 204, 141, 137, 200, 74, 11, 66, 3, 129, 192, 196, 133, 7, 70, 224, 161, 35, 98, 102, 39, 165, 228, 173, 236, 110, 47, 43, 106, 232, 169, 122, 59, 185, 248, 252, 189, 63, 126, 55, 118, 244, 181, 177, 240, 114, 51, 127, 62, 188, 253, 249, 184, 58, 123, 50, 115, 241, 176, 180, 245, 119, 54, 229, 164, 38, 103, 99, 34, 160, 225, 168, 233, 107, 42, 46, 111, 237, 172, 10, 75, 201, 136, 140, 205, 79, 14, 71, 6, 132, 197, 193, 128, 2, 67, 144, 209, 83, 18, 22, 87, 213, 148, 221, 156, 30, 95, 91, 26, 152, 217]
theorem crcTab_inv : ((List.range 256).all fun i => crcInv.getD (crcTab i / 2 ^ 24) 0 == i && decide (crcTab i < 2 ^ 32)) = true := by decide +kernel
theorem crcTab_at {i : Nat} (h : i < 256) : crcInv.getD (crcTab i / 2 ^ 24) 0 = i ∧ crcTab i < 2 ^ 32 := by
  have h1 := List.all_eq_true.mp crcTab_inv i (List.mem_range.mpr h)
  rw [Bool.and_eq_true] at h1
  exact ⟨by simpa using h1.1, of_decide_eq_true h1.2⟩
theorem crcTab_inj {i j : Nat} (hi : i < 256) (hj : j < 256) (h : crcTab i / 2 ^ 24 = crcTab j / 2 ^ 24) : i = j := by
  rw [← (crcTab_at hi).1, h, (crcTab_at hj).1]
/-- one byte more -/
def crcStep (v b : Nat) : Nat := (v / 256) ^^^ crcTab ((v ^^^ b) % 256)
theorem crcStep_lt {v b : Nat} (h : v < 2 ^ 32) : crcStep v b < 2 ^ 32 :=
  Nat.xor_lt_two_pow (by omega) (crcTab_at (Nat.mod_lt _ (by decide))).2
theorem crcStep_top {v b : Nat} (h : v < 2 ^ 32) : crcStep v b / 2 ^ 24 = crcTab ((v ^^^ b) % 256) / 2 ^ 24 := by
  rw [crcStep, ← Nat.shiftRight_eq_div_pow, Nat.shiftRight_xor_distrib, Nat.shiftRight_eq_div_pow, Nat.shiftRight_eq_div_pow, show v / 256 / 2 ^ 24 = 0 by omega, Nat.zero_xor]
theorem xor_mod (v b : Nat) : (v ^^^ b) % 256 = (v % 256) ^^^ (b % 256) := Nat.xor_mod_two_pow (n := 8)
theorem xor_can {a b c : Nat} (h : a ^^^ b = a ^^^ c) : b = c := by
  have h2 : a ^^^ (a ^^^ b) = a ^^^ (a ^^^ c) := by rw [h]
  rw [← Nat.xor_assoc, ← Nat.xor_assoc, Nat.xor_self, Nat.zero_xor, Nat.zero_xor] at h2
  exact h2
theorem crcStep_idx {v v' b b' : Nat} (h : v < 2 ^ 32) (h' : v' < 2 ^ 32) (e : crcStep v b = crcStep v' b') : (v ^^^ b) % 256 = (v' ^^^ b') % 256 ∧ v / 256 = v' / 256 := by
  have e1 : (v ^^^ b) % 256 = (v' ^^^ b') % 256 := crcTab_inj (Nat.mod_lt _ (by decide)) (Nat.mod_lt _ (by decide)) (by rw [← crcStep_top h, ← crcStep_top h', e])
  refine ⟨e1, ?_⟩
  rw [crcStep, crcStep, e1, Nat.xor_comm, Nat.xor_comm (v' / 256)] at e
  exact xor_can e
theorem crcStep_inj {v v' b : Nat} (h : v < 2 ^ 32) (h' : v' < 2 ^ 32) (e : crcStep v b = crcStep v' b) : v = v' := by
  obtain ⟨e1, e2⟩ := crcStep_idx h h' e
  rw [xor_mod, xor_mod, Nat.xor_comm, Nat.xor_comm (v' % 256)] at e1
  have := xor_can e1
  omega
theorem crcStep_byte {v b b' : Nat} (h : v < 2 ^ 32) (hb : b < 256) (hb' : b' < 256) (e : crcStep v b = crcStep v b') : b = b' := by
  obtain ⟨e1, _⟩ := crcStep_idx h h e
  rw [xor_mod, xor_mod] at e1
  have := xor_can e1
  omega
def crcAll (v : Nat) (l : List Nat) : Nat := l.foldl crcStep v
theorem crcAll_lt : ∀ (l : List Nat) {v : Nat}, v < 2 ^ 32 → crcAll v l < 2 ^ 32
  | [], _, h => h
  | _ :: r, _, h => crcAll_lt r (crcStep_lt h)
theorem crcAll_inj : ∀ (l : List Nat) {v v' : Nat}, v < 2 ^ 32 → v' < 2 ^ 32 → crcAll v l = crcAll v' l → v = v'
  | [], _, _, _, _, e => e
  | b :: r, _, _, h, h', e => crcStep_inj (b := b) h h' (crcAll_inj r (crcStep_lt h) (crcStep_lt h') e)
theorem crc_turned {p r : List Nat} {b b' v : Nat} (h : v < 2 ^ 32) (hb : b < 256) (hb' : b' < 256) (e : crcAll v (p ++ b :: r) = crcAll v (p ++ b' :: r)) : b = b' := by
  unfold crcAll at e
  rw [List.foldl_append, List.foldl_append, List.foldl_cons, List.foldl_cons] at e
  have h1 : crcAll v p < 2 ^ 32 := crcAll_lt p h
  exact crcStep_byte h1 hb hb' (crcAll_inj r (crcStep_lt h1) (crcStep_lt h1) e)
theorem xor_back (x m : Nat) : x ^^^ m ^^^ m = x := by rw [Nat.xor_assoc, Nat.xor_self, Nat.xor_zero]
theorem xor_and_add : ∀ (n a b : Nat), a < 2 ^ n → (a ^^^ b) + 2 * (a &&& b) = a + b
  | 0, a, b, h => by
    have : a = 0 := by simpa using h
    subst this; simp
  | n + 1, a, b, h => by
    have ih := xor_and_add n (a / 2) (b / 2) (by rw [Nat.pow_succ] at h; omega)
    have e1 : (a ^^^ b) / 2 = (a / 2) ^^^ (b / 2) := Nat.xor_div_two
    have e2 : (a &&& b) / 2 = (a / 2) &&& (b / 2) := Nat.and_div_two
    have e3 : (a ^^^ b) % 2 = (a % 2 + b % 2) % 2 := by
      have h1 := @Nat.xor_mod_two_eq_one a b
      have ha := Nat.mod_two_eq_zero_or_one a
      have hb := Nat.mod_two_eq_zero_or_one b
      have hx := Nat.mod_two_eq_zero_or_one (a ^^^ b)
      rcases ha with ha | ha <;> rcases hb with hb | hb <;> rcases hx with hx | hx <;> simp_all
    have e4 : (a &&& b) % 2 = (a % 2) * (b % 2) := by
      have h1 := @Nat.and_mod_two_eq_one a b
      have ha := Nat.mod_two_eq_zero_or_one a
      have hb := Nat.mod_two_eq_zero_or_one b
      have hx := Nat.mod_two_eq_zero_or_one (a &&& b)
      rcases ha with ha | ha <;> rcases hb with hb | hb <;> rcases hx with hx | hx <;> simp_all
    have ha := Nat.mod_two_eq_zero_or_one a
    have hb := Nat.mod_two_eq_zero_or_one b
    rcases ha with ha | ha <;> rcases hb with hb | hb <;> rw [ha, hb] at e3 e4 <;> omega
theorem xor_nn (a b : Nat) : Builtin.bitXor (a : Int) (b : Int) = ((a ^^^ b : Nat) : Int) := by
  rw [bitXor_and, bitAnd_pp (Int.natCast_nonneg _) (Int.natCast_nonneg _), Int.toNat_natCast, Int.toNat_natCast]
  have := xor_and_add a a b (Nat.lt_two_pow_self)
  omega
theorem and255 (a : Nat) : Builtin.bitAnd (a : Int) 255 = ((a % 256 : Nat) : Int) := by rw [bitAnd_m8]; omega
def crcZ (ks : List Int) (x : Nat) : Nat := crcAll (x ^^^ 4294967295) (ks.map Int.toNat) ^^^ 4294967295
theorem crcZ_lt (ks : List Int) {x : Nat} (h : x < 2 ^ 32) : crcZ ks x < 2 ^ 32 := Nat.xor_lt_two_pow (crcAll_lt _ (Nat.xor_lt_two_pow h (by decide))) (by decide)
structure CrS where
  c : Nat
  t : Tok
def crPs (c : CrS) : List (Str × Value) := [(Str.ofString "value", .int c.c c.t)]
def crP (v₀ : Nat) (pre : List Int) (c : CrS) : Prop := c.c = crcAll v₀ (pre.map Int.toNat) ∧ c.c < 2 ^ 32
section
variable {prog : Program} {w : World} {A : Around} {E : Value → Shared → Prop} {Q : Flow → Shared → Prop} {s : Shared} {env : Env} {h₀ : Heap} {L : Addr}
theorem cr_for {body : List Stmt} {m₀ : Str → Option Value} {ks : List Int} {news : List (Addr × Obj)} {b : Array UInt8} {tb t₀ : Tok} {v₀ : Int} {n₀ : Nat}
    (hb : KBw.bInts b = ks) (hh : A.handled = none) (F : Fr h₀ env.locals s.heap m₀) (N : News h₀ env.locals s.heap news) (hv : m₀ (Str.ofString "value") = some (.int v₀ t₀)) (h0 : v₀ = n₀) (h1 : n₀ < 2 ^ 32)
    (turn : ∀ (c : Nat) (t tn : Tok) (pre : List Int) (n : Nat) (u : Str → Option Value) h tk own, n < 256 → c < 2 ^ 32 → c = crcAll n₀ (pre.map Int.toNat) →
      Fr h₀ env.locals h (fun y => if y = Str.ofString "byte" then some (.int n tn) else if y = Str.ofString "value" then some (.int c t) else if ([] : List Str).contains y then u y else m₀ y) → News h₀ env.locals h (news ++ own) →
      wpAny (model prog w) A (execs body env) (InvPostN h₀ env.locals (KstS (fun _ => news) crPs (fun _ => True) (Str.ofString "byte") [] m₀ (crP n₀) (pre ++ [(n : Int)])) own (news.map (·.1)) { s with heap := h, toks := tk } Q) E { s with heap := h, toks := tk })
    (done : ∀ (c : Nat) (t : Tok) (u : Str → Option Value) h tk, c < 2 ^ 32 → c = crcAll n₀ (ks.map Int.toNat) → Fr h₀ env.locals h (fun y => if y = Str.ofString "byte" then u y else if y = Str.ofString "value" then some (.int c t) else if ([] : List Str).contains y then u y else m₀ y) → News h₀ env.locals h news → Q .next { s with heap := h, toks := tk }) :
    wpAny (model prog w) A (pyIter (.bytes b tb)) (fun it s₂ => LoopAtV prog w A h₀ env (Str.ofString "byte") body Q E it s₂) E s := by
  refine KStb.kst_bytes (fun _ => news) crPs (fun _ => True) [] (crP n₀) ⟨n₀, t₀⟩ hb rfl hh F N trivial ?_ ⟨rfl, h1⟩ ?_ ?_
  · intro p hp
    rw [List.mem_singleton.mp hp, ← h0]
    exact hv
  · rintro ⟨c, t⟩ pre post n tn u h tk own he hl hn0 hn1 _ _ ⟨p1, p2⟩ F₁ N₁
    obtain ⟨n, rfl⟩ := Int.eq_ofNat_of_zero_le hn0
    exact turn c t tn pre n u h tk own (by omega) p2 p1 F₁ N₁
  · rintro ⟨c, t⟩ u h tk _ _ ⟨p1, p2⟩ F₁ N₁
    exact done c t u h tk p2 p1 F₁ N₁
theorem cr_end {m₀ m' : Str → Option Value} {news own : List (Addr × Obj)} {pre : List Int} {n₀ n c : Nat} {x : Int} {t' : Tok} {h' : Heap} {tk : Nat} {s₁ : Shared}
    (F : Fr h₀ L h' m') (N : News h₀ L h' (news ++ own)) (hm : m' (Str.ofString "value") = some (.int x t')) (hx : x = (crcStep c n : Nat))
    (hr : ∀ z, z ≠ Str.ofString "byte" → z ≠ Str.ofString "value" → m' z = m₀ z) (hn : n < 256) (h1 : c < 2 ^ 32) (h2 : c = crcAll n₀ (pre.map Int.toNat)) :
    InvEndN h₀ L (KstS (fun _ => news) crPs (fun _ => True) (Str.ofString "byte") [] m₀ (crP n₀) (pre ++ [(n : Int)])) own (news.map (·.1)) s₁ { s₁ with heap := h', toks := tk } := by
  refine kst_end (⟨crcStep c n, t'⟩ : CrS) F N (fun p hp => List.mem_append.mpr (.inl hp)) (fun p hp => List.mem_append.mpr (.inr hp)) rfl trivial ?_ ?_ ⟨?_, crcStep_lt h1⟩
  · intro p hp
    rw [List.mem_singleton.mp hp]
    show m' _ = some (.int ((crcStep c n : Nat) : Int) t')
    rw [← hx]
    exact hm
  · intro z h3 h4 _
    exact hr z h3 (h4 _ (.head _))
  · show crcStep c n = _
    rw [h2, crcAll, crcAll, List.map_append, List.foldl_append]
    simp
end
theorem rowL_ok : ((List.range 256).all fun i => match rowL[i]? with | some (.int v _) => v == (crcTab i : Int) | _ => false) = true := by decide +kernel
theorem rowL_at {i : Nat} (h : i < 256) : ∃ t, rowL[i]? = some (.int (crcTab i : Nat) t) := by
  have h1 := List.all_eq_true.mp rowL_ok i (List.mem_range.mpr h)
  split at h1
  · rename_i v t e
    exact ⟨t, by rw [e, show v = (crcTab i : Int) by simpa using h1]⟩
  · cases h1
section
variable {prog : Program} {w : World} {A : Around} {E : Value → Shared → Prop} {s : Shared} {h₀ : Heap} {L : Addr} {K : Frag} {m : Str → Option Value}
theorem tab_item {a : Addr} {value slice : Expr} {k : Int} {u : Tok} {i : Nat} {Q : Value → Shared → Prop} (F : Fr h₀ L s.heap m) (X₀ : K.In h₀) (hl : K.lookup a = some ⟨.type "list", none, .seq rowL.toArray 256, #[]⟩)
    (hk : k = i) (hi : i < 256) (h : ∀ t, Q (.int (crcTab i : Nat) t) s)
    (hs : subscripted slice false (.ref a) (.int k u) = operate [.ref a, .int k u] (getItem (.ref a) (.int k u)) := by with_unfolding_all rfl) :
    wpAny (model prog w) A (subscriptTail value slice (.ref a) (.int k u)) Q E s := by
  obtain ⟨t, ht⟩ := rowL_at hi
  refine topList_K F X₀ hl (by omega) (by omega) (v := .int (crcTab i : Nat) t) ?_ (h t) hs
  rw [hk, Int.toNat_natCast]
  exact ht
end
def CrOut (z : Nat) (news : List (Addr × Obj)) (r : Value) (news' : List (Addr × Obj)) : Prop := ∃ x t, r = .int x t ∧ news' = news ∧ x = (z : Int)
def CrC (f : Addr) (prog : Program) (w : World) (K : Frag) (p : Program) (loose : List Str) (mean : ExcName → Option Value) (mg mb : Str → Option Value) : Prop :=
  ∀ (b : Array UInt8) (ks : List Int) (tb : Tok) (news : List (Addr × Obj)), KBw.bInts b = ks → ks.length ≤ 1000 →
    Fun prog w K p loose mean mg mb 20 f [.bytes b tb] news (CrOut (crcZ ks 0) news)
def CrD (f : Addr) (prog : Program) (w : World) (K : Frag) (p : Program) (loose : List Str) (mean : ExcName → Option Value) (mg mb : Str → Option Value) : Prop :=
  ∀ (b : Array UInt8) (ks : List Int) (tb : Tok) (news : List (Addr × Obj)) (x : Nat) (t : Tok), KBw.bInts b = ks → ks.length ≤ 1000 → x < 2 ^ 32 → Fun prog w K p loose mean mg mb 20 f [.bytes b tb, .int x t] news (CrOut (crcZ ks x) news)
theorem xor_M (x : Nat) : Builtin.bitXor (x : Int) 4294967295 = ((x ^^^ 4294967295 : Nat) : Int) := xor_nn x 4294967295
theorem step_x {c n : Nat} : Builtin.bitXor ((c : Int).fdiv (2 ^ (8 : Int).toNat)) ((crcTab ((c ^^^ n) % 256) : Nat) : Int) = (crcStep c n : Nat) := by
  have e : (c : Int).fdiv (2 ^ (8 : Int).toNat) = ((c / 256 : Nat) : Int) := by
    have : ((2 : Int) ^ (8 : Int).toNat) = 256 := by decide
    rw [this, Int.fdiv_eq_ediv_of_nonneg _ (by decide)]
    omega
  rw [e, xor_nn, crcStep]
theorem idx_x {c n : Nat} : Builtin.bitAnd (Builtin.bitXor (c : Int) (n : Int)) 255 = (((c ^^^ n) % 256 : Nat) : Int) := by rw [xor_nn, and255]
theorem xor_0 : Builtin.bitXor 0 4294967295 = ((0 ^^^ 4294967295 : Nat) : Int) := xor_nn 0 4294967295
theorem cr_val {c x : Nat} {ks : List Int} (h : c = crcAll (x ^^^ 4294967295) (ks.map Int.toNat)) : Builtin.bitXor (c : Int) 4294967295 = (crcZ ks x : Nat) := by rw [xor_M, crcZ, h]
/-- a fold over the bytes by one int -/
structure V1 where
  c : Nat
  t : Tok
def v1Ps (c : V1) : List (Str × Value) := [(Str.ofString "value", .int c.c c.t)]
def v1P (stp : Nat → Nat → Nat) (B v₀ : Nat) (pre : List Int) (c : V1) : Prop := c.c = (pre.map Int.toNat).foldl stp v₀ ∧ c.c < B
/-- and by two -/
structure V2 where
  l : Nat
  h : Nat
  tl : Tok
  th : Tok
def v2Ps (c : V2) : List (Str × Value) := [(Str.ofString "low", .int c.l c.tl), (Str.ofString "high", .int c.h c.th)]
def st2 (m : Nat) (x : Nat × Nat) (n : Nat) : Nat × Nat := ((x.1 + n) % m, (x.2 + (x.1 + n) % m) % m)
def v2P (m : Nat) (v₀ : Nat × Nat) (pre : List Int) (c : V2) : Prop := (c.l, c.h) = (pre.map Int.toNat).foldl (st2 m) v₀ ∧ c.l < m ∧ c.h < m
section
variable {prog : Program} {w : World} {A : Around} {E : Value → Shared → Prop} {Q : Flow → Shared → Prop} {s : Shared} {env : Env} {h₀ : Heap} {L : Addr}
theorem v1_for (stp : Nat → Nat → Nat) (B : Nat) {body : List Stmt} {m₀ : Str → Option Value} {ks : List Int} {news : List (Addr × Obj)} {b : Array UInt8} {tb t₀ : Tok} {v₀ : Int} {n₀ : Nat}
    (hb : KBw.bInts b = ks) (hh : A.handled = none) (F : Fr h₀ env.locals s.heap m₀) (N : News h₀ env.locals s.heap news) (hv : m₀ (Str.ofString "value") = some (.int v₀ t₀)) (h0 : v₀ = n₀) (h1 : n₀ < B)
    (turn : ∀ (c : Nat) (t tn : Tok) (pre : List Int) (n : Nat) (u : Str → Option Value) h tk own, n < 256 → c < B → c = (pre.map Int.toNat).foldl stp n₀ →
      Fr h₀ env.locals h (fun y => if y = Str.ofString "byte" then some (.int n tn) else if y = Str.ofString "value" then some (.int c t) else if ([] : List Str).contains y then u y else m₀ y) → News h₀ env.locals h (news ++ own) →
      wpAny (model prog w) A (execs body env) (InvPostN h₀ env.locals (KstS (fun _ => news) v1Ps (fun _ => True) (Str.ofString "byte") [] m₀ (v1P stp B n₀) (pre ++ [(n : Int)])) own (news.map (·.1)) { s with heap := h, toks := tk } Q) E { s with heap := h, toks := tk })
    (done : ∀ (c : Nat) (t : Tok) (u : Str → Option Value) h tk, c < B → c = (ks.map Int.toNat).foldl stp n₀ → Fr h₀ env.locals h (fun y => if y = Str.ofString "byte" then u y else if y = Str.ofString "value" then some (.int c t) else if ([] : List Str).contains y then u y else m₀ y) → News h₀ env.locals h news → Q .next { s with heap := h, toks := tk }) :
    wpAny (model prog w) A (pyIter (.bytes b tb)) (fun it s₂ => LoopAtV prog w A h₀ env (Str.ofString "byte") body Q E it s₂) E s := by
  refine KStb.kst_bytes (fun _ => news) v1Ps (fun _ => True) [] (v1P stp B n₀) ⟨n₀, t₀⟩ hb rfl hh F N trivial ?_ ⟨rfl, h1⟩ ?_ ?_
  · intro p hp
    rw [List.mem_singleton.mp hp, ← h0]
    exact hv
  · rintro ⟨c, t⟩ pre post n tn u h tk own he hl hn0 hn1 _ _ ⟨p1, p2⟩ F₁ N₁
    obtain ⟨n, rfl⟩ := Int.eq_ofNat_of_zero_le hn0
    exact turn c t tn pre n u h tk own (by omega) p2 p1 F₁ N₁
  · rintro ⟨c, t⟩ u h tk _ _ ⟨p1, p2⟩ F₁ N₁
    exact done c t u h tk p2 p1 F₁ N₁
theorem v1_end {stp : Nat → Nat → Nat} {B : Nat} {m₀ m' : Str → Option Value} {news own : List (Addr × Obj)} {pre : List Int} {n₀ n c : Nat} {x : Int} {t' : Tok} {h' : Heap} {tk : Nat} {s₁ : Shared}
    (F : Fr h₀ L h' m') (N : News h₀ L h' (news ++ own)) (hm : m' (Str.ofString "value") = some (.int x t')) (hx : x = (stp c n : Nat))
    (hr : ∀ z, z ≠ Str.ofString "byte" → z ≠ Str.ofString "value" → m' z = m₀ z) (h1 : stp c n < B) (h2 : c = (pre.map Int.toNat).foldl stp n₀) :
    InvEndN h₀ L (KstS (fun _ => news) v1Ps (fun _ => True) (Str.ofString "byte") [] m₀ (v1P stp B n₀) (pre ++ [(n : Int)])) own (news.map (·.1)) s₁ { s₁ with heap := h', toks := tk } := by
  refine kst_end (⟨stp c n, t'⟩ : V1) F N (fun p hp => List.mem_append.mpr (.inl hp)) (fun p hp => List.mem_append.mpr (.inr hp)) rfl trivial ?_ ?_ ⟨?_, h1⟩
  · intro p hp
    rw [List.mem_singleton.mp hp]
    show m' _ = some (.int ((stp c n : Nat) : Int) t')
    rw [← hx]
    exact hm
  · intro z h3 h4 _
    exact hr z h3 (h4 _ (.head _))
  · show stp c n = _
    rw [h2, List.map_append, List.foldl_append]
    simp
theorem v2_for (m : Nat) {body : List Stmt} {m₀ : Str → Option Value} {ks : List Int} {news : List (Addr × Obj)} {b : Array UInt8} {tb t₀ t₁ : Tok} {v₀ v₁ : Int} {n₀ n₁ : Nat}
    (hb : KBw.bInts b = ks) (hh : A.handled = none) (F : Fr h₀ env.locals s.heap m₀) (N : News h₀ env.locals s.heap news) (hv : m₀ (Str.ofString "low") = some (.int v₀ t₀)) (hw : m₀ (Str.ofString "high") = some (.int v₁ t₁)) (h0 : v₀ = n₀) (h0' : v₁ = n₁) (h1 : n₀ < m) (h1' : n₁ < m)
    (turn : ∀ (l h' : Nat) (tl th tn : Tok) (pre : List Int) (n : Nat) (u : Str → Option Value) h tk own, n < 256 → l < m → h' < m → (l, h') = (pre.map Int.toNat).foldl (st2 m) (n₀, n₁) →
      Fr h₀ env.locals h (fun y => if y = Str.ofString "byte" then some (.int n tn) else if y = Str.ofString "low" then some (.int l tl) else if y = Str.ofString "high" then some (.int h' th) else if ([] : List Str).contains y then u y else m₀ y) → News h₀ env.locals h (news ++ own) →
      wpAny (model prog w) A (execs body env) (InvPostN h₀ env.locals (KstS (fun _ => news) v2Ps (fun _ => True) (Str.ofString "byte") [] m₀ (v2P m (n₀, n₁)) (pre ++ [(n : Int)])) own (news.map (·.1)) { s with heap := h, toks := tk } Q) E { s with heap := h, toks := tk })
    (done : ∀ (l h' : Nat) (tl th : Tok) (u : Str → Option Value) h tk, l < m → h' < m → (l, h') = (ks.map Int.toNat).foldl (st2 m) (n₀, n₁) → Fr h₀ env.locals h (fun y => if y = Str.ofString "byte" then u y else if y = Str.ofString "low" then some (.int l tl) else if y = Str.ofString "high" then some (.int h' th) else if ([] : List Str).contains y then u y else m₀ y) → News h₀ env.locals h news → Q .next { s with heap := h, toks := tk }) :
    wpAny (model prog w) A (pyIter (.bytes b tb)) (fun it s₂ => LoopAtV prog w A h₀ env (Str.ofString "byte") body Q E it s₂) E s := by
  refine KStb.kst_bytes (fun _ => news) v2Ps (fun _ => True) [] (v2P m (n₀, n₁)) ⟨n₀, n₁, t₀, t₁⟩ hb rfl hh F N trivial ?_ ⟨rfl, h1, h1'⟩ ?_ ?_
  · intro p hp
    rcases List.mem_cons.mp hp with rfl | hp
    · exact h0 ▸ hv
    · rw [List.mem_singleton.mp hp]
      exact h0' ▸ hw
  · rintro ⟨l, h', tl, th⟩ pre post n tn u h tk own he hl hn0 hn1 _ _ ⟨p1, p2, p3⟩ F₁ N₁
    obtain ⟨n, rfl⟩ := Int.eq_ofNat_of_zero_le hn0
    exact turn l h' tl th tn pre n u h tk own (by omega) p2 p3 p1 F₁ N₁
  · rintro ⟨l, h', tl, th⟩ u h tk _ _ ⟨p1, p2, p3⟩ F₁ N₁
    exact done l h' tl th u h tk p2 p3 p1 F₁ N₁
theorem v2_end {m : Nat} {m₀ m' : Str → Option Value} {news own : List (Addr × Obj)} {pre : List Int} {v₀ : Nat × Nat} {n l hh : Nat} {x y : Int} {t' t'' : Tok} {h' : Heap} {tk : Nat} {s₁ : Shared}
    (F : Fr h₀ L h' m') (N : News h₀ L h' (news ++ own)) (hm : m' (Str.ofString "low") = some (.int x t')) (hm' : m' (Str.ofString "high") = some (.int y t'')) (hx : x = ((l + n : Nat) : Int) % (m : Int)) (hy : y = ((hh : Int) + ((l + n : Nat) : Int) % (m : Int)) % (m : Int))
    (hr : ∀ z, z ≠ Str.ofString "byte" → z ≠ Str.ofString "low" → z ≠ Str.ofString "high" → m' z = m₀ z) (hp : 0 < m) (h2 : (l, hh) = (pre.map Int.toNat).foldl (st2 m) v₀) :
    InvEndN h₀ L (KstS (fun _ => news) v2Ps (fun _ => True) (Str.ofString "byte") [] m₀ (v2P m v₀) (pre ++ [(n : Int)])) own (news.map (·.1)) s₁ { s₁ with heap := h', toks := tk } := by
  have ex : x = (((l + n) % m : Nat) : Int) := by rw [hx, Int.natCast_emod]
  have ey : y = (((hh + (l + n) % m) % m : Nat) : Int) := by rw [hy]; simp only [Int.natCast_add, Int.natCast_emod]
  refine kst_end (⟨(l + n) % m, (hh + (l + n) % m) % m, t', t''⟩ : V2) F N (fun p hp => List.mem_append.mpr (.inl hp)) (fun p hp => List.mem_append.mpr (.inr hp)) rfl trivial ?_ ?_ ⟨?_, Nat.mod_lt _ hp, Nat.mod_lt _ hp⟩
  · intro p hp
    rcases List.mem_cons.mp hp with rfl | hp
    · exact ex ▸ hm
    · rw [List.mem_singleton.mp hp]
      exact ey ▸ hm'
  · intro z h3 h4 _
    exact hr z h3 (h4 _ (.head _)) (h4 _ (.tail _ (.head _)))
  · show ((l + n) % m, (hh + (l + n) % m) % m) = _
    rw [List.map_append, List.foldl_append, ← h2]
    simp [st2]
end
structure MkX : Prop where
  one : True
structure MkS : Prop where
  one : True
def xorZ (ks : List Int) (x : Nat) : Nat := (ks.map Int.toNat).foldl (fun c n => c ^^^ n) x
def sumZ8 (ks : List Int) (x : Nat) : Nat := (ks.map Int.toNat).foldl (fun c n => (c + n) % 256) x
def twoZ (m b : Nat) (ks : List Int) (x : Nat) : Nat := ((ks.map Int.toNat).foldl (st2 m) (x % b, x / b)).2 * b + ((ks.map Int.toNat).foldl (st2 m) (x % b, x / b)).1
def bdT (m b : Nat) (x : Nat) : Prop := x % b < m ∧ x / b < m
/-- a check by a fold: two arguments -/
def FoldC (f : Addr) (Bd : Nat → Prop) (Z : List Int → Nat → Nat) (prog : Program) (w : World) (K : Frag) (p : Program) (loose : List Str) (mean : ExcName → Option Value) (mg mb : Str → Option Value) : Prop :=
  ∀ (b : Array UInt8) (ks : List Int) (tb : Tok) (news : List (Addr × Obj)) (y : Int) (x : Nat) (t : Tok), KBw.bInts b = ks → ks.length ≤ 1000 → y = x → Bd x → Fun prog w K p loose mean mg mb 20 f [.bytes b tb, .int y t] news (CrOut (Z ks x) news)
theorem add255 (c n : Nat) : Builtin.bitAnd ((c : Int) + (n : Int)) 255 = (((c + n) % 256 : Nat) : Int) := by rw [bitAnd_m8]; omega
theorem shr8 (x : Nat) : (x : Int).fdiv (2 ^ (8 : Int).toNat) = ((x / 256 : Nat) : Int) := by
  have : ((2 : Int) ^ (8 : Int).toNat) = 256 := by decide
  rw [this, Int.fdiv_eq_ediv_of_nonneg _ (by decide)]
  omega
theorem shr16 (x : Nat) : (x : Int).fdiv (2 ^ (16 : Int).toNat) = ((x / 65536 : Nat) : Int) := by
  have : ((2 : Int) ^ (16 : Int).toNat) = 65536 := by decide
  rw [this, Int.fdiv_eq_ediv_of_nonneg _ (by decide)]
  omega
theorem and16 (x : Nat) : Builtin.bitAnd (x : Int) 65535 = ((x % 65536 : Nat) : Int) := by rw [bitAnd_m16]; omega
theorem fm_low {l n m : Nat} : ((l : Int) + (n : Int)).fmod (m : Int) = ((l + n : Nat) : Int) % (m : Int) := by rw [Int.fmod_eq_emod_of_nonneg _ (by omega), Int.natCast_add]
theorem fm_high {l n hh m : Nat} : ((hh : Int) + ((l : Int) + (n : Int)).fmod (m : Int)).fmod (m : Int) = ((hh : Int) + ((l + n : Nat) : Int) % (m : Int)) % (m : Int) := by rw [fm_low, Int.fmod_eq_emod_of_nonneg _ (by omega)]
theorem two_val {m b l hh x : Nat} {ks : List Int} (h : (l, hh) = (ks.map Int.toNat).foldl (st2 m) (x % b, x / b)) : (hh : Int) * (b : Int) + (l : Int) = (twoZ m b ks x : Nat) := by
  unfold twoZ
  rw [← h, Int.natCast_add, Int.natCast_mul]
theorem two_fl {l hh x : Nat} {ks : List Int} (h : (l, hh) = (ks.map Int.toNat).foldl (st2 255) (x % 256, x / 256)) : (hh : Int) * 256 + (l : Int) = (twoZ 255 256 ks x : Nat) := two_val h
theorem two_ad {l hh x : Nat} {ks : List Int} (h : (l, hh) = (ks.map Int.toNat).foldl (st2 65521) (x % 65536, x / 65536)) : (hh : Int) * 65536 + (l : Int) = (twoZ 65521 65536 ks x : Nat) := two_val h
theorem fl_low {l n : Nat} : ((l : Int) + (n : Int)).fmod 255 = ((l + n : Nat) : Int) % ((255 : Nat) : Int) := fm_low (m := 255)
theorem fl_high {l n hh : Nat} : ((hh : Int) + ((l : Int) + (n : Int)).fmod 255).fmod 255 = ((hh : Int) + ((l + n : Nat) : Int) % ((255 : Nat) : Int)) % ((255 : Nat) : Int) := fm_high (m := 255)
theorem ad_low {l n : Nat} : ((l : Int) + (n : Int)).fmod 65521 = ((l + n : Nat) : Int) % ((65521 : Nat) : Int) := fm_low (m := 65521)
theorem ad_high {l n hh : Nat} : ((hh : Int) + ((l : Int) + (n : Int)).fmod 65521).fmod 65521 = ((hh : Int) + ((l + n : Nat) : Int) % ((65521 : Nat) : Int)) % ((65521 : Nat) : Int) := fm_high (m := 65521)
theorem z0 : (0 : Int) = ((0 : Nat) : Int) := rfl
theorem z1 : (1 : Int) = ((1 : Nat) : Int) := rfl
theorem fold_lt {stp : Nat → Nat → Nat} {B : Nat} (h : ∀ c n, c < B → n < 256 → stp c n < B) : ∀ (l : List Nat) (x : Nat), (∀ n ∈ l, n < 256) → x < B → l.foldl stp x < B
  | [], _, _, hx => hx
  | n :: r, x, hl, hx => fold_lt h r _ (fun k hk => hl k (.tail _ hk)) (h x n hx (hl n (.head _)))
theorem ints_nat {b : Array UInt8} {ks : List Int} (hb : KBw.bInts b = ks) : ∀ n ∈ ks.map Int.toNat, n < 256 := by
  intro n hn
  obtain ⟨k, hk, rfl⟩ := List.mem_map.mp hn
  have := KBw.ints_in (b := b) (hb ▸ hk)
  omega
theorem xorZ_lt {b : Array UInt8} {ks : List Int} {x : Nat} (hb : KBw.bInts b = ks) (hx : x < 256) : xorZ ks x < 256 := fold_lt (fun c n h1 h2 => Nat.xor_lt_two_pow (n := 8) h1 h2) _ _ (ints_nat hb) hx
theorem sumZ_lt {b : Array UInt8} {ks : List Int} {x : Nat} (hb : KBw.bInts b = ks) (hx : x < 256) : sumZ8 ks x < 256 := fold_lt (fun c n _ _ => Nat.mod_lt _ (by decide)) _ _ (ints_nat hb) hx
theorem st2_lt {m : Nat} (hm : 0 < m) : ∀ (l : List Nat) (x : Nat × Nat), x.1 < m → x.2 < m → (l.foldl (st2 m) x).1 < m ∧ (l.foldl (st2 m) x).2 < m
  | [], _, h1, h2 => ⟨h1, h2⟩
  | _ :: r, _, _, _ => st2_lt hm r _ (Nat.mod_lt _ hm) (Nat.mod_lt _ hm)
theorem twoZ_bd {m b : Nat} {ks : List Int} {x : Nat} (hm : 0 < m) (hb : m ≤ b) (hx : bdT m b x) : bdT m b (twoZ m b ks x) := by
  obtain ⟨h1, h2⟩ := st2_lt hm (ks.map Int.toNat) (x % b, x / b) hx.1 hx.2
  unfold bdT twoZ
  generalize (ks.map Int.toNat).foldl (st2 m) (x % b, x / b) = p at h1 h2
  rw [Nat.mul_comm, Nat.mul_add_mod, Nat.mod_eq_of_lt (by omega), Nat.mul_add_div (by omega), Nat.div_eq_of_lt (show p.1 < b by omega)]
  exact ⟨h1, by omega⟩
section
variable {prog : Program} {w : World} {A : Around} {E : Value → Shared → Prop} {s : Shared} {h₀ : Heap} {L a : Addr} {K : Frag} {m : Str → Option Value} {n : Nat} {x : Str} {t : Tok} {es : Array DictEntry}
theorem topNotIn {r : Option Value} {Q : Value → Shared → Prop} (F : Fr h₀ L s.heap m) (X₀ : K.In h₀) (hl : K.lookup a = some ⟨.type "dict", none, .dict es n, #[]⟩) (hk : KeysLit w.params es.toList) (e : nsIn K a x = some r) (lo : (a == sysModules) = false)
    (h : Q (.bool (!r.isSome)) { s with toks := s.toks + 1 }) : wpAny (model prog w) A (compareOp .NotIn (.str x t) (.ref a)) Q E s :=
  wpAny_notIn_of (strKind_is prog w x t) lo (mapOf_K (prog := prog) (X₀.keeps F.keep) hl hk) (by rw [find_K hl e]; exact h)
theorem kind_item {value slice : Expr} {l : List Value} {dd : Option Addr} {sl : Array (Option Value)} {k : Int} {u : Tok} {v0 v1 v2 v3 v4 v5 : Value} {Q : Value → Shared → Prop} (F : Fr h₀ L s.heap m) (X₀ : K.In h₀) (hl : K.lookup a = some ⟨.type "list", dd, .seq l.toArray n, sl⟩)
    (he : l = [v0, v1, v2, v3, v4, v5]) (h0 : 0 ≤ k) (h1 : k < 6) (q0 : Q v0 s) (q1 : Q v1 s) (q2 : Q v2 s) (q3 : Q v3 s) (q4 : Q v4 s) (q5 : Q v5 s)
    (hs : subscripted slice false (.ref a) (.int k u) = operate [.ref a, .int k u] (getItem (.ref a) (.int k u)) := by with_unfolding_all rfl) :
    wpAny (model prog w) A (subscriptTail value slice (.ref a) (.int k u)) Q E s := by
  subst he
  have hk : k = 0 ∨ k = 1 ∨ k = 2 ∨ k = 3 ∨ k = 4 ∨ k = 5 := by omega
  rcases hk with rfl | rfl | rfl | rfl | rfl | rfl
  · exact topList_K F X₀ hl h0 (by decide) rfl q0 hs
  · exact topList_K F X₀ hl h0 (by decide) rfl q1 hs
  · exact topList_K F X₀ hl h0 (by decide) rfl q2 hs
  · exact topList_K F X₀ hl h0 (by decide) rfl q3 hs
  · exact topList_K F X₀ hl h0 (by decide) rfl q4 hs
  · exact topList_K F X₀ hl h0 (by decide) rfl q5 hs
end
section
variable {prog : Program} {w : World} {A : Around} {E : Value → Shared → Prop} {s : Shared}
theorem mul_data {v n : Int} {t u : Tok} {Q : Value → Shared → Prop} (h0 : 0 ≤ n) (h1 : n < 10)
    (h : ∀ (b : Array UInt8) (ks : List Int) (t' : Tok) (k : Nat), KBw.bInts b = ks → ks.length ≤ 9 → Q (.bytes b t') { s with toks := k }) :
    wpAny (model prog w) A (binaryOp .Mult (.bytes (List.toArray [v.toNat.toUInt8]) t) (.int n u)) Q E s := by
  refine bytes_mul_any (List.cons_ne_nil _ _) (by omega) (by omega) (by simp) fun t' k => h _ _ t' k rfl ?_
  rw [KBw.ints_length]
  have e : (List.replicate n.toNat [v.toNat.toUInt8]).flatten = List.replicate n.toNat v.toNat.toUInt8 := by
    induction n.toNat with
    | zero => rfl
    | succ k ih => rw [List.replicate_succ, List.flatten_cons, ih]; rfl
  rw [e, List.size_toArray, List.length_replicate]
  omega
end
theorem xr_lt {b : Array UInt8} {ks : List Int} (hb : KBw.bInts b = ks) : xorZ ks 0 < 256 ^ 1 := xorZ_lt hb (by decide)
theorem sm_lt {b : Array UInt8} {ks : List Int} (hb : KBw.bInts b = ks) : sumZ8 ks 0 < 256 ^ 1 := sumZ_lt hb (by decide)
theorem fl_lt {ks : List Int} : twoZ 255 256 ks 0 < 256 ^ 2 := by
  have h := twoZ_bd (m := 255) (b := 256) (ks := ks) (x := 0) (by decide) (by decide) ⟨by decide, by decide⟩
  unfold bdT at h
  omega
theorem ad_lt {ks : List Int} : twoZ 65521 65536 ks 1 < 256 ^ 4 := by
  have h := twoZ_bd (m := 65521) (b := 65536) (ks := ks) (x := 1) (by decide) (by decide) ⟨by decide, by decide⟩
  unfold bdT at h
  omega
theorem cr_lt {ks : List Int} : crcZ ks 0 < 256 ^ 4 := crcZ_lt ks (x := 0) (by decide)
theorem fb_len {b : Array UInt8} {N size : Nat} (_h : KBw.bInts b = fixL N size) : (fixL N size).length = size := fixL_len _ _
theorem cut_head {b : Array UInt8} {ks fs : List Int} {x : Int} (h : KBw.bInts b = ((ks ++ fs).drop ((none : Option Int).elim 0 (clipAt (ks ++ fs).length))).take ((some x).elim (ks ++ fs).length (clipAt (ks ++ fs).length) - (none : Option Int).elim 0 (clipAt (ks ++ fs).length))) (hx : x = (ks.length : Int)) : KBw.bInts b = ks := by
  rw [h]
  simp only [Option.elim, List.drop_zero, Nat.sub_zero]
  rw [hx, clipAt_in (by omega) (by rw [List.length_append]; omega), Int.toNat_natCast, List.take_left']
  rfl
theorem bInts_inj {b c : Array UInt8} (h : KBw.bInts b = KBw.bInts c) : b.toList = c.toList := by
  unfold KBw.bInts at h
  have key : ∀ l1 l2 : List UInt8, l1.map (fun c => (c.toNat : Int)) = l2.map (fun c => (c.toNat : Int)) → l1 = l2 := by
    intro l1
    induction l1 with
    | nil => intro l2 h; cases l2 with
      | nil => rfl
      | cons _ _ => simp at h
    | cons x l1 ih => intro l2 h; cases l2 with
      | nil => simp at h
      | cons y l2 =>
        simp only [List.map_cons, List.cons.injEq] at h
        rw [ih l2 h.2, UInt8.toNat_inj.mp (Int.ofNat_inj.mp h.1)]
  exact key _ _ h
theorem eq_same {prog : Program} {w : World} {A : Around} {E : Value → Shared → Prop} {s : Shared} {b c : Array UInt8} {t u : Tok} {ks : List Int} {Q : Value → Shared → Prop} (hb : KBw.bInts b = ks) (hc : KBw.bInts c = ks) (h : Q (.bool true) s) : wpAny (model prog w) A (compareOp .Eq (.bytes b t) (.bytes c u)) Q E s := by
  refine eq_bytes ?_
  rw [bInts_inj (hb.trans hc.symm), beq_self_eq_true]
  exact h
theorem ne_no {prog : Program} {w : World} {A : Around} {E : Value → Shared → Prop} {s : Shared} {a b : Int} {t u : Tok} {Q : Value → Shared → Prop} (e : a = b) (h : Q (.bool false) s) : wpAny (model prog w) A (compareOp .NotEq (.int a t) (.int b u)) Q E s := by
  refine ne_int ?_
  rw [e, bne_self_eq_false]
  exact h
theorem z2 : (2 : Int) = ((2 : Nat) : Int) := rfl
theorem z4 : (4 : Int) = ((4 : Nat) : Int) := rfl
theorem xorZ_app (p q : List Int) (x : Nat) : xorZ q (xorZ p x) = xorZ (p ++ q) x := by simp [xorZ]
theorem sumZ_app (p q : List Int) (x : Nat) : sumZ8 q (sumZ8 p x) = sumZ8 (p ++ q) x := by simp [sumZ8]
theorem twoZ_app {m b : Nat} (hm : 0 < m) (hb : m ≤ b) (p q : List Int) {x : Nat} (hx : bdT m b x) : twoZ m b q (twoZ m b p x) = twoZ m b (p ++ q) x := by
  obtain ⟨h1, h2⟩ := st2_lt hm (p.map Int.toNat) (x % b, x / b) hx.1 hx.2
  unfold twoZ
  rw [List.map_append, List.foldl_append]
  generalize (p.map Int.toNat).foldl (st2 m) (x % b, x / b) = c at h1 h2
  have e1 : (c.2 * b + c.1) % b = c.1 := by rw [Nat.mul_comm, Nat.mul_add_mod, Nat.mod_eq_of_lt (by omega)]
  have e2 : (c.2 * b + c.1) / b = c.2 := by rw [Nat.mul_comm, Nat.mul_add_div (by omega), Nat.div_eq_of_lt (show c.1 < b by omega)]; rfl
  rw [e1, e2]
theorem crcZ_app (p q : List Int) (x : Nat) : crcZ q (crcZ p x) = crcZ (p ++ q) x := by
  unfold crcZ
  rw [xor_back, List.map_append, crcAll, crcAll, crcAll, List.foldl_append]
section
variable {prog : Program} {w : World} {A : Around} {E : Value → Shared → Prop} {s : Shared} {h₀ : Heap} {L D : Addr} {m : Str → Option Value} {news : List (Addr × Obj)} {vs : List Value} {ns : List Int}
theorem mk_data {Q : Value → Shared → Prop} (F : Fr h₀ L s.heap m) (N : News h₀ L s.heap news) (hh : A.handled = none) (hl : s.heap.IsList D vs.toArray) (hi : IntsAre vs ns) (hr : KBa.In ns) (hn : ns.length ≤ 200)
    (h : ∀ (b : Array UInt8) (ks : List Int) h' t' k', Fr h₀ L h' m → News h₀ L h' [] → KBw.bInts b = ks → ks.length ≤ 200 → Q (.bytes b t') { s with heap := h', toks := k' }) : wpAny (model prog w) A (call (.type "bytes") [.ref D]) Q E s :=
  KBa.make_K F N hh hl hi hr (by omega) fun h' t' k' F' N' hIn => h _ _ h' t' k' F' (fun p hp => nomatch hp) (KBa.ints_make hIn) hn
end
section
variable {prog : Program} {w : World} {A : Around} {E : Value → Shared → Prop} {s : Shared} {h₀ : Heap} {L D : Addr} {m : Str → Option Value} {news : List (Addr × Obj)}
theorem kind_disp {value slice : Expr} {n : Nat} {k : Int} {u : Tok} {v0 v1 v2 v3 v4 v5 : Value} {Q : Value → Shared → Prop} (N : News h₀ L s.heap news) (hm : (D, listOf #[v0, v1, v2, v3, v4, v5] n) ∈ news)
    (h0 : 0 ≤ k) (h1 : k < 6) (q0 : Q v0 s) (q1 : Q v1 s) (q2 : Q v2 s) (q3 : Q v3 s) (q4 : Q v4 s) (q5 : Q v5 s)
    (hs : subscripted slice false (.ref D) (.int k u) = operate [.ref D, .int k u] (getItem (.ref D) (.int k u)) := by with_unfolding_all rfl) :
    wpAny (model prog w) A (subscriptTail value slice (.ref D) (.int k u)) Q E s := by
  have hL : s.heap.IsList D #[v0, v1, v2, v3, v4, v5] := PySem.IsL.isList (n := n) (N _ hm).1
  have hk : k = 0 ∨ k = 1 ∨ k = 2 ∨ k = 3 ∨ k = 4 ∨ k = 5 := by omega
  refine tail_any hL.typeIs slot_list_getitem.lookup ?_ hs
  rcases hk with rfl | rfl | rfl | rfl | rfl | rfl
  · exact wpAny_getItem_list hL (by decide) (by decide) rfl q0
  · exact wpAny_getItem_list hL (by decide) (by decide) rfl q1
  · exact wpAny_getItem_list hL (by decide) (by decide) rfl q2
  · exact wpAny_getItem_list hL (by decide) (by decide) rfl q3
  · exact wpAny_getItem_list hL (by decide) (by decide) rfl q4
  · exact wpAny_getItem_list hL (by decide) (by decide) rfl q5
end
theorem xor_cut {ks : List Int} {c : Nat} {x : Nat} : xorZ (ks.drop c) (xorZ (ks.take c) x) = xorZ ks x := by rw [xorZ_app, List.take_append_drop]
theorem sum_cut {ks : List Int} {c : Nat} {x : Nat} : sumZ8 (ks.drop c) (sumZ8 (ks.take c) x) = sumZ8 ks x := by rw [sumZ_app, List.take_append_drop]
theorem fl_cut {ks : List Int} {c : Nat} : twoZ 255 256 (ks.drop c) (twoZ 255 256 (ks.take c) 0) = twoZ 255 256 ks 0 := by rw [twoZ_app (by decide) (by decide) _ _ ⟨by decide, by decide⟩, List.take_append_drop]
theorem ad_cut {ks : List Int} {c : Nat} : twoZ 65521 65536 (ks.drop c) (twoZ 65521 65536 (ks.take c) 1) = twoZ 65521 65536 ks 1 := by rw [twoZ_app (by decide) (by decide) _ _ ⟨by decide, by decide⟩, List.take_append_drop]
theorem crc_cut {ks : List Int} {c : Nat} {x : Nat} : crcZ (ks.drop c) (crcZ (ks.take c) x) = crcZ ks x := by rw [crcZ_app, List.take_append_drop]
theorem fl_bd {ks : List Int} : bdT 255 256 (twoZ 255 256 ks 0) := twoZ_bd (by decide) (by decide) ⟨by decide, by decide⟩
theorem ad_bd {ks : List Int} : bdT 65521 65536 (twoZ 65521 65536 ks 1) := twoZ_bd (by decide) (by decide) ⟨by decide, by decide⟩
theorem cut_take {b : Array UInt8} {ks : List Int} {x : Int} (h : KBw.bInts b = (ks.drop ((none : Option Int).elim 0 (clipAt ks.length))).take ((some x).elim ks.length (clipAt ks.length) - (none : Option Int).elim 0 (clipAt ks.length))) (h0 : 0 ≤ x) : KBw.bInts b = ks.take x.toNat := by
  have hc : clipAt ks.length x = min x.toNat ks.length := by
    have := clipAt_cast ks.length x
    rw [if_neg (by omega)] at this
    omega
  rw [h]
  simp only [Option.elim, List.drop_zero, Nat.sub_zero]
  rw [hc]
  by_cases e : x.toNat ≤ ks.length
  · rw [Nat.min_eq_left e]
  · rw [Nat.min_eq_right (by omega), List.take_of_length_le (Nat.le_refl _), List.take_of_length_le (by omega)]
theorem cut_drop {b : Array UInt8} {ks : List Int} {x : Int} (h : KBw.bInts b = (ks.drop ((some x).elim 0 (clipAt ks.length))).take ((none : Option Int).elim ks.length (clipAt ks.length) - (some x).elim 0 (clipAt ks.length))) (h0 : 0 ≤ x) : KBw.bInts b = ks.drop x.toNat := by
  have hc : clipAt ks.length x = min x.toNat ks.length := by
    have := clipAt_cast ks.length x
    rw [if_neg (by omega)] at this
    omega
  rw [h]
  simp only [Option.elim]
  rw [hc]
  by_cases e : x.toNat ≤ ks.length
  · rw [Nat.min_eq_left e, List.take_of_length_le (by rw [List.length_drop]; omega)]
  · rw [Nat.min_eq_right (by omega), Nat.sub_self, List.take_zero, List.drop_of_length_le (by omega)]
/-- the six kinds of check -/
inductive Kd where
  | no | xor | sum | fl | ad | crc
def kdS : Kd → Str
  | .no => Str.ofString "none"
  | .xor => Str.ofString "xor8"
  | .sum => Str.ofString "sum8"
  | .fl => Str.ofString "fletcher16"
  | .ad => Str.ofString "adler32"
  | .crc => Str.ofString "crc32"
def kdF : Kd → List Int → Nat → Nat
  | .no, _, _ => 0
  | .xor, ks, v => xorZ ks v
  | .sum, ks, v => sumZ8 ks v
  | .fl, ks, v => twoZ 255 256 ks v
  | .ad, ks, v => twoZ 65521 65536 ks v
  | .crc, ks, v => crcZ ks v
def kdW : Kd → Nat
  | .no => 0
  | .xor => 1
  | .sum => 1
  | .fl => 2
  | .ad => 4
  | .crc => 4
def kdI : Kd → Nat
  | .ad => 1
  | _ => 0
def kdB : Kd → Nat → Prop
  | .no, v => v = 0
  | .xor, v => v < 256
  | .sum, v => v < 256
  | .fl, v => bdT 255 256 v
  | .ad, v => bdT 65521 65536 v
  | .crc, v => v < 2 ^ 32
theorem kdW_le (k : Kd) : kdW k ≤ 4 := by cases k <;> decide
theorem kd_init (k : Kd) : kdB k (kdI k) := by
  cases k
  · exact rfl
  · show 0 < 256; decide
  · show 0 < 256; decide
  · exact ⟨by decide, by decide⟩
  · exact ⟨by decide, by decide⟩
  · show 0 < 2 ^ 32; decide
theorem kd_keep {b : Array UInt8} {ks : List Int} {k : Kd} {v : Nat} (hb : KBw.bInts b = ks) (h : kdB k v) : kdB k (kdF k ks v) := by
  cases k
  · exact rfl
  · exact xorZ_lt hb h
  · exact sumZ_lt hb h
  · exact twoZ_bd (by decide) (by decide) h
  · exact twoZ_bd (by decide) (by decide) h
  · exact crcZ_lt ks h
theorem kd_app {ks ls : List Int} {k : Kd} {v : Nat} (h : kdB k v) : kdF k ls (kdF k ks v) = kdF k (ks ++ ls) v := by
  cases k
  · rfl
  · exact xorZ_app ..
  · exact sumZ_app ..
  · exact twoZ_app (by decide) (by decide) _ _ h
  · exact twoZ_app (by decide) (by decide) _ _ h
  · exact crcZ_app ..
theorem kd_cut {ks : List Int} {c : Nat} {k : Kd} : kdF k (ks.drop c) (kdF k (ks.take c) (kdI k)) = kdF k ks (kdI k) := by rw [kd_app (kd_init k), List.take_append_drop]
theorem kd_lt {k : Kd} {v : Nat} (h : kdB k v) : v < 256 ^ kdW k := by
  cases k
  · rw [show v = 0 from h]; decide
  · exact h
  · exact h
  · have h' : bdT 255 256 v := h
    show v < 256 ^ 2
    unfold bdT at h'
    omega
  · have h' : bdT 65521 65536 v := h
    show v < 256 ^ 4
    unfold bdT at h'
    omega
  · exact h
section
variable {prog : Program} {w : World} {A : Around} {E : Value → Shared → Prop} {s : Shared} {h₀ : Heap} {L D : Addr} {m : Str → Option Value} {news : List (Addr × Obj)}
theorem kd_disp {value slice : Expr} {n : Nat} {k : Int} {u t0 t1 t2 t3 t4 t5 : Tok} {Q : Value → Shared → Prop} (N : News h₀ L s.heap news)
    (hm : (D, listOf #[.str (Str.ofString "none") t0, .str (Str.ofString "xor8") t1, .str (Str.ofString "sum8") t2, .str (Str.ofString "fletcher16") t3, .str (Str.ofString "adler32") t4, .str (Str.ofString "crc32") t5] n) ∈ news)
    (h0 : 0 ≤ k) (h1 : k < 6) (q : ∀ (k : Kd) t, Q (.str (kdS k) t) s)
    (hs : subscripted slice false (.ref D) (.int k u) = operate [.ref D, .int k u] (getItem (.ref D) (.int k u)) := by with_unfolding_all rfl) :
    wpAny (model prog w) A (subscriptTail value slice (.ref D) (.int k u)) Q E s :=
  kind_disp N hm h0 h1 (q .no _) (q .xor _) (q .sum _) (q .fl _) (q .ad _) (q .crc _) hs
end
def WdOut (z : Nat) (news : List (Addr × Obj)) (r : Value) (news' : List (Addr × Obj)) : Prop := ∃ t, r = .int (z : Int) t ∧ news' = news
def WdC (f : Addr) (prog : Program) (w : World) (K : Frag) (p : Program) (loose : List Str) (mean : ExcName → Option Value) (mg mb : Str → Option Value) : Prop :=
  ∀ (k : Kd) (t : Tok) (news : List (Addr × Obj)), Fun prog w K p loose mean mg mb 20 f [.str (kdS k) t] news (WdOut (kdW k) news)
def FiC (f : Addr) (prog : Program) (w : World) (K : Frag) (p : Program) (loose : List Str) (mean : ExcName → Option Value) (mg mb : Str → Option Value) : Prop :=
  ∀ (k : Kd) (t : Tok) (news : List (Addr × Obj)), Fun prog w K p loose mean mg mb 40 f [.str (kdS k) t] news (WdOut (kdI k) news)
def GoC (f : Addr) (prog : Program) (w : World) (K : Frag) (p : Program) (loose : List Str) (mean : ExcName → Option Value) (mg mb : Str → Option Value) : Prop :=
  ∀ (k : Kd) (b : Array UInt8) (ks : List Int) (t ty tb : Tok) (news : List (Addr × Obj)) (y : Int) (v : Nat), KBw.bInts b = ks → ks.length ≤ 1000 → y = (v : Int) → kdB k v → Fun prog w K p loose mean mg mb 40 f [.str (kdS k) t, .int y ty, .bytes b tb] news (CrOut (kdF k ks v) news)
theorem fb_le {b : Array UInt8} {N : Nat} {k : Kd} (_h : KBw.bInts b = fixL N (kdW k)) : (fixL N (kdW k)).length ≤ 4 := by
  rw [fixL_len]; exact kdW_le k
end Mine
local macro_rules | `(tactic| walk_at "mine ne") => `(tactic| ((try dsimp only); first | assumption | k_ne | (refine Ne.symm ?_; assumption)))
local macro_rules | `(tactic| walk_at "mine off") => `(tactic| first | exact List.forall_mem_nil _ | assumption | exact Mine.off_lt (by assumption) | exact Mine.off_gt (by assumption) | (refine' List.forall_mem_cons.mpr ⟨?a, ?b⟩; (case a => walk_at "mine ne"); (case b => walk_at "mine off")) | (refine' List.forall_mem_append.mpr ⟨?a, ?b⟩; (case a | b => walk_at "mine off")))
local macro_rules | `(tactic| walk_at "mine upd") => `(tactic| first | (refine' Upd.head ?a; (case a => walk_at "mine off")) | (refine' Upd.tail ?a ?b; (case a => walk_at "mine ne"); (case b => walk_at "mine upd")))
local macro_rules | `(tactic| walk_at "mine size") => `(tactic| ((try law_lens); (simp only [List.size_toArray, Array.size_push, Array.size_append, List.length_append, List.length_cons, List.length_nil, List.length_take, List.length_drop, List.length_replicate, sizeLine_eq]); omega))
local macro_rules | `(tactic| walk_at "call builtin:list.append") => `(tactic| (k_here; (with_reducible show wpAny _ _ (call (Value.builtin "list.append") [Value.ref _, _]) _ _ _); k_dflt (refine' append_K (by k_asm) (by k_asm) (by walk_at "mine upd") ?_ (by walk_at "mine size"); k_whole); intros; (try k_sweep)))
local macro_rules | `(tactic| walk_at "mine updF") => `(tactic| first | (refine' UpdF.head ?a; (case a => walk_at "mine off")) | (refine' UpdF.tail ?a ?b; (case a => walk_at "mine ne"); (case b => walk_at "mine updF")))
local macro_rules | `(tactic| walk_at "call builtin:list.extend") => `(tactic| (k_here; (with_reducible show wpAny _ _ (call (Value.builtin "list.extend") [Value.ref _, Value.ref _]) _ _ _); k_dflt (refine' Mine.extend_U (by k_asm) (by k_asm) (by k_mem) (by walk_at "mine updF") (by walk_at "mine size") ?_; k_whole); intro _ _ _ N'; (try dsimp only at N'); (try k_sweep)))
local macro_rules | `(tactic| walk_at "mine enter") => `(tactic| (refine' code_def ?k1 ?k2 ?k3 ?k4 ?k5 (by exact rfl) (by exact rfl) (by assumption) ?k6 ?k7 ?k8 ?k9 ?kB ?_ ?c2 ?c3 ?c4 ?c5; (case k1 | k2 | k3 | k4 | k5 => k_asm); (case k6 | k7 => k_is); (case k8 => ktr_room); (case k9 => first | exact BindsTo.of_eq rfl | exact binds_K (by k_in) rfl (by k_is) rfl rfl rfl); (case c5 => decide); (case kB => exact locs rfl); (case c2 | c3 | c4 => exact rfl); k_whole; intro _ _ _ _ _ _ B' _ _; (try dsimp only); (try k_lift B'); (try k_fold)))
section
local macro_rules | `(tactic| walk_at "pyIter bytes") => `(tactic| (k_here; (with_reducible show wpAny _ _ (pyIter (Value.bytes _ _)) (fun it s₂ => LoopAtV _ _ _ _ _ _ _ _ _ it s₂) _ _); (rename Fr _ _ _ _ => lF'); (rename News _ _ _ _ => lN'); (with_unfolding_all refine' Mine.cr_for (by assumption) (by exact rfl) lF' lN' (by exact rfl) (by with_reducible first | exact Mine.xor_0 | exact Mine.xor_M _) (by first | decide | exact Nat.xor_lt_two_pow (by assumption) (by decide)) ?_ ?_); (all_goals (try clear lF' lN')); (focus (intros; (try k_fold))); rotate_left; (focus (intros; (try k_unfold); (try dsimp only))); rotate_right))
local macro_rules | `(tactic| walk_at "subscriptTail Name BinOp ref int") => `(tactic| (k_here; (with_reducible show wpAny _ _ (subscriptTail _ _ (Value.ref _) (Value.int (Builtin.bitAnd (Builtin.bitXor _ _) _) _)) _ _ _); k_dflt (refine' Mine.tab_item (by k_asm) (by k_asm) (by kernel_rfl) (by with_reducible exact Mine.idx_x) (by with_reducible exact Nat.mod_lt _ (by decide)) ?_; k_whole); intro _))
local macro_rules | `(tactic| walk_at "InvEndN") => `(tactic| (k_here; (rename Fr _ _ _ _ => lF'); (rename News _ _ _ _ => lN'); with_unfolding_all (refine' Mine.cr_end lF' lN' (by exact rfl) (by exact Mine.step_x) (by (intro _ h1 h2; simp only [h1, h2, if_false]; rfl)) (by assumption) (by assumption) (by assumption))))
local macro_rules | `(tactic| walk_at "mine two") => `(tactic| ((all_goals (try clear lF' lN')); (focus (intros; (try k_fold))); rotate_left; (focus (intros; (try k_unfold); (try dsimp only))); rotate_right))
local macro_rules | `(tactic| walk_at "pyIter bytes") => `(tactic| (k_here; (with_reducible show wpAny _ _ (pyIter (Value.bytes _ _)) (fun it s₂ => LoopAtV _ _ _ _ _ _ _ _ _ it s₂) _ _); (rename Fr _ _ _ _ => lF'); (rename News _ _ _ _ => lN'); (with_unfolding_all refine' Mine.v2_for 255 (by assumption) (by exact rfl) lF' lN' (by exact rfl) (by exact rfl) (by with_reducible exact Mine.and255 _) (by with_reducible exact Mine.shr8 _) (by exact And.left (by assumption)) (by exact And.right (by assumption)) ?_ ?_); walk_at "mine two"))
local macro_rules | `(tactic| walk_at "pyIter bytes") => `(tactic| (k_here; (with_reducible show wpAny _ _ (pyIter (Value.bytes _ _)) (fun it s₂ => LoopAtV _ _ _ _ _ _ _ _ _ it s₂) _ _); (rename Fr _ _ _ _ => lF'); (rename News _ _ _ _ => lN'); (with_unfolding_all refine' Mine.v2_for 65521 (by assumption) (by exact rfl) lF' lN' (by exact rfl) (by exact rfl) (by with_reducible exact Mine.and16 _) (by with_reducible exact Mine.shr16 _) (by exact And.left (by assumption)) (by exact And.right (by assumption)) ?_ ?_); walk_at "mine two"))
local macro_rules | `(tactic| walk_at "mine one") => `(tactic| ((all_goals (try clear lF' lN')); (focus (intros; (try k_fold))); rotate_left; (focus (intros; (try k_unfold); (try dsimp only))); rotate_right))
local macro_rules | `(tactic| walk_at "pyIter bytes") => `(tactic| (k_here; (with_reducible show wpAny _ _ (pyIter (Value.bytes _ _)) (fun it s₂ => LoopAtV _ _ _ _ _ _ _ _ _ it s₂) _ _); (rename Mine.MkX => mX'); (rename Fr _ _ _ _ => lF'); (rename News _ _ _ _ => lN'); (with_unfolding_all refine' Mine.v1_for (fun c n => c ^^^ n) 256 (by assumption) (by exact rfl) lF' lN' (by exact rfl) (by with_reducible rfl) (by assumption) ?_ ?_); walk_at "mine one"))
local macro_rules | `(tactic| walk_at "pyIter bytes") => `(tactic| (k_here; (with_reducible show wpAny _ _ (pyIter (Value.bytes _ _)) (fun it s₂ => LoopAtV _ _ _ _ _ _ _ _ _ it s₂) _ _); (rename Mine.MkS => mX'); (rename Fr _ _ _ _ => lF'); (rename News _ _ _ _ => lN'); (with_unfolding_all refine' Mine.v1_for (fun c n => (c + n) % 256) 256 (by assumption) (by exact rfl) lF' lN' (by exact rfl) (by with_reducible rfl) (by assumption) ?_ ?_); walk_at "mine one"))
local macro_rules | `(tactic| walk_at "InvEndN") => `(tactic| (k_here; (rename Fr _ _ _ _ => lF'); (rename News _ _ _ _ => lN'); with_unfolding_all (refine' Mine.v2_end lF' lN' (by exact rfl) (by exact rfl) (by with_reducible first | exact Mine.fl_low | exact Mine.ad_low) (by with_reducible first | exact Mine.fl_high | exact Mine.ad_high) (by (intro _ h1 h2 h3; simp only [h1, h2, h3, if_false]; rfl)) (by decide) (by assumption))))
local macro_rules | `(tactic| walk_at "InvEndN") => `(tactic| (k_here; (rename Mine.MkX => mX'); (rename Fr _ _ _ _ => lF'); (rename News _ _ _ _ => lN'); with_unfolding_all (refine' Mine.v1_end lF' lN' (by exact rfl) (by exact Mine.xor_nn _ _) (by (intro _ h1 h2; simp only [h1, h2, if_false]; rfl)) (by exact Nat.xor_lt_two_pow (n := 8) (by assumption) (by assumption)) (by assumption))))
local macro_rules | `(tactic| walk_at "InvEndN") => `(tactic| (k_here; (rename Mine.MkS => mX'); (rename Fr _ _ _ _ => lF'); (rename News _ _ _ _ => lN'); with_unfolding_all (refine' Mine.v1_end lF' lN' (by exact rfl) (by exact Mine.add255 _ _) (by (intro _ h1 h2; simp only [h1, h2, if_false]; rfl)) (by exact Nat.mod_lt _ (by decide)) (by assumption))))
set_option maxRecDepth 100000 in
set_option maxHeartbeats 8000000 in
theorem Mine.xr_ctr {w : World} {p : Program} {loose : List Str} {mean : ExcName → Option Value} {mg mb : Str → Option Value} : Mine.FoldC 1134 (fun x => x < 256) Mine.xorZ PySem.Challenge.rw_ui0507_14.row.prog w (Mine.hd.heap_39 w.params) p loose mean mg mb := by
  k_fill
  w_top off
  unfold Mine.FoldC
  intro b ks tb news y x t hb hl hy hx
  subst hy
  unfold Mine.Fun
  intro dp un gd cn cs a ccd cl outer A₀ base h₀ L m s Q E B F X N T hk hd hu hret
  refine wpAny_call ?_
  k_dflt (walk_at "mine enter")
  (have mX : Mine.MkX := ⟨trivial⟩)
  k_steps
  all_goals exact hret _ _ _ _ ⟨_, _, rfl, rfl, congrArg Nat.cast (by assumption)⟩ (by assumption) (by assumption)
set_option maxRecDepth 100000 in
set_option maxHeartbeats 8000000 in
theorem Mine.sm_ctr {w : World} {p : Program} {loose : List Str} {mean : ExcName → Option Value} {mg mb : Str → Option Value} : Mine.FoldC 1142 (fun x => x < 256) Mine.sumZ8 PySem.Challenge.rw_ui0507_14.row.prog w (Mine.hd.heap_39 w.params) p loose mean mg mb := by
  k_fill
  w_top off
  unfold Mine.FoldC
  intro b ks tb news y x t hb hl hy hx
  subst hy
  unfold Mine.Fun
  intro dp un gd cn cs a ccd cl outer A₀ base h₀ L m s Q E B F X N T hk hd hu hret
  refine wpAny_call ?_
  k_dflt (walk_at "mine enter")
  (have mX : Mine.MkS := ⟨trivial⟩)
  k_steps
  all_goals exact hret _ _ _ _ ⟨_, _, rfl, rfl, congrArg Nat.cast (by assumption)⟩ (by assumption) (by assumption)
set_option maxRecDepth 100000 in
set_option maxHeartbeats 8000000 in
theorem Mine.fl_ctr {w : World} {p : Program} {loose : List Str} {mean : ExcName → Option Value} {mg mb : Str → Option Value} : Mine.FoldC 1126 (Mine.bdT 255 256) (Mine.twoZ 255 256) PySem.Challenge.rw_ui0507_14.row.prog w (Mine.hd.heap_39 w.params) p loose mean mg mb := by
  k_fill
  w_top off
  unfold Mine.FoldC
  intro b ks tb news y x t hb hl hy hx
  subst hy
  unfold Mine.Fun
  intro dp un gd cn cs a ccd cl outer A₀ base h₀ L m s Q E B F X N T hk hd hu hret
  refine wpAny_call ?_
  k_dflt (walk_at "mine enter")
  (unfold Mine.bdT at hx)
  k_steps
  all_goals exact hret _ _ _ _ ⟨_, _, rfl, rfl, Mine.two_fl (by assumption)⟩ (by assumption) (by assumption)
set_option maxRecDepth 100000 in
set_option maxHeartbeats 8000000 in
theorem Mine.ad_ctr {w : World} {p : Program} {loose : List Str} {mean : ExcName → Option Value} {mg mb : Str → Option Value} : Mine.FoldC 1118 (Mine.bdT 65521 65536) (Mine.twoZ 65521 65536) PySem.Challenge.rw_ui0507_14.row.prog w (Mine.hd.heap_39 w.params) p loose mean mg mb := by
  k_fill
  w_top off
  unfold Mine.FoldC
  intro b ks tb news y x t hb hl hy hx
  subst hy
  unfold Mine.Fun
  intro dp un gd cn cs a ccd cl outer A₀ base h₀ L m s Q E B F X N T hk hd hu hret
  refine wpAny_call ?_
  k_dflt (walk_at "mine enter")
  (unfold Mine.bdT at hx)
  k_steps
  all_goals exact hret _ _ _ _ ⟨_, _, rfl, rfl, Mine.two_ad (by assumption)⟩ (by assumption) (by assumption)
set_option maxRecDepth 100000 in
set_option maxHeartbeats 8000000 in
theorem Mine.cc_ctr {w : World} {p : Program} {loose : List Str} {mean : ExcName → Option Value} {mg mb : Str → Option Value} : Mine.FoldC 1110 (fun x => x < 2 ^ 32) Mine.crcZ PySem.Challenge.rw_ui0507_14.row.prog w (Mine.hd.heap_39 w.params) p loose mean mg mb := by
  k_fill
  w_top off
  unfold Mine.FoldC
  intro b ks tb news y x t hb hl hy hx
  subst hy
  unfold Mine.Fun
  intro dp un gd cn cs a ccd cl outer A₀ base h₀ L m s Q E B F X N T hk hd hu hret
  refine wpAny_call ?_
  k_dflt (walk_at "mine enter")
  k_steps
  all_goals exact hret _ _ _ _ ⟨_, _, rfl, rfl, Mine.cr_val (by assumption)⟩ (by assumption) (by assumption)
end
section
local macro_rules | `(tactic| walk_at "binaryOp RShift int int") => `(tactic| (k_here; (with_reducible refine Mine.rsh_zero (by assumption) ?kn ?kM ?_); (case kn => omega); (case kM => exact Mine.pow_sh _)))
local macro_rules | `(tactic| walk_at "exec For Name Call cons nil") => `(tactic| (k_here; (rename Fr _ _ _ _ => lF'); (with_unfolding_all refine' For_invVF lF' (by exact rfl) (by exact rfl) ?_; k_whole)))
local macro_rules | `(tactic| walk_at "call type:range") => `(tactic| ((with_reducible show wpAny _ _ (call (Value.type "range") [Value.int _ _]) _ _ _); (rename Fr _ _ _ _ => F'); (rename News _ _ _ _ => N'); (with_unfolding_all refine range1_rows F' N' ?_; intros)))
local macro_rules | `(tactic| walk_at "binaryOp LShift int int") => `(tactic| (k_here; (with_reducible refine lshift_int_small ?kb1 ?kb2 ?kb3 ?_); (case kb1 | kb2 | kb3 => omega)))
local macro_rules | `(tactic| walk_at "pyIter ref") => `(tactic| (k_here; (with_reducible show wpAny _ _ (pyIter (Value.ref _)) (fun it s₂ => LoopAtV _ _ _ _ _ _ _ _ _ it s₂) _ _); ((rename Fr _ _ _ _ => lF'); (rename News _ _ _ _ => lN'); (rename IsRange _ _ _ _ _ _ _ _ => rgX); (rename List.drop _ _ = Mine.fixL _ _ => kD9); (with_unfolding_all refine' Mine.fxr_for ?hN ?hh rgX (by exact rfl) (by with_reducible assumption) lF' lN' ?hv ?hx ?tn ?dn); (case hN => with_reducible assumption); (case hh | hv | hx => with_unfolding_all exact rfl)); (all_goals (try clear lF' lN')); (case' tn => (intros; (try k_fold))); (case' dn => (intros; (try k_unfold); (try dsimp only)))))
local macro_rules | `(tactic| walk_at "InvEndG") => `(tactic| (k_here; (rename Fr _ _ _ _ => lF'); (rename News _ _ _ _ => lN'); with_unfolding_all (refine' Mine.fxr_end lF' lN' (by exact rfl) (by with_reducible assumption) (by with_reducible assumption) (by with_reducible assumption) (by first | exact rfl | omega) (by omega) (by with_reducible assumption) (by (intro _ h1 h2; (simp [h1, h2]; done))))))
local macro_rules | `(tactic| walk_at "pyIter ref") => `(tactic| (k_here; (with_reducible show wpAny _ _ (pyIter (Value.ref _)) (fun it s₂ => LoopAtV _ _ _ _ _ _ _ _ _ it s₂) _ _); ((rename Fr _ _ _ _ => lF'); (rename News _ _ _ _ => lN'); (rename IsRange _ _ _ _ _ _ _ _ => rgX); (with_unfolding_all refine' Mine.fxb_for ?hN ?hh rgX (by exact rfl) (by with_reducible assumption) lF' lN' ?tn ?dn); (case hN => with_reducible assumption); (case hh => with_unfolding_all exact rfl); (all_goals (try clear lF' lN')); (case' tn => (intros; (try k_fold))); (case' dn => (intros; (try k_unfold); (try dsimp only))))))
local macro_rules | `(tactic| walk_at "InvEndG") => `(tactic| (k_here; (rename Fr _ _ _ _ => lF'); (rename News _ _ _ _ => lN'); with_unfolding_all (refine' Mine.fxb_end lF' lN' (by assumption) (by assumption) (by assumption) (by exact Mine.fx_item rfl (by omega)) (by (intro _ h1; (simp [h1]; done))))))
local macro_rules | `(tactic| walk_at "call type:bytes") => `(tactic| (k_here; (with_reducible show wpAny _ _ (call (Value.type "bytes") [Value.ref _]) _ _ _); k_dflt (refine' KBa.make_K (by k_asm) (by k_asm) (by rfl) (by exact News.isList (by k_asm) (by k_mem)) (by assumption) (by exact Mine.fixL_in _ _) (by (rw [Mine.fixL_len]; omega)) ?_; k_whole); intros))
set_option maxRecDepth 100000 in
set_option maxHeartbeats 8000000 in
theorem Mine.fb_ctr {w : World} {p : Program} {loose : List Str} {mean : ExcName → Option Value} {mg mb : Str → Option Value} : Mine.FbC 65 PySem.Challenge.rw_ui0507_14.row.prog w (Mine.hd.heap_39 w.params) p loose mean mg mb := by
  k_fill
  w_top off
  unfold Mine.FbC
  intro N size x y t u news hx hy hz hN
  subst hx
  subst hy
  unfold Mine.Fun
  intro dp un gd cn cs a ccd cl outer A₀ base h₀ L m s Q E B F X Nw T hk hd hu hret
  refine wpAny_call ?_
  k_dflt cell_enter
  k_steps
  all_goals exact hret _ _ _ _ ⟨_, _, rfl, rfl, KBa.ints_make (Mine.fixL_in _ _)⟩ (by assumption) (fun q hq => by first | exact (by assumption : News _ _ _ (_ :: _)) q (.tail _ hq))
end
section
local macro_rules | `(tactic| k_mem) => `(tactic| kcf_m)
local macro_rules | `(tactic| walk_at "mine room") => `(tactic| first | ktr_room | ktr_units | ((simp only [units_in1, units_deeper, Around.mark_units, units_caller]); first | decide | omega))
local macro_rules | `(tactic| walk_at "mine use") => `(tactic| ((case k1 | k3 | k5 => k_asm); (case kK => first | exact rfl | assumption); (case kd => first | ktr_room | (simp only [depth_in1, depth_deeper, Around.mark_depth, depth_caller]; omega)); (case ku => walk_at "mine room")))
local macro_rules | `(tactic| walk_at "compareOp NotIn str ref") => `(tactic| (k_here; k_dflt (refine' Mine.topNotIn (by k_asm) (by k_asm) (by k_is) (by k_keys) (by k_is) (by decide) ?_)))
local macro_rules | `(tactic| walk_at "call ref") => `(tactic| (k_here; (with_reducible show wpAny _ _ (call (Value.ref 1150) [Value.str _ _]) _ _ _); k_dflt ((rename Mine.WdC 1150 _ _ _ _ _ _ _ _ => cWD); refine' Mine.Fun.use ?kC ?k1 (by k_asm) ?k3 (by k_asm) ?k5 ?kK ?kd ?ku ?_; (case kC => (first | exact cWD .no _ _ | exact cWD .xor _ _ | exact cWD .sum _ _ | exact cWD .fl _ _ | exact cWD .ad _ _ | exact cWD .crc _ _)); walk_at "mine use"; k_whole); (intro _ _ _ _ kR _ _); (unfold Mine.WdOut at kR); (obtain ⟨_, e1, e2⟩ := kR); (subst e1); (subst e2)))
local macro_rules | `(tactic| walk_at "call ref") => `(tactic| (k_here; (with_reducible show wpAny _ _ (call (Value.ref 1134) [Value.bytes _ _, Value.int _ _]) _ _ _); k_dflt ((rename Mine.FoldC 1134 _ _ _ _ _ _ _ _ _ _ => cXR); refine' Mine.Fun.use ?kC ?k1 ?k2 ?k3 ?k4 ?k5 ?kK ?kd ?ku ?_; (case k2 | k4 => k_asm); (case kC => (refine' cXR _ _ _ _ _ _ _ ?l1 ?l2 ?l3 ?l4; (case l1 | l2 | l3 | l4 => with_reducible assumption))); walk_at "mine use"; k_whole); (intro _ _ _ _ kR _ _); (unfold Mine.CrOut at kR); (obtain ⟨_, _, e1, e2, kX⟩ := kR); (subst kX); (subst e1); (subst e2)))
local macro_rules | `(tactic| walk_at "call ref") => `(tactic| (k_here; (with_reducible show wpAny _ _ (call (Value.ref 1142) [Value.bytes _ _, Value.int _ _]) _ _ _); k_dflt ((rename Mine.FoldC 1142 _ _ _ _ _ _ _ _ _ _ => cSM); refine' Mine.Fun.use ?kC ?k1 ?k2 ?k3 ?k4 ?k5 ?kK ?kd ?ku ?_; (case k2 | k4 => k_asm); (case kC => (refine' cSM _ _ _ _ _ _ _ ?l1 ?l2 ?l3 ?l4; (case l1 | l2 | l3 | l4 => with_reducible assumption))); walk_at "mine use"; k_whole); (intro _ _ _ _ kR _ _); (unfold Mine.CrOut at kR); (obtain ⟨_, _, e1, e2, kX⟩ := kR); (subst kX); (subst e1); (subst e2)))
local macro_rules | `(tactic| walk_at "call ref") => `(tactic| (k_here; (with_reducible show wpAny _ _ (call (Value.ref 1126) [Value.bytes _ _, Value.int _ _]) _ _ _); k_dflt ((rename Mine.FoldC 1126 _ _ _ _ _ _ _ _ _ _ => cFL); refine' Mine.Fun.use ?kC ?k1 ?k2 ?k3 ?k4 ?k5 ?kK ?kd ?ku ?_; (case k2 | k4 => k_asm); (case kC => (refine' cFL _ _ _ _ _ _ _ ?l1 ?l2 ?l3 ?l4; (case l1 | l2 | l3 | l4 => with_reducible assumption))); walk_at "mine use"; k_whole); (intro _ _ _ _ kR _ _); (unfold Mine.CrOut at kR); (obtain ⟨_, _, e1, e2, kX⟩ := kR); (subst kX); (subst e1); (subst e2)))
local macro_rules | `(tactic| walk_at "call ref") => `(tactic| (k_here; (with_reducible show wpAny _ _ (call (Value.ref 1118) [Value.bytes _ _, Value.int _ _]) _ _ _); k_dflt ((rename Mine.FoldC 1118 _ _ _ _ _ _ _ _ _ _ => cAD); refine' Mine.Fun.use ?kC ?k1 ?k2 ?k3 ?k4 ?k5 ?kK ?kd ?ku ?_; (case k2 | k4 => k_asm); (case kC => (refine' cAD _ _ _ _ _ _ _ ?l1 ?l2 ?l3 ?l4; (case l1 | l2 | l3 | l4 => with_reducible assumption))); walk_at "mine use"; k_whole); (intro _ _ _ _ kR _ _); (unfold Mine.CrOut at kR); (obtain ⟨_, _, e1, e2, kX⟩ := kR); (subst kX); (subst e1); (subst e2)))
local macro_rules | `(tactic| walk_at "call ref") => `(tactic| (k_here; (with_reducible show wpAny _ _ (call (Value.ref 1110) [Value.bytes _ _, Value.int _ _]) _ _ _); k_dflt ((rename Mine.FoldC 1110 _ _ _ _ _ _ _ _ _ _ => cCR); refine' Mine.Fun.use ?kC ?k1 ?k2 ?k3 ?k4 ?k5 ?kK ?kd ?ku ?_; (case k2 | k4 => k_asm); (case kC => (refine' cCR _ _ _ _ _ _ _ ?l1 ?l2 ?l3 ?l4; (case l1 | l2 | l3 | l4 => with_reducible assumption))); walk_at "mine use"; k_whole); (intro _ _ _ _ kR _ _); (unfold Mine.CrOut at kR); (obtain ⟨_, _, e1, e2, kX⟩ := kR); (subst kX); (subst e1); (subst e2)))
local macro_rules | `(tactic| walk_at "mine pad") => `(tactic| skip)
set_option maxRecDepth 100000 in
set_option maxHeartbeats 8000000 in
theorem Mine.wd_ctr {w : World} {p : Program} {loose : List Str} {mean : ExcName → Option Value} {mg mb : Str → Option Value}  : Mine.WdC 1150 PySem.Challenge.rw_ui0507_14.row.prog w (Mine.hd.heap_39 w.params) p loose mean mg mb := by
  k_fill
  w_top off
  unfold Mine.WdC
  intro k t news
  unfold Mine.Fun
  intro dp un gd cn cs a ccd cl outer A₀ base h₀ L m s Q E B F X N T hk hd hu hret
  (cases k) <;> (dsimp only [Mine.kdS]; refine wpAny_call ?_; k_dflt (walk_at "mine enter"))
  k_steps
  all_goals exact hret _ _ _ _ ⟨_, rfl, rfl⟩ (by assumption) (by assumption)
set_option maxRecDepth 100000 in
set_option maxHeartbeats 8000000 in
theorem Mine.fi_ctr {w : World} {p : Program} {loose : List Str} {mean : ExcName → Option Value} {mg mb : Str → Option Value} (cW : Mine.WdC 1150 PySem.Challenge.rw_ui0507_14.row.prog w (Mine.hd.heap_39 w.params) p loose mean mg mb) : Mine.FiC 1157 PySem.Challenge.rw_ui0507_14.row.prog w (Mine.hd.heap_39 w.params) p loose mean mg mb := by
  k_fill
  w_top off
  unfold Mine.FiC
  intro k t news
  unfold Mine.Fun
  intro dp un gd cn cs a ccd cl outer A₀ base h₀ L m s Q E B F X N T hk hd hu hret
  (cases k) <;> (dsimp only [Mine.kdS]; refine wpAny_call ?_; k_dflt (walk_at "mine enter"))
  k_steps
  all_goals exact hret _ _ _ _ ⟨_, rfl, rfl⟩ (by assumption) (by assumption)
set_option maxRecDepth 100000 in
set_option maxHeartbeats 8000000 in
theorem Mine.go_ctr {w : World} {p : Program} {loose : List Str} {mean : ExcName → Option Value} {mg mb : Str → Option Value} (cW : Mine.WdC 1150 PySem.Challenge.rw_ui0507_14.row.prog w (Mine.hd.heap_39 w.params) p loose mean mg mb) (cA1 : Mine.FoldC 1134 (fun x => x < 256) Mine.xorZ PySem.Challenge.rw_ui0507_14.row.prog w (Mine.hd.heap_39 w.params) p loose mean mg mb) (cA2 : Mine.FoldC 1142 (fun x => x < 256) Mine.sumZ8 PySem.Challenge.rw_ui0507_14.row.prog w (Mine.hd.heap_39 w.params) p loose mean mg mb) (cA3 : Mine.FoldC 1126 (Mine.bdT 255 256) (Mine.twoZ 255 256) PySem.Challenge.rw_ui0507_14.row.prog w (Mine.hd.heap_39 w.params) p loose mean mg mb) (cA4 : Mine.FoldC 1118 (Mine.bdT 65521 65536) (Mine.twoZ 65521 65536) PySem.Challenge.rw_ui0507_14.row.prog w (Mine.hd.heap_39 w.params) p loose mean mg mb) (cA5 : Mine.FoldC 1110 (fun x => x < 2 ^ 32) Mine.crcZ PySem.Challenge.rw_ui0507_14.row.prog w (Mine.hd.heap_39 w.params) p loose mean mg mb) : Mine.GoC 1164 PySem.Challenge.rw_ui0507_14.row.prog w (Mine.hd.heap_39 w.params) p loose mean mg mb := by
  k_fill
  w_top off
  unfold Mine.GoC
  intro k b ks t ty tb news y v hb hl hy hB
  unfold Mine.Fun
  intro dp un gd cn cs a ccd cl outer A₀ base h₀ L m s Q E B F X N T hk hd hu hret
  (cases k) <;> (dsimp only [Mine.kdS]; (first | (replace hB : v = 0 := hB) | (replace hB : v < 256 := hB) | (replace hB : Mine.bdT 255 256 v := hB) | (replace hB : Mine.bdT 65521 65536 v := hB) | (replace hB : v < 2 ^ 32 := hB)); refine wpAny_call ?_; k_dflt (walk_at "mine enter"))
  k_steps
  all_goals exact hret _ _ _ _ ⟨_, _, rfl, rfl, rfl⟩ (by assumption) (by assumption)
end
local macro_rules | `(tactic| walk_at "call ref") => `(tactic| (k_here; (with_reducible show wpAny _ _ (call (Value.ref _) _) _ _ _); refine wpAny_call ?_; k_dflt (walk_at "mine enter")))
local macro_rules | `(tactic| walk_at "subscriptTail") => `(tactic| (k_here; (with_reducible show wpAny _ _ (subscriptTail _ _ (Value.ref _) (Value.int (Int.fmod _ 6) _)) _ _ _); k_dflt (refine' Mine.kd_disp (by k_asm) (by k_mem) (by l_fact) (by l_fact) ?_; k_whole); intros))
local macro_rules | `(tactic| walk_at "call type:bytes") => `(tactic| (k_here; (with_reducible show wpAny _ _ (call (Value.type "bytes") [Value.ref _]) _ _ _); (try simp only [Mine.flat_one] at *); k_dflt (refine' Mine.mk_data (by k_asm) (by k_asm) (by rfl) (by kba_isList) (by kba_listInts) (by repeat' (first | refine Mine.in_app ?_ ?_ | refine Mine.in_rep (by l_fact) (by l_fact))) (by (simp only [List.length_append, List.length_replicate]; l_fact)) ?_; k_whole); intros))
local macro_rules | `(tactic| walk_at "mine use") => `(tactic| ((case k1 | k3 | k5 => k_asm); (case kK => first | exact rfl | assumption); (case kd => first | ktr_room | decide | ((simp only [depth_in1, depth_deeper, Around.mark_depth, depth_caller, depth_under_make]); first | decide | omega)); (case ku => first | ((simp only [units_in1, units_deeper, Around.mark_units, units_caller, units_under_make]); decide) | ktr_room | decide | ktr_units)))
local macro_rules | `(tactic| walk_at "call ref") => `(tactic| (k_here; (with_reducible show wpAny _ _ (call (Value.ref _) _) _ _ _); refine wpAny_call ?_; k_dflt (walk_at "mine enter")))
local macro_rules | `(tactic| walk_at "call ref") => `(tactic| (k_here; (with_reducible show wpAny _ _ (call (Value.ref 1150) [Value.str _ _]) _ _ _); k_dflt ((rename Mine.WdC 1150 _ _ _ _ _ _ _ _ => cWD); refine' Mine.Fun.use ?kC ?k1 (by k_asm) ?k3 (by k_asm) ?k5 ?kK ?kd ?ku ?_; (case kC => (exact cWD _ _ _)); walk_at "mine use"; k_whole); (intro _ _ _ _ kR _ _); (unfold Mine.WdOut at kR); (obtain ⟨_, e1, e2⟩ := kR); (subst e1); (subst e2)))
local macro_rules | `(tactic| walk_at "call ref") => `(tactic| (k_here; (with_reducible show wpAny _ _ (call (Value.ref 1157) [Value.str _ _]) _ _ _); k_dflt ((rename Mine.FiC 1157 _ _ _ _ _ _ _ _ => cFI); refine' Mine.Fun.use ?kC ?k1 (by k_asm) ?k3 (by k_asm) ?k5 ?kK ?kd ?ku ?_; (case kC => (exact cFI _ _ _)); walk_at "mine use"; k_whole); (intro _ _ _ _ kR _ _); (unfold Mine.WdOut at kR); (obtain ⟨_, e1, e2⟩ := kR); (subst e1); (subst e2)))
local macro_rules | `(tactic| walk_at "call ref") => `(tactic| (k_here; (with_reducible show wpAny _ _ (call (Value.ref 1164) [Value.str _ _, Value.int _ _, Value.bytes _ _]) _ _ _); k_dflt ((rename Mine.GoC 1164 _ _ _ _ _ _ _ _ => cGO); refine' Mine.Fun.use ?kC ?k1 ?k2 ?k3 ?k4 ?k5 ?kK ?kd ?ku ?_; (case k2 | k4 => k_asm); (case kC => (refine' cGO _ _ _ _ _ _ _ _ _ ?l1 ?l2 ?l3 ?l4; (case l1 => with_reducible assumption); (case l2 => walk_at "mine lens"); (case l3 => exact rfl); (case l4 => first | exact Mine.kd_init _ | exact Mine.kd_keep (by with_reducible assumption) (Mine.kd_init _)))); walk_at "mine use"; k_whole); (intro _ _ _ _ kR _ _); (unfold Mine.CrOut at kR); (obtain ⟨_, _, e1, e2, kX⟩ := kR); (try rw [Mine.kd_cut] at kX); (subst kX); (subst e1); (subst e2)))
local macro_rules | `(tactic| walk_at "call ref") => `(tactic| (k_here; (with_reducible show wpAny _ _ (call (Value.ref 65) [Value.int _ _, Value.int _ _]) _ _ _); k_dflt ((rename Mine.FbC 65 _ _ _ _ _ _ _ _ => cFB); refine' Mine.Fun.use ?kC ?k1 ?k2 ?k3 ?k4 ?k5 ?kK ?kd ?ku ?_; (case k2 | k4 => k_asm); (case kC => (refine' cFB _ _ _ _ _ _ _ ?l1 ?l2 ?l3 ?l4; (case l1 | l2 => exact rfl); (case l3 => exact Mine.kdW_le _); (case l4 => exact Mine.kd_lt (Mine.kd_keep (by with_reducible assumption) (Mine.kd_init _))))); walk_at "mine use"; k_whole); (intro _ _ _ _ kR _ _); (unfold Mine.FbOut at kR); (obtain ⟨_, _, e1, e2, kX⟩ := kR); (subst e1); (subst e2); (have kFl9 := Mine.fb_len kX); (have kFl8 := Mine.fb_le kX)))
local macro_rules | `(tactic| walk_at "mine lens") => `(tactic| first | omega | ((simp only [List.length_take, List.length_drop]); omega))
local macro_rules | `(tactic| walk_at "call builtin:len") => `(tactic| (k_here; (with_reducible show wpAny _ _ (call (Value.builtin "len") [Value.bytes _ _]) _ _ _); k_dflt (refine' KBw.len_K (by with_reducible assumption) (by first | omega | (simp only [Mine.fixL_len, List.length_take, List.length_drop]; omega)) ?_; k_whole); (simp only [Mine.fixL_len, List.length_take, List.length_drop])))
local macro_rules | `(tactic| walk_at "subscriptTail") => `(tactic| (k_here; (with_reducible show wpAny _ _ (subscriptTail _ (Expr.Slice none _ none _) (Value.bytes _ _) (Value.ref _)) _ _ _); (rename Fr _ _ _ _ => F'); (rename News _ _ _ _ => N'); (refine KBc.slice_K (s := ⟨_, _, _, _, _⟩) F' N' (by with_reducible assumption) (by constructor) (by constructor) (by omega) ?_); intro _ _ _ _ _ kbcK; (have kbc2 := Mine.cut_take kbcK (by l_fact)); (clear kbcK)))
local macro_rules | `(tactic| walk_at "subscriptTail") => `(tactic| (k_here; (with_reducible show wpAny _ _ (subscriptTail _ (Expr.Slice _ none none _) (Value.bytes _ _) (Value.ref _)) _ _ _); (rename Fr _ _ _ _ => F'); (rename News _ _ _ _ => N'); (refine KBc.slice_K (s := ⟨_, _, _, _, _⟩) F' N' (by with_reducible assumption) (by constructor) (by constructor) (by omega) ?_); intro _ _ _ _ _ kbcK; (have kbc2 := Mine.cut_drop kbcK (by l_fact)); (clear kbcK)))
set_option maxRecDepth 100000 in
set_option maxHeartbeats 8000000 in
theorem PySem.Challenge.cw_ui0507_14_holds : PySem.Challenge.rw_ui0507_14.Holds :=
  Mine.hd (by
  w_strict (k_go0; (all_goals try k_fold); (refine Mine.bring (fun prog w K p loose mean mg mb => Mine.WdC 1150 prog w K p loose mean mg mb ∧ Mine.FiC 1157 prog w K p loose mean mg mb ∧ Mine.GoC 1164 prog w K p loose mean mg mb ∧ Mine.FbC 65 prog w K p loose mean mg mb) (by assumption) (by assumption) ?ctr ?_); (case ctr => exact ⟨Mine.wd_ctr, Mine.fi_ctr Mine.wd_ctr, Mine.go_ctr Mine.wd_ctr Mine.xr_ctr Mine.sm_ctr Mine.fl_ctr Mine.ad_ctr Mine.cc_ctr, Mine.fb_ctr⟩); intro cW0; (obtain ⟨cA1, cA2, cA3, cA4⟩ := cW0); k_steps; (all_goals (try k_data)); all_goals w_report))
