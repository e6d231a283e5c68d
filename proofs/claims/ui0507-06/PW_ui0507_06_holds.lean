import PyProof.Rows.All
import Wide.All
import OpenK.AllK
import Wide.FinOn
import Open.Tops
import PySem.Challenge.RW_ui0507_06
open PySem PySem.W PyProof.Rows PySem.Spec PySem.Calls
set_option Elab.async false
set_option maxRecDepth 100000
namespace Mine
set_option maxHeartbeats 0 in
open_shared Pre for PySem.Challenge.rw_ui0507_06.row.prog leaving 5
def rowL : List Value := [.int 0 265, .int 1996959894 329, .int 3993919788 393, .int 2567524794 459, .int 124634137 522, .int 1886057615 587, .int 3915621685 652, .int 2657392035 719, .int 249268274 782, .int 2044508324 847, .int 3772115230 912, .int 2547177864 979, .int 162941995 1043, .int 2125561021 1109, .int 3887607047 1175, .int 2428444049 1243, .int 498536548 1306, .int 1789927666 1371, .int 4089016648 1436, .int 2227061214 1503, .int 450548861 1567, .int 1843258603 1633, .int 4107580753 1699, .int 2211677639 1767, .int 325883990 1831, .int 1684777152 1897, .int 4251122042 1963, .int 2321926636 2031, .int 335633487 2096, .int 1661365465 2163, .int 4195302755 2230, .int 2366115317 2299, .int 997073096 2362, .int 1281953886 2427, .int 3579855332 2492, .int 2724688242 2559, .int 1006888145 2623, .int 1258607687 2689, .int 3524101629 2755, .int 2768942443 2823, .int 901097722 2887, .int 1119000684 2953, .int 3686517206 3019, .int 2898065728 3087, .int 853044451 3152, .int 1172266101 3219, .int 3705015759 3286, .int 2882616665 3355, .int 651767980 3419, .int 1373503546 3485, .int 3369554304 3551, .int 3218104598 3619, .int 565507253 3684, .int 1454621731 3751, .int 3485111705 3818, .int 3099436303 3887, .int 671266974 3952, .int 1594198024 4019, .int 3322730930 4086, .int 2970347812 4155, .int 795835527 4221, .int 1483230225 4289, .int 3244367275 4357, .int 3060149565 4427, .int 1994146192 4490, .int 31158534 4553, .int 2563907772 4618, .int 4023717930 4683, .int 1907459465 4747, .int 112637215 4811, .int 2680153253 4877, .int 3904427059 4943, .int 2013776290 5007, .int 251722036 5071, .int 2517215374 5137, .int 3775830040 5203, .int 2137656763 5268, .int 141376813 5333, .int 2439277719 5400, .int 3865271297 5467, .int 1802195444 5531, .int 476864866 5595, .int 2238001368 5661, .int 4066508878 5727, .int 1812370925 5792, .int 453092731 5857, .int 2181625025 5924, .int 4111451223 5991, .int 1706088902 6056, .int 314042704 6121, .int 2344532202 6188, .int 4240017532 6255, .int 1658658271 6321, .int 366619977 6387, .int 2362670323 6455, .int 4224994405 6523, .int 1303535960 6587, .int 984961486 6651, .int 2747007092 6717, .int 3569037538 6783, .int 1256170817 6848, .int 1037604311 6913, .int 2765210733 6980, .int 3554079995 7047, .int 1131014506 7112, .int 879679996 7177, .int 2909243462 7244, .int 3663771856 7311, .int 1141124467 7377, .int 855842277 7443, .int 2852801631 7511, .int 3708648649 7579, .int 1342533948 7644, .int 654459306 7709, .int 3188396048 7776, .int 3373015174 7843, .int 1466479909 7909, .int 544179635 7975, .int 3110523913 8043, .int 3462522015 8111, .int 1591671054 8177, .int 702138776 8243, .int 2966460450 8311, .int 3352799412 8379, .int 1504918807 8446, .int 783551873 8513, .int 3082640443 8582, .int 3233442989 8651, .int 3988292384 8714, .int 2596254646 8779, .int 62317068 8842, .int 1957810842 8907, .int 3939845945 8971, .int 2647816111 9037, .int 81470997 9101, .int 1943803523 9167, .int 3814918930 9231, .int 2489596804 9297, .int 225274430 9361, .int 2053790376 9427, .int 3826175755 9492, .int 2466906013 9559, .int 167816743 9624, .int 2097651377 9691, .int 4027552580 9755, .int 2265490386 9821, .int 503444072 9885, .int 1762050814 9951, .int 4150417245 10016, .int 2154129355 10083, .int 426522225 10148, .int 1852507879 10215, .int 4275313526 10280, .int 2312317920 10347, .int 282753626 10412, .int 1742555852 10479, .int 4189708143 10545, .int 2394877945 10613, .int 397917763 10679, .int 1622183637 10747, .int 3604390888 10811, .int 2714866558 10877, .int 953729732 10941, .int 1340076626 11007, .int 3518719985 11072, .int 2797360999 11139, .int 1068828381 11204, .int 1219638859 11271, .int 3624741850 11336, .int 2936675148 11403, .int 906185462 11468, .int 1090812512 11535, .int 3747672003 11601, .int 2825379669 11669, .int 829329135 11735, .int 1181335161 11803, .int 3412177804 11868, .int 3160834842 11935, .int 628085408 12000, .int 1382605366 12067, .int 3423369109 12133, .int 3138078467 12201, .int 570562233 12267, .int 1426400815 12335, .int 3317316542 12401, .int 2998733608 12469, .int 733239954 12535, .int 1555261956 12603, .int 3268935591 12670, .int 3050360625 12739, .int 752459403 12806, .int 1541320221 12875, .int 2607071920 12939, .int 3965973030 13003, .int 1969922972 13067, .int 40735498 13131, .int 2617837225 13196, .int 3943577151 13261, .int 1913087877 13326, .int 83908371 13391, .int 2512341634 13456, .int 3803740692 13521, .int 2075208622 13586, .int 213261112 13651, .int 2463272603 13717, .int 3855990285 13783, .int 2094854071 13849, .int 198958881 13915, .int 2262029012 13980, .int 4057260610 14045, .int 1759359992 14110, .int 534414190 14175, .int 2176718541 14241, .int 4139329115 14307, .int 1873836001 14373, .int 414664567 14439, .int 2282248934 14505, .int 4279200368 14571, .int 1711684554 14637, .int 285281116 14703, .int 2405801727 14770, .int 4167216745 14837, .int 1634467795 14904, .int 376229701 14971, .int 2685067896 15036, .int 3608007406 15101, .int 1308918612 15166, .int 956543938 15231, .int 2808555105 15297, .int 3495958263 15363, .int 1231636301 15429, .int 1047427035 15495, .int 2932959818 15561, .int 3654703836 15627, .int 1088359270 15693, .int 936918000 15759, .int 2847714899 15826, .int 3736837829 15893, .int 1202900863 15960, .int 817233897 16027, .int 3183342108 16093, .int 3401237130 16159, .int 1404277552 16225, .int 615818150 16291, .int 3134207493 16358, .int 3453421203 16425, .int 1423857449 16492, .int 601450431 16559, .int 3009837614 16626, .int 3294710456 16693, .int 1567103746 16760, .int 711928724 16827, .int 3020668471 16895, .int 3272380065 16963, .int 1510334235 17031, .int 755167117 17099]
def tkL : List (Nat × Nat) := [(208, 0), (270, 260), (334, 324), (398, 387), (464, 453), (527, 517), (592, 582), (657, 646), (724, 713), (787, 777), (852, 842), (917, 906), (984, 973), (1048, 1038), (1114, 1104), (1180, 1169), (1248, 1237), (1311, 1301), (1376, 1366), (1441, 1430), (1508, 1497), (1572, 1562), (1638, 1628), (1704, 1693), (1772, 1761), (1836, 1826), (1902, 1892), (1968, 1957), (2036, 2025), (2101, 2091), (2168, 2158), (2235, 2224), (2304, 2293), (2367, 2357), (2432, 2422), (2497, 2486), (2564, 2553), (2628, 2618), (2694, 2684), (2760, 2749), (2828, 2817), (2892, 2882), (2958, 2948), (3024, 3013), (3092, 3081), (3157, 3147), (3224, 3214), (3291, 3280), (3360, 3349), (3424, 3414), (3490, 3480), (3556, 3545), (3624, 3613), (3689, 3679), (3756, 3746), (3823, 3812), (3892, 3881), (3957, 3947), (4024, 4014), (4091, 4080), (4160, 4149), (4226, 4216), (4294, 4284), (4362, 4351), (4432, 4421), (4495, 4485), (4558, 4548), (4623, 4612), (4688, 4677), (4752, 4742), (4816, 4806), (4882, 4871), (4948, 4937), (5012, 5002), (5076, 5066), (5142, 5131), (5208, 5197), (5273, 5263), (5338, 5328), (5405, 5394), (5472, 5461), (5536, 5526), (5600, 5590), (5666, 5655), (5732, 5721), (5797, 5787), (5862, 5852), (5929, 5918), (5996, 5985), (6061, 6051), (6126, 6116), (6193, 6182), (6260, 6249), (6326, 6316), (6392, 6382), (6460, 6449), (6528, 6517), (6592, 6582), (6656, 6646), (6722, 6711), (6788, 6777), (6853, 6843), (6918, 6908), (6985, 6974), (7052, 7041), (7117, 7107), (7182, 7172), (7249, 7238), (7316, 7305), (7382, 7372), (7448, 7438), (7516, 7505), (7584, 7573), (7649, 7639), (7714, 7704), (7781, 7770), (7848, 7837), (7914, 7904), (7980, 7970), (8048, 8037), (8116, 8105), (8182, 8172), (8248, 8238), (8316, 8305), (8384, 8373), (8451, 8441), (8518, 8508), (8587, 8576), (8656, 8645), (8719, 8708), (8784, 8773), (8847, 8837), (8912, 8902), (8976, 8965), (9042, 9031), (9106, 9096), (9172, 9162), (9236, 9225), (9302, 9291), (9366, 9356), (9432, 9422), (9497, 9486), (9564, 9553), (9629, 9619), (9696, 9686), (9760, 9749), (9826, 9815), (9890, 9880), (9956, 9946), (10021, 10010), (10088, 10077), (10153, 10143), (10220, 10210), (10285, 10274), (10352, 10341), (10417, 10407), (10484, 10474), (10550, 10539), (10618, 10607), (10684, 10674), (10752, 10742), (10816, 10805), (10882, 10871), (10946, 10936), (11012, 11002), (11077, 11066), (11144, 11133), (11209, 11199), (11276, 11266), (11341, 11330), (11408, 11397), (11473, 11463), (11540, 11530), (11606, 11595), (11674, 11663), (11740, 11730), (11808, 11798), (11873, 11862), (11940, 11929), (12005, 11995), (12072, 12062), (12138, 12127), (12206, 12195), (12272, 12262), (12340, 12330), (12406, 12395), (12474, 12463), (12540, 12530), (12608, 12598), (12675, 12664), (12744, 12733), (12811, 12801), (12880, 12870), (12944, 12933), (13008, 12997), (13072, 13062), (13136, 13126), (13201, 13190), (13266, 13255), (13331, 13321), (13396, 13386), (13461, 13450), (13526, 13515), (13591, 13581), (13656, 13646), (13722, 13711), (13788, 13777), (13854, 13844), (13920, 13910), (13985, 13974), (14050, 14039), (14115, 14105), (14180, 14170), (14246, 14235), (14312, 14301), (14378, 14368), (14444, 14434), (14510, 14499), (14576, 14565), (14642, 14632), (14708, 14698), (14775, 14764), (14842, 14831), (14909, 14899), (14976, 14966), (15041, 15030), (15106, 15095), (15171, 15161), (15236, 15226), (15302, 15291), (15368, 15357), (15434, 15424), (15500, 15490), (15566, 15555), (15632, 15621), (15698, 15688), (15764, 15754), (15831, 15820), (15898, 15887), (15965, 15955), (16032, 16022), (16098, 16087), (16164, 16153), (16230, 16220), (16296, 16286), (16363, 16352), (16430, 16419), (16497, 16487), (16564, 16554), (16631, 16620), (16698, 16687), (16765, 16755), (16832, 16822), (16900, 16889), (16968, 16957), (17036, 17026)]
def entS (P : Params) (x : String) (t : Nat) (v : Value) : DictEntry := ⟨PyData.keyHash P (Str.ofString x), .str (Str.ofString x) t, v⟩
def lc0 (P : Params) : Obj := ⟨.type "frame", none, .dict #[entS P "table" 201 (.ref 23), entS P "byte" 206 (.int 0 205), entS P "value" 207 (.int 0 205)] 3, #[]⟩
def lcN (P : Params) (b t k : Nat) : Obj := ⟨.type "frame", none, .dict #[entS P "table" 201 (.ref 23), entS P "byte" 206 (.int (b : Int) (t - 3)), entS P "value" 207 (.int (b : Int) (t - 3)), entS P "k" 212 (.int 7 k)] 4, #[]⟩
def lc (P : Params) (b : Nat) : Obj := match b with
  | 0 => lc0 P
  | b + 1 => lcN P (b + 1) (tkL.getD (b + 1) (0, 0)).1 (tkL.getD (b + 1) (0, 0)).2
def ls (b : Nat) : Obj := ⟨.type "list", none, .seq (rowL.take b).toArray b, #[]⟩
def rng (a e s : Nat) (x : Int) : Obj := ⟨.type "range", none, .fields #[.int 0 a, .int x e, .int 1 s], #[]⟩
def rg (r : Nat) : Obj := rng r (r - 1) (r + 1) 8
def r256 : Obj := rng 203 202 204 256
def rit (x y : Int) : Obj := ⟨.type "range_iterator", none, .fields #[.int x 0, .int y 0, .int 1 0], #[]⟩
def oi (b : Nat) : Obj := rit ((b : Int) + 1) (255 - (b : Int))
def ri : Obj := rit 8 0
def tup0 : Obj := ⟨.type "tuple", none, .seq #[] 0, #[]⟩
def se (a : Nat) : Obj := ⟨.type "StopIteration", none, .fields #[.ref a, .none, .none, .none, .bool false, .none], #[]⟩
def insL : BT → Nat → List Obj → BT
  | T, _, [] => T
  | T, n, o :: r => insL (T.ins n o) (n + 1) r
def shr (T : BT) (n tok : Nat) (os : OsState) : SharedT := { tree := T, n := n, life := { }, gens := { toList := [] }, drawn := { }, toks := tok, os := os }
def top3 (T : BT) (P : Params) (b : Nat) : BT := ((T.set 22 fun _ => lc P b).set 23 fun _ => ls b).set 25 fun _ => oi b
noncomputable def B0 (P : Params) : BT := (.node (PySem.W.boot_o_0 P) (.node (PySem.W.boot_o_1 P) (.node (Pre.o_5 P) (.node (PySem.W.boot_o_7 P) (.node (Pre.o_7 P) .nil .nil) (.node (ls 0) .nil .nil)) (.node (Pre.o_1 P) (.node (Pre.o_11 P) .nil .nil) .nil)) (.node (PySem.W.boot_o_5 P) (.node (PySem.W.boot_o_9 P) (.node (Pre.o_9 P) .nil .nil) (.node (oi 0) .nil .nil)) (.node (Pre.o_3 P) (.node (Pre.o_13 P) .nil .nil) .nil))) (.node (PySem.W.boot_o_2 P) (.node (PySem.W.boot_o_4 P) (.node (PySem.W.boot_o_8 P) (.node (Pre.o_8 P) .nil .nil) (.node r256 .nil .nil)) (.node (Pre.o_6 P) (.node (Pre.o_12 P) .nil .nil) .nil)) (.node (PySem.W.boot_o_6 P) (.node (PySem.W.boot_o_10 P) (.node (Pre.o_10 P) .nil .nil) .nil) (.node (Pre.o_4 P) (.node (lc P 0) .nil .nil) .nil))))
noncomputable def B1 (P : Params) : BT := (.node (PySem.W.boot_o_0 P) (.node (PySem.W.boot_o_1 P) (.node (Pre.o_5 P) (.node (PySem.W.boot_o_7 P) (.node (Pre.o_7 P) (.node ri (.node ri .nil .nil) .nil) (.node ri (.node ri .nil .nil) .nil)) (.node (ls 16) (.node ri (.node ri .nil .nil) .nil) (.node ri (.node ri .nil .nil) .nil))) (.node (Pre.o_1 P) (.node (Pre.o_11 P) (.node ri (.node ri .nil .nil) .nil) (.node ri (.node ri .nil .nil) .nil)) (.node ri (.node ri (.node ri .nil .nil) .nil) (.node ri .nil .nil)))) (.node (PySem.W.boot_o_5 P) (.node (PySem.W.boot_o_9 P) (.node (Pre.o_9 P) (.node (se 32) (.node (se 64) .nil .nil) .nil) (.node (se 48) (.node (se 80) .nil .nil) .nil)) (.node (oi 16) (.node (se 40) (.node (se 72) .nil .nil) .nil) (.node (se 56) (.node (se 88) .nil .nil) .nil))) (.node (Pre.o_3 P) (.node (Pre.o_13 P) (.node (se 36) (.node (se 68) .nil .nil) .nil) (.node (se 52) (.node (se 84) .nil .nil) .nil)) (.node (se 28) (.node (se 44) (.node (se 76) .nil .nil) .nil) (.node (se 60) .nil .nil))))) (.node (PySem.W.boot_o_2 P) (.node (PySem.W.boot_o_4 P) (.node (PySem.W.boot_o_8 P) (.node (Pre.o_8 P) (.node tup0 (.node tup0 .nil .nil) .nil) (.node tup0 (.node tup0 .nil .nil) .nil)) (.node r256 (.node tup0 (.node tup0 .nil .nil) .nil) (.node tup0 (.node tup0 .nil .nil) .nil))) (.node (Pre.o_6 P) (.node (Pre.o_12 P) (.node tup0 (.node tup0 .nil .nil) .nil) (.node tup0 (.node tup0 .nil .nil) .nil)) (.node tup0 (.node tup0 (.node tup0 .nil .nil) .nil) (.node tup0 .nil .nil)))) (.node (PySem.W.boot_o_6 P) (.node (PySem.W.boot_o_10 P) (.node (Pre.o_10 P) (.node (rg 335) (.node (rg 853) .nil .nil) .nil) (.node (rg 593) (.node (rg 1115) .nil .nil) .nil)) (.node (rg 209) (.node (rg 465) (.node (rg 985) .nil .nil) .nil) (.node (rg 725) .nil .nil))) (.node (Pre.o_4 P) (.node (lc P 16) (.node (rg 399) (.node (rg 918) .nil .nil) .nil) (.node (rg 658) (.node (rg 1181) .nil .nil) .nil)) (.node (rg 271) (.node (rg 528) (.node (rg 1049) .nil .nil) .nil) (.node (rg 788) .nil .nil))))))
noncomputable def B2 (P : Params) : BT := (.node (PySem.W.boot_o_0 P) (.node (PySem.W.boot_o_1 P) (.node (Pre.o_5 P) (.node (PySem.W.boot_o_7 P) (.node (Pre.o_7 P) (.node ri (.node ri (.node ri .nil .nil) .nil) (.node ri .nil .nil)) (.node ri (.node ri (.node ri .nil .nil) .nil) (.node ri .nil .nil))) (.node (ls 32) (.node ri (.node ri (.node ri .nil .nil) .nil) (.node ri .nil .nil)) (.node ri (.node ri (.node ri .nil .nil) .nil) (.node ri .nil .nil)))) (.node (Pre.o_1 P) (.node (Pre.o_11 P) (.node ri (.node ri (.node ri .nil .nil) .nil) (.node ri .nil .nil)) (.node ri (.node ri (.node ri .nil .nil) .nil) (.node ri .nil .nil))) (.node ri (.node ri (.node ri (.node ri .nil .nil) .nil) (.node ri .nil .nil)) (.node ri (.node ri .nil .nil) (.node ri .nil .nil))))) (.node (PySem.W.boot_o_5 P) (.node (PySem.W.boot_o_9 P) (.node (Pre.o_9 P) (.node (se 32) (.node (se 64) (.node (se 128) .nil .nil) .nil) (.node (se 96) .nil .nil)) (.node (se 48) (.node (se 80) (.node (se 144) .nil .nil) .nil) (.node (se 112) .nil .nil))) (.node (oi 32) (.node (se 40) (.node (se 72) (.node (se 136) .nil .nil) .nil) (.node (se 104) .nil .nil)) (.node (se 56) (.node (se 88) (.node (se 152) .nil .nil) .nil) (.node (se 120) .nil .nil)))) (.node (Pre.o_3 P) (.node (Pre.o_13 P) (.node (se 36) (.node (se 68) (.node (se 132) .nil .nil) .nil) (.node (se 100) .nil .nil)) (.node (se 52) (.node (se 84) (.node (se 148) .nil .nil) .nil) (.node (se 116) .nil .nil))) (.node (se 28) (.node (se 44) (.node (se 76) (.node (se 140) .nil .nil) .nil) (.node (se 108) .nil .nil)) (.node (se 60) (.node (se 92) .nil .nil) (.node (se 124) .nil .nil)))))) (.node (PySem.W.boot_o_2 P) (.node (PySem.W.boot_o_4 P) (.node (PySem.W.boot_o_8 P) (.node (Pre.o_8 P) (.node tup0 (.node tup0 (.node tup0 .nil .nil) .nil) (.node tup0 .nil .nil)) (.node tup0 (.node tup0 (.node tup0 .nil .nil) .nil) (.node tup0 .nil .nil))) (.node r256 (.node tup0 (.node tup0 (.node tup0 .nil .nil) .nil) (.node tup0 .nil .nil)) (.node tup0 (.node tup0 (.node tup0 .nil .nil) .nil) (.node tup0 .nil .nil)))) (.node (Pre.o_6 P) (.node (Pre.o_12 P) (.node tup0 (.node tup0 (.node tup0 .nil .nil) .nil) (.node tup0 .nil .nil)) (.node tup0 (.node tup0 (.node tup0 .nil .nil) .nil) (.node tup0 .nil .nil))) (.node tup0 (.node tup0 (.node tup0 (.node tup0 .nil .nil) .nil) (.node tup0 .nil .nil)) (.node tup0 (.node tup0 .nil .nil) (.node tup0 .nil .nil))))) (.node (PySem.W.boot_o_6 P) (.node (PySem.W.boot_o_10 P) (.node (Pre.o_10 P) (.node (rg 335) (.node (rg 853) (.node (rg 1903) .nil .nil) .nil) (.node (rg 1377) .nil .nil)) (.node (rg 593) (.node (rg 1115) (.node (rg 2169) .nil .nil) .nil) (.node (rg 1639) .nil .nil))) (.node (rg 209) (.node (rg 465) (.node (rg 985) (.node (rg 2037) .nil .nil) .nil) (.node (rg 1509) .nil .nil)) (.node (rg 725) (.node (rg 1249) .nil .nil) (.node (rg 1773) .nil .nil)))) (.node (Pre.o_4 P) (.node (lc P 32) (.node (rg 399) (.node (rg 918) (.node (rg 1969) .nil .nil) .nil) (.node (rg 1442) .nil .nil)) (.node (rg 658) (.node (rg 1181) (.node (rg 2236) .nil .nil) .nil) (.node (rg 1705) .nil .nil))) (.node (rg 271) (.node (rg 528) (.node (rg 1049) (.node (rg 2102) .nil .nil) .nil) (.node (rg 1573) .nil .nil)) (.node (rg 788) (.node (rg 1312) .nil .nil) (.node (rg 1837) .nil .nil)))))))
noncomputable def B3 (P : Params) : BT := (.node (PySem.W.boot_o_0 P) (.node (PySem.W.boot_o_1 P) (.node (Pre.o_5 P) (.node (PySem.W.boot_o_7 P) (.node (Pre.o_7 P) (.node ri (.node ri (.node ri .nil .nil) (.node ri .nil .nil)) (.node ri (.node ri .nil .nil) .nil)) (.node ri (.node ri (.node ri .nil .nil) (.node ri .nil .nil)) (.node ri (.node ri .nil .nil) .nil))) (.node (ls 48) (.node ri (.node ri (.node ri .nil .nil) (.node ri .nil .nil)) (.node ri (.node ri .nil .nil) .nil)) (.node ri (.node ri (.node ri .nil .nil) (.node ri .nil .nil)) (.node ri (.node ri .nil .nil) .nil)))) (.node (Pre.o_1 P) (.node (Pre.o_11 P) (.node ri (.node ri (.node ri .nil .nil) (.node ri .nil .nil)) (.node ri (.node ri .nil .nil) .nil)) (.node ri (.node ri (.node ri .nil .nil) (.node ri .nil .nil)) (.node ri (.node ri .nil .nil) .nil))) (.node ri (.node ri (.node ri (.node ri .nil .nil) (.node ri .nil .nil)) (.node ri (.node ri .nil .nil) .nil)) (.node ri (.node ri (.node ri .nil .nil) .nil) (.node ri (.node ri .nil .nil) .nil))))) (.node (PySem.W.boot_o_5 P) (.node (PySem.W.boot_o_9 P) (.node (Pre.o_9 P) (.node (se 32) (.node (se 64) (.node (se 128) .nil .nil) (.node (se 192) .nil .nil)) (.node (se 96) (.node (se 160) .nil .nil) .nil)) (.node (se 48) (.node (se 80) (.node (se 144) .nil .nil) (.node (se 208) .nil .nil)) (.node (se 112) (.node (se 176) .nil .nil) .nil))) (.node (oi 48) (.node (se 40) (.node (se 72) (.node (se 136) .nil .nil) (.node (se 200) .nil .nil)) (.node (se 104) (.node (se 168) .nil .nil) .nil)) (.node (se 56) (.node (se 88) (.node (se 152) .nil .nil) (.node (se 216) .nil .nil)) (.node (se 120) (.node (se 184) .nil .nil) .nil)))) (.node (Pre.o_3 P) (.node (Pre.o_13 P) (.node (se 36) (.node (se 68) (.node (se 132) .nil .nil) (.node (se 196) .nil .nil)) (.node (se 100) (.node (se 164) .nil .nil) .nil)) (.node (se 52) (.node (se 84) (.node (se 148) .nil .nil) (.node (se 212) .nil .nil)) (.node (se 116) (.node (se 180) .nil .nil) .nil))) (.node (se 28) (.node (se 44) (.node (se 76) (.node (se 140) .nil .nil) (.node (se 204) .nil .nil)) (.node (se 108) (.node (se 172) .nil .nil) .nil)) (.node (se 60) (.node (se 92) (.node (se 156) .nil .nil) .nil) (.node (se 124) (.node (se 188) .nil .nil) .nil)))))) (.node (PySem.W.boot_o_2 P) (.node (PySem.W.boot_o_4 P) (.node (PySem.W.boot_o_8 P) (.node (Pre.o_8 P) (.node tup0 (.node tup0 (.node tup0 .nil .nil) (.node tup0 .nil .nil)) (.node tup0 (.node tup0 .nil .nil) .nil)) (.node tup0 (.node tup0 (.node tup0 .nil .nil) (.node tup0 .nil .nil)) (.node tup0 (.node tup0 .nil .nil) .nil))) (.node r256 (.node tup0 (.node tup0 (.node tup0 .nil .nil) (.node tup0 .nil .nil)) (.node tup0 (.node tup0 .nil .nil) .nil)) (.node tup0 (.node tup0 (.node tup0 .nil .nil) (.node tup0 .nil .nil)) (.node tup0 (.node tup0 .nil .nil) .nil)))) (.node (Pre.o_6 P) (.node (Pre.o_12 P) (.node tup0 (.node tup0 (.node tup0 .nil .nil) (.node tup0 .nil .nil)) (.node tup0 (.node tup0 .nil .nil) .nil)) (.node tup0 (.node tup0 (.node tup0 .nil .nil) (.node tup0 .nil .nil)) (.node tup0 (.node tup0 .nil .nil) .nil))) (.node tup0 (.node tup0 (.node tup0 (.node tup0 .nil .nil) (.node tup0 .nil .nil)) (.node tup0 (.node tup0 .nil .nil) .nil)) (.node tup0 (.node tup0 (.node tup0 .nil .nil) .nil) (.node tup0 (.node tup0 .nil .nil) .nil))))) (.node (PySem.W.boot_o_6 P) (.node (PySem.W.boot_o_10 P) (.node (Pre.o_10 P) (.node (rg 335) (.node (rg 853) (.node (rg 1903) .nil .nil) (.node (rg 2959) .nil .nil)) (.node (rg 1377) (.node (rg 2433) .nil .nil) .nil)) (.node (rg 593) (.node (rg 1115) (.node (rg 2169) .nil .nil) (.node (rg 3225) .nil .nil)) (.node (rg 1639) (.node (rg 2695) .nil .nil) .nil))) (.node (rg 209) (.node (rg 465) (.node (rg 985) (.node (rg 2037) .nil .nil) (.node (rg 3093) .nil .nil)) (.node (rg 1509) (.node (rg 2565) .nil .nil) .nil)) (.node (rg 725) (.node (rg 1249) (.node (rg 2305) .nil .nil) .nil) (.node (rg 1773) (.node (rg 2829) .nil .nil) .nil)))) (.node (Pre.o_4 P) (.node (lc P 48) (.node (rg 399) (.node (rg 918) (.node (rg 1969) .nil .nil) (.node (rg 3025) .nil .nil)) (.node (rg 1442) (.node (rg 2498) .nil .nil) .nil)) (.node (rg 658) (.node (rg 1181) (.node (rg 2236) .nil .nil) (.node (rg 3292) .nil .nil)) (.node (rg 1705) (.node (rg 2761) .nil .nil) .nil))) (.node (rg 271) (.node (rg 528) (.node (rg 1049) (.node (rg 2102) .nil .nil) (.node (rg 3158) .nil .nil)) (.node (rg 1573) (.node (rg 2629) .nil .nil) .nil)) (.node (rg 788) (.node (rg 1312) (.node (rg 2368) .nil .nil) .nil) (.node (rg 1837) (.node (rg 2893) .nil .nil) .nil)))))))
noncomputable def B4 (P : Params) : BT := (.node (PySem.W.boot_o_0 P) (.node (PySem.W.boot_o_1 P) (.node (Pre.o_5 P) (.node (PySem.W.boot_o_7 P) (.node (Pre.o_7 P) (.node ri (.node ri (.node ri (.node ri .nil .nil) .nil) (.node ri .nil .nil)) (.node ri (.node ri .nil .nil) (.node ri .nil .nil))) (.node ri (.node ri (.node ri (.node ri .nil .nil) .nil) (.node ri .nil .nil)) (.node ri (.node ri .nil .nil) (.node ri .nil .nil)))) (.node (ls 64) (.node ri (.node ri (.node ri (.node ri .nil .nil) .nil) (.node ri .nil .nil)) (.node ri (.node ri .nil .nil) (.node ri .nil .nil))) (.node ri (.node ri (.node ri (.node ri .nil .nil) .nil) (.node ri .nil .nil)) (.node ri (.node ri .nil .nil) (.node ri .nil .nil))))) (.node (Pre.o_1 P) (.node (Pre.o_11 P) (.node ri (.node ri (.node ri (.node ri .nil .nil) .nil) (.node ri .nil .nil)) (.node ri (.node ri .nil .nil) (.node ri .nil .nil))) (.node ri (.node ri (.node ri (.node ri .nil .nil) .nil) (.node ri .nil .nil)) (.node ri (.node ri .nil .nil) (.node ri .nil .nil)))) (.node ri (.node ri (.node ri (.node ri (.node ri .nil .nil) .nil) (.node ri .nil .nil)) (.node ri (.node ri .nil .nil) (.node ri .nil .nil))) (.node ri (.node ri (.node ri .nil .nil) (.node ri .nil .nil)) (.node ri (.node ri .nil .nil) (.node ri .nil .nil)))))) (.node (PySem.W.boot_o_5 P) (.node (PySem.W.boot_o_9 P) (.node (Pre.o_9 P) (.node (se 32) (.node (se 64) (.node (se 128) (.node (se 256) .nil .nil) .nil) (.node (se 192) .nil .nil)) (.node (se 96) (.node (se 160) .nil .nil) (.node (se 224) .nil .nil))) (.node (se 48) (.node (se 80) (.node (se 144) (.node (se 272) .nil .nil) .nil) (.node (se 208) .nil .nil)) (.node (se 112) (.node (se 176) .nil .nil) (.node (se 240) .nil .nil)))) (.node (oi 64) (.node (se 40) (.node (se 72) (.node (se 136) (.node (se 264) .nil .nil) .nil) (.node (se 200) .nil .nil)) (.node (se 104) (.node (se 168) .nil .nil) (.node (se 232) .nil .nil))) (.node (se 56) (.node (se 88) (.node (se 152) (.node (se 280) .nil .nil) .nil) (.node (se 216) .nil .nil)) (.node (se 120) (.node (se 184) .nil .nil) (.node (se 248) .nil .nil))))) (.node (Pre.o_3 P) (.node (Pre.o_13 P) (.node (se 36) (.node (se 68) (.node (se 132) (.node (se 260) .nil .nil) .nil) (.node (se 196) .nil .nil)) (.node (se 100) (.node (se 164) .nil .nil) (.node (se 228) .nil .nil))) (.node (se 52) (.node (se 84) (.node (se 148) (.node (se 276) .nil .nil) .nil) (.node (se 212) .nil .nil)) (.node (se 116) (.node (se 180) .nil .nil) (.node (se 244) .nil .nil)))) (.node (se 28) (.node (se 44) (.node (se 76) (.node (se 140) (.node (se 268) .nil .nil) .nil) (.node (se 204) .nil .nil)) (.node (se 108) (.node (se 172) .nil .nil) (.node (se 236) .nil .nil))) (.node (se 60) (.node (se 92) (.node (se 156) .nil .nil) (.node (se 220) .nil .nil)) (.node (se 124) (.node (se 188) .nil .nil) (.node (se 252) .nil .nil))))))) (.node (PySem.W.boot_o_2 P) (.node (PySem.W.boot_o_4 P) (.node (PySem.W.boot_o_8 P) (.node (Pre.o_8 P) (.node tup0 (.node tup0 (.node tup0 (.node tup0 .nil .nil) .nil) (.node tup0 .nil .nil)) (.node tup0 (.node tup0 .nil .nil) (.node tup0 .nil .nil))) (.node tup0 (.node tup0 (.node tup0 (.node tup0 .nil .nil) .nil) (.node tup0 .nil .nil)) (.node tup0 (.node tup0 .nil .nil) (.node tup0 .nil .nil)))) (.node r256 (.node tup0 (.node tup0 (.node tup0 (.node tup0 .nil .nil) .nil) (.node tup0 .nil .nil)) (.node tup0 (.node tup0 .nil .nil) (.node tup0 .nil .nil))) (.node tup0 (.node tup0 (.node tup0 (.node tup0 .nil .nil) .nil) (.node tup0 .nil .nil)) (.node tup0 (.node tup0 .nil .nil) (.node tup0 .nil .nil))))) (.node (Pre.o_6 P) (.node (Pre.o_12 P) (.node tup0 (.node tup0 (.node tup0 (.node tup0 .nil .nil) .nil) (.node tup0 .nil .nil)) (.node tup0 (.node tup0 .nil .nil) (.node tup0 .nil .nil))) (.node tup0 (.node tup0 (.node tup0 (.node tup0 .nil .nil) .nil) (.node tup0 .nil .nil)) (.node tup0 (.node tup0 .nil .nil) (.node tup0 .nil .nil)))) (.node tup0 (.node tup0 (.node tup0 (.node tup0 (.node tup0 .nil .nil) .nil) (.node tup0 .nil .nil)) (.node tup0 (.node tup0 .nil .nil) (.node tup0 .nil .nil))) (.node tup0 (.node tup0 (.node tup0 .nil .nil) (.node tup0 .nil .nil)) (.node tup0 (.node tup0 .nil .nil) (.node tup0 .nil .nil)))))) (.node (PySem.W.boot_o_6 P) (.node (PySem.W.boot_o_10 P) (.node (Pre.o_10 P) (.node (rg 335) (.node (rg 853) (.node (rg 1903) (.node (rg 4025) .nil .nil) .nil) (.node (rg 2959) .nil .nil)) (.node (rg 1377) (.node (rg 2433) .nil .nil) (.node (rg 3491) .nil .nil))) (.node (rg 593) (.node (rg 1115) (.node (rg 2169) (.node (rg 4295) .nil .nil) .nil) (.node (rg 3225) .nil .nil)) (.node (rg 1639) (.node (rg 2695) .nil .nil) (.node (rg 3757) .nil .nil)))) (.node (rg 209) (.node (rg 465) (.node (rg 985) (.node (rg 2037) (.node (rg 4161) .nil .nil) .nil) (.node (rg 3093) .nil .nil)) (.node (rg 1509) (.node (rg 2565) .nil .nil) (.node (rg 3625) .nil .nil))) (.node (rg 725) (.node (rg 1249) (.node (rg 2305) .nil .nil) (.node (rg 3361) .nil .nil)) (.node (rg 1773) (.node (rg 2829) .nil .nil) (.node (rg 3893) .nil .nil))))) (.node (Pre.o_4 P) (.node (lc P 64) (.node (rg 399) (.node (rg 918) (.node (rg 1969) (.node (rg 4092) .nil .nil) .nil) (.node (rg 3025) .nil .nil)) (.node (rg 1442) (.node (rg 2498) .nil .nil) (.node (rg 3557) .nil .nil))) (.node (rg 658) (.node (rg 1181) (.node (rg 2236) (.node (rg 4363) .nil .nil) .nil) (.node (rg 3292) .nil .nil)) (.node (rg 1705) (.node (rg 2761) .nil .nil) (.node (rg 3824) .nil .nil)))) (.node (rg 271) (.node (rg 528) (.node (rg 1049) (.node (rg 2102) (.node (rg 4227) .nil .nil) .nil) (.node (rg 3158) .nil .nil)) (.node (rg 1573) (.node (rg 2629) .nil .nil) (.node (rg 3690) .nil .nil))) (.node (rg 788) (.node (rg 1312) (.node (rg 2368) .nil .nil) (.node (rg 3425) .nil .nil)) (.node (rg 1837) (.node (rg 2893) .nil .nil) (.node (rg 3958) .nil .nil))))))))
noncomputable def B5 (P : Params) : BT := (.node (PySem.W.boot_o_0 P) (.node (PySem.W.boot_o_1 P) (.node (Pre.o_5 P) (.node (PySem.W.boot_o_7 P) (.node (Pre.o_7 P) (.node ri (.node ri (.node ri (.node ri .nil .nil) .nil) (.node ri (.node ri .nil .nil) .nil)) (.node ri (.node ri (.node ri .nil .nil) .nil) (.node ri .nil .nil))) (.node ri (.node ri (.node ri (.node ri .nil .nil) .nil) (.node ri (.node ri .nil .nil) .nil)) (.node ri (.node ri (.node ri .nil .nil) .nil) (.node ri .nil .nil)))) (.node (ls 80) (.node ri (.node ri (.node ri (.node ri .nil .nil) .nil) (.node ri (.node ri .nil .nil) .nil)) (.node ri (.node ri (.node ri .nil .nil) .nil) (.node ri .nil .nil))) (.node ri (.node ri (.node ri (.node ri .nil .nil) .nil) (.node ri (.node ri .nil .nil) .nil)) (.node ri (.node ri (.node ri .nil .nil) .nil) (.node ri .nil .nil))))) (.node (Pre.o_1 P) (.node (Pre.o_11 P) (.node ri (.node ri (.node ri (.node ri .nil .nil) .nil) (.node ri (.node ri .nil .nil) .nil)) (.node ri (.node ri (.node ri .nil .nil) .nil) (.node ri .nil .nil))) (.node ri (.node ri (.node ri (.node ri .nil .nil) .nil) (.node ri (.node ri .nil .nil) .nil)) (.node ri (.node ri (.node ri .nil .nil) .nil) (.node ri .nil .nil)))) (.node ri (.node ri (.node ri (.node ri (.node ri .nil .nil) .nil) (.node ri (.node ri .nil .nil) .nil)) (.node ri (.node ri (.node ri .nil .nil) .nil) (.node ri .nil .nil))) (.node ri (.node ri (.node ri (.node ri .nil .nil) .nil) (.node ri .nil .nil)) (.node ri (.node ri (.node ri .nil .nil) .nil) (.node ri .nil .nil)))))) (.node (PySem.W.boot_o_5 P) (.node (PySem.W.boot_o_9 P) (.node (Pre.o_9 P) (.node (se 32) (.node (se 64) (.node (se 128) (.node (se 256) .nil .nil) .nil) (.node (se 192) (.node (se 320) .nil .nil) .nil)) (.node (se 96) (.node (se 160) (.node (se 288) .nil .nil) .nil) (.node (se 224) .nil .nil))) (.node (se 48) (.node (se 80) (.node (se 144) (.node (se 272) .nil .nil) .nil) (.node (se 208) (.node (se 336) .nil .nil) .nil)) (.node (se 112) (.node (se 176) (.node (se 304) .nil .nil) .nil) (.node (se 240) .nil .nil)))) (.node (oi 80) (.node (se 40) (.node (se 72) (.node (se 136) (.node (se 264) .nil .nil) .nil) (.node (se 200) (.node (se 328) .nil .nil) .nil)) (.node (se 104) (.node (se 168) (.node (se 296) .nil .nil) .nil) (.node (se 232) .nil .nil))) (.node (se 56) (.node (se 88) (.node (se 152) (.node (se 280) .nil .nil) .nil) (.node (se 216) (.node (se 344) .nil .nil) .nil)) (.node (se 120) (.node (se 184) (.node (se 312) .nil .nil) .nil) (.node (se 248) .nil .nil))))) (.node (Pre.o_3 P) (.node (Pre.o_13 P) (.node (se 36) (.node (se 68) (.node (se 132) (.node (se 260) .nil .nil) .nil) (.node (se 196) (.node (se 324) .nil .nil) .nil)) (.node (se 100) (.node (se 164) (.node (se 292) .nil .nil) .nil) (.node (se 228) .nil .nil))) (.node (se 52) (.node (se 84) (.node (se 148) (.node (se 276) .nil .nil) .nil) (.node (se 212) (.node (se 340) .nil .nil) .nil)) (.node (se 116) (.node (se 180) (.node (se 308) .nil .nil) .nil) (.node (se 244) .nil .nil)))) (.node (se 28) (.node (se 44) (.node (se 76) (.node (se 140) (.node (se 268) .nil .nil) .nil) (.node (se 204) (.node (se 332) .nil .nil) .nil)) (.node (se 108) (.node (se 172) (.node (se 300) .nil .nil) .nil) (.node (se 236) .nil .nil))) (.node (se 60) (.node (se 92) (.node (se 156) (.node (se 284) .nil .nil) .nil) (.node (se 220) .nil .nil)) (.node (se 124) (.node (se 188) (.node (se 316) .nil .nil) .nil) (.node (se 252) .nil .nil))))))) (.node (PySem.W.boot_o_2 P) (.node (PySem.W.boot_o_4 P) (.node (PySem.W.boot_o_8 P) (.node (Pre.o_8 P) (.node tup0 (.node tup0 (.node tup0 (.node tup0 .nil .nil) .nil) (.node tup0 (.node tup0 .nil .nil) .nil)) (.node tup0 (.node tup0 (.node tup0 .nil .nil) .nil) (.node tup0 .nil .nil))) (.node tup0 (.node tup0 (.node tup0 (.node tup0 .nil .nil) .nil) (.node tup0 (.node tup0 .nil .nil) .nil)) (.node tup0 (.node tup0 (.node tup0 .nil .nil) .nil) (.node tup0 .nil .nil)))) (.node r256 (.node tup0 (.node tup0 (.node tup0 (.node tup0 .nil .nil) .nil) (.node tup0 (.node tup0 .nil .nil) .nil)) (.node tup0 (.node tup0 (.node tup0 .nil .nil) .nil) (.node tup0 .nil .nil))) (.node tup0 (.node tup0 (.node tup0 (.node tup0 .nil .nil) .nil) (.node tup0 (.node tup0 .nil .nil) .nil)) (.node tup0 (.node tup0 (.node tup0 .nil .nil) .nil) (.node tup0 .nil .nil))))) (.node (Pre.o_6 P) (.node (Pre.o_12 P) (.node tup0 (.node tup0 (.node tup0 (.node tup0 .nil .nil) .nil) (.node tup0 (.node tup0 .nil .nil) .nil)) (.node tup0 (.node tup0 (.node tup0 .nil .nil) .nil) (.node tup0 .nil .nil))) (.node tup0 (.node tup0 (.node tup0 (.node tup0 .nil .nil) .nil) (.node tup0 (.node tup0 .nil .nil) .nil)) (.node tup0 (.node tup0 (.node tup0 .nil .nil) .nil) (.node tup0 .nil .nil)))) (.node tup0 (.node tup0 (.node tup0 (.node tup0 (.node tup0 .nil .nil) .nil) (.node tup0 (.node tup0 .nil .nil) .nil)) (.node tup0 (.node tup0 (.node tup0 .nil .nil) .nil) (.node tup0 .nil .nil))) (.node tup0 (.node tup0 (.node tup0 (.node tup0 .nil .nil) .nil) (.node tup0 .nil .nil)) (.node tup0 (.node tup0 (.node tup0 .nil .nil) .nil) (.node tup0 .nil .nil)))))) (.node (PySem.W.boot_o_6 P) (.node (PySem.W.boot_o_10 P) (.node (Pre.o_10 P) (.node (rg 335) (.node (rg 853) (.node (rg 1903) (.node (rg 4025) .nil .nil) .nil) (.node (rg 2959) (.node (rg 5077) .nil .nil) .nil)) (.node (rg 1377) (.node (rg 2433) (.node (rg 4559) .nil .nil) .nil) (.node (rg 3491) .nil .nil))) (.node (rg 593) (.node (rg 1115) (.node (rg 2169) (.node (rg 4295) .nil .nil) .nil) (.node (rg 3225) (.node (rg 5339) .nil .nil) .nil)) (.node (rg 1639) (.node (rg 2695) (.node (rg 4817) .nil .nil) .nil) (.node (rg 3757) .nil .nil)))) (.node (rg 209) (.node (rg 465) (.node (rg 985) (.node (rg 2037) (.node (rg 4161) .nil .nil) .nil) (.node (rg 3093) (.node (rg 5209) .nil .nil) .nil)) (.node (rg 1509) (.node (rg 2565) (.node (rg 4689) .nil .nil) .nil) (.node (rg 3625) .nil .nil))) (.node (rg 725) (.node (rg 1249) (.node (rg 2305) (.node (rg 4433) .nil .nil) .nil) (.node (rg 3361) .nil .nil)) (.node (rg 1773) (.node (rg 2829) (.node (rg 4949) .nil .nil) .nil) (.node (rg 3893) .nil .nil))))) (.node (Pre.o_4 P) (.node (lc P 80) (.node (rg 399) (.node (rg 918) (.node (rg 1969) (.node (rg 4092) .nil .nil) .nil) (.node (rg 3025) (.node (rg 5143) .nil .nil) .nil)) (.node (rg 1442) (.node (rg 2498) (.node (rg 4624) .nil .nil) .nil) (.node (rg 3557) .nil .nil))) (.node (rg 658) (.node (rg 1181) (.node (rg 2236) (.node (rg 4363) .nil .nil) .nil) (.node (rg 3292) (.node (rg 5406) .nil .nil) .nil)) (.node (rg 1705) (.node (rg 2761) (.node (rg 4883) .nil .nil) .nil) (.node (rg 3824) .nil .nil)))) (.node (rg 271) (.node (rg 528) (.node (rg 1049) (.node (rg 2102) (.node (rg 4227) .nil .nil) .nil) (.node (rg 3158) (.node (rg 5274) .nil .nil) .nil)) (.node (rg 1573) (.node (rg 2629) (.node (rg 4753) .nil .nil) .nil) (.node (rg 3690) .nil .nil))) (.node (rg 788) (.node (rg 1312) (.node (rg 2368) (.node (rg 4496) .nil .nil) .nil) (.node (rg 3425) .nil .nil)) (.node (rg 1837) (.node (rg 2893) (.node (rg 5013) .nil .nil) .nil) (.node (rg 3958) .nil .nil))))))))
noncomputable def B6 (P : Params) : BT := (.node (PySem.W.boot_o_0 P) (.node (PySem.W.boot_o_1 P) (.node (Pre.o_5 P) (.node (PySem.W.boot_o_7 P) (.node (Pre.o_7 P) (.node ri (.node ri (.node ri (.node ri .nil .nil) (.node ri .nil .nil)) (.node ri (.node ri .nil .nil) .nil)) (.node ri (.node ri (.node ri .nil .nil) .nil) (.node ri (.node ri .nil .nil) .nil))) (.node ri (.node ri (.node ri (.node ri .nil .nil) (.node ri .nil .nil)) (.node ri (.node ri .nil .nil) .nil)) (.node ri (.node ri (.node ri .nil .nil) .nil) (.node ri (.node ri .nil .nil) .nil)))) (.node (ls 96) (.node ri (.node ri (.node ri (.node ri .nil .nil) (.node ri .nil .nil)) (.node ri (.node ri .nil .nil) .nil)) (.node ri (.node ri (.node ri .nil .nil) .nil) (.node ri (.node ri .nil .nil) .nil))) (.node ri (.node ri (.node ri (.node ri .nil .nil) (.node ri .nil .nil)) (.node ri (.node ri .nil .nil) .nil)) (.node ri (.node ri (.node ri .nil .nil) .nil) (.node ri (.node ri .nil .nil) .nil))))) (.node (Pre.o_1 P) (.node (Pre.o_11 P) (.node ri (.node ri (.node ri (.node ri .nil .nil) (.node ri .nil .nil)) (.node ri (.node ri .nil .nil) .nil)) (.node ri (.node ri (.node ri .nil .nil) .nil) (.node ri (.node ri .nil .nil) .nil))) (.node ri (.node ri (.node ri (.node ri .nil .nil) (.node ri .nil .nil)) (.node ri (.node ri .nil .nil) .nil)) (.node ri (.node ri (.node ri .nil .nil) .nil) (.node ri (.node ri .nil .nil) .nil)))) (.node ri (.node ri (.node ri (.node ri (.node ri .nil .nil) (.node ri .nil .nil)) (.node ri (.node ri .nil .nil) .nil)) (.node ri (.node ri (.node ri .nil .nil) .nil) (.node ri (.node ri .nil .nil) .nil))) (.node ri (.node ri (.node ri (.node ri .nil .nil) .nil) (.node ri (.node ri .nil .nil) .nil)) (.node ri (.node ri (.node ri .nil .nil) .nil) (.node ri (.node ri .nil .nil) .nil)))))) (.node (PySem.W.boot_o_5 P) (.node (PySem.W.boot_o_9 P) (.node (Pre.o_9 P) (.node (se 32) (.node (se 64) (.node (se 128) (.node (se 256) .nil .nil) (.node (se 384) .nil .nil)) (.node (se 192) (.node (se 320) .nil .nil) .nil)) (.node (se 96) (.node (se 160) (.node (se 288) .nil .nil) .nil) (.node (se 224) (.node (se 352) .nil .nil) .nil))) (.node (se 48) (.node (se 80) (.node (se 144) (.node (se 272) .nil .nil) (.node (se 400) .nil .nil)) (.node (se 208) (.node (se 336) .nil .nil) .nil)) (.node (se 112) (.node (se 176) (.node (se 304) .nil .nil) .nil) (.node (se 240) (.node (se 368) .nil .nil) .nil)))) (.node (oi 96) (.node (se 40) (.node (se 72) (.node (se 136) (.node (se 264) .nil .nil) (.node (se 392) .nil .nil)) (.node (se 200) (.node (se 328) .nil .nil) .nil)) (.node (se 104) (.node (se 168) (.node (se 296) .nil .nil) .nil) (.node (se 232) (.node (se 360) .nil .nil) .nil))) (.node (se 56) (.node (se 88) (.node (se 152) (.node (se 280) .nil .nil) (.node (se 408) .nil .nil)) (.node (se 216) (.node (se 344) .nil .nil) .nil)) (.node (se 120) (.node (se 184) (.node (se 312) .nil .nil) .nil) (.node (se 248) (.node (se 376) .nil .nil) .nil))))) (.node (Pre.o_3 P) (.node (Pre.o_13 P) (.node (se 36) (.node (se 68) (.node (se 132) (.node (se 260) .nil .nil) (.node (se 388) .nil .nil)) (.node (se 196) (.node (se 324) .nil .nil) .nil)) (.node (se 100) (.node (se 164) (.node (se 292) .nil .nil) .nil) (.node (se 228) (.node (se 356) .nil .nil) .nil))) (.node (se 52) (.node (se 84) (.node (se 148) (.node (se 276) .nil .nil) (.node (se 404) .nil .nil)) (.node (se 212) (.node (se 340) .nil .nil) .nil)) (.node (se 116) (.node (se 180) (.node (se 308) .nil .nil) .nil) (.node (se 244) (.node (se 372) .nil .nil) .nil)))) (.node (se 28) (.node (se 44) (.node (se 76) (.node (se 140) (.node (se 268) .nil .nil) (.node (se 396) .nil .nil)) (.node (se 204) (.node (se 332) .nil .nil) .nil)) (.node (se 108) (.node (se 172) (.node (se 300) .nil .nil) .nil) (.node (se 236) (.node (se 364) .nil .nil) .nil))) (.node (se 60) (.node (se 92) (.node (se 156) (.node (se 284) .nil .nil) .nil) (.node (se 220) (.node (se 348) .nil .nil) .nil)) (.node (se 124) (.node (se 188) (.node (se 316) .nil .nil) .nil) (.node (se 252) (.node (se 380) .nil .nil) .nil))))))) (.node (PySem.W.boot_o_2 P) (.node (PySem.W.boot_o_4 P) (.node (PySem.W.boot_o_8 P) (.node (Pre.o_8 P) (.node tup0 (.node tup0 (.node tup0 (.node tup0 .nil .nil) (.node tup0 .nil .nil)) (.node tup0 (.node tup0 .nil .nil) .nil)) (.node tup0 (.node tup0 (.node tup0 .nil .nil) .nil) (.node tup0 (.node tup0 .nil .nil) .nil))) (.node tup0 (.node tup0 (.node tup0 (.node tup0 .nil .nil) (.node tup0 .nil .nil)) (.node tup0 (.node tup0 .nil .nil) .nil)) (.node tup0 (.node tup0 (.node tup0 .nil .nil) .nil) (.node tup0 (.node tup0 .nil .nil) .nil)))) (.node r256 (.node tup0 (.node tup0 (.node tup0 (.node tup0 .nil .nil) (.node tup0 .nil .nil)) (.node tup0 (.node tup0 .nil .nil) .nil)) (.node tup0 (.node tup0 (.node tup0 .nil .nil) .nil) (.node tup0 (.node tup0 .nil .nil) .nil))) (.node tup0 (.node tup0 (.node tup0 (.node tup0 .nil .nil) (.node tup0 .nil .nil)) (.node tup0 (.node tup0 .nil .nil) .nil)) (.node tup0 (.node tup0 (.node tup0 .nil .nil) .nil) (.node tup0 (.node tup0 .nil .nil) .nil))))) (.node (Pre.o_6 P) (.node (Pre.o_12 P) (.node tup0 (.node tup0 (.node tup0 (.node tup0 .nil .nil) (.node tup0 .nil .nil)) (.node tup0 (.node tup0 .nil .nil) .nil)) (.node tup0 (.node tup0 (.node tup0 .nil .nil) .nil) (.node tup0 (.node tup0 .nil .nil) .nil))) (.node tup0 (.node tup0 (.node tup0 (.node tup0 .nil .nil) (.node tup0 .nil .nil)) (.node tup0 (.node tup0 .nil .nil) .nil)) (.node tup0 (.node tup0 (.node tup0 .nil .nil) .nil) (.node tup0 (.node tup0 .nil .nil) .nil)))) (.node tup0 (.node tup0 (.node tup0 (.node tup0 (.node tup0 .nil .nil) (.node tup0 .nil .nil)) (.node tup0 (.node tup0 .nil .nil) .nil)) (.node tup0 (.node tup0 (.node tup0 .nil .nil) .nil) (.node tup0 (.node tup0 .nil .nil) .nil))) (.node tup0 (.node tup0 (.node tup0 (.node tup0 .nil .nil) .nil) (.node tup0 (.node tup0 .nil .nil) .nil)) (.node tup0 (.node tup0 (.node tup0 .nil .nil) .nil) (.node tup0 (.node tup0 .nil .nil) .nil)))))) (.node (PySem.W.boot_o_6 P) (.node (PySem.W.boot_o_10 P) (.node (Pre.o_10 P) (.node (rg 335) (.node (rg 853) (.node (rg 1903) (.node (rg 4025) .nil .nil) (.node (rg 6127) .nil .nil)) (.node (rg 2959) (.node (rg 5077) .nil .nil) .nil)) (.node (rg 1377) (.node (rg 2433) (.node (rg 4559) .nil .nil) .nil) (.node (rg 3491) (.node (rg 5601) .nil .nil) .nil))) (.node (rg 593) (.node (rg 1115) (.node (rg 2169) (.node (rg 4295) .nil .nil) (.node (rg 6393) .nil .nil)) (.node (rg 3225) (.node (rg 5339) .nil .nil) .nil)) (.node (rg 1639) (.node (rg 2695) (.node (rg 4817) .nil .nil) .nil) (.node (rg 3757) (.node (rg 5863) .nil .nil) .nil)))) (.node (rg 209) (.node (rg 465) (.node (rg 985) (.node (rg 2037) (.node (rg 4161) .nil .nil) (.node (rg 6261) .nil .nil)) (.node (rg 3093) (.node (rg 5209) .nil .nil) .nil)) (.node (rg 1509) (.node (rg 2565) (.node (rg 4689) .nil .nil) .nil) (.node (rg 3625) (.node (rg 5733) .nil .nil) .nil))) (.node (rg 725) (.node (rg 1249) (.node (rg 2305) (.node (rg 4433) .nil .nil) .nil) (.node (rg 3361) (.node (rg 5473) .nil .nil) .nil)) (.node (rg 1773) (.node (rg 2829) (.node (rg 4949) .nil .nil) .nil) (.node (rg 3893) (.node (rg 5997) .nil .nil) .nil))))) (.node (Pre.o_4 P) (.node (lc P 96) (.node (rg 399) (.node (rg 918) (.node (rg 1969) (.node (rg 4092) .nil .nil) (.node (rg 6194) .nil .nil)) (.node (rg 3025) (.node (rg 5143) .nil .nil) .nil)) (.node (rg 1442) (.node (rg 2498) (.node (rg 4624) .nil .nil) .nil) (.node (rg 3557) (.node (rg 5667) .nil .nil) .nil))) (.node (rg 658) (.node (rg 1181) (.node (rg 2236) (.node (rg 4363) .nil .nil) (.node (rg 6461) .nil .nil)) (.node (rg 3292) (.node (rg 5406) .nil .nil) .nil)) (.node (rg 1705) (.node (rg 2761) (.node (rg 4883) .nil .nil) .nil) (.node (rg 3824) (.node (rg 5930) .nil .nil) .nil)))) (.node (rg 271) (.node (rg 528) (.node (rg 1049) (.node (rg 2102) (.node (rg 4227) .nil .nil) (.node (rg 6327) .nil .nil)) (.node (rg 3158) (.node (rg 5274) .nil .nil) .nil)) (.node (rg 1573) (.node (rg 2629) (.node (rg 4753) .nil .nil) .nil) (.node (rg 3690) (.node (rg 5798) .nil .nil) .nil))) (.node (rg 788) (.node (rg 1312) (.node (rg 2368) (.node (rg 4496) .nil .nil) .nil) (.node (rg 3425) (.node (rg 5537) .nil .nil) .nil)) (.node (rg 1837) (.node (rg 2893) (.node (rg 5013) .nil .nil) .nil) (.node (rg 3958) (.node (rg 6062) .nil .nil) .nil))))))))
noncomputable def B7 (P : Params) : BT := (.node (PySem.W.boot_o_0 P) (.node (PySem.W.boot_o_1 P) (.node (Pre.o_5 P) (.node (PySem.W.boot_o_7 P) (.node (Pre.o_7 P) (.node ri (.node ri (.node ri (.node ri .nil .nil) (.node ri .nil .nil)) (.node ri (.node ri .nil .nil) (.node ri .nil .nil))) (.node ri (.node ri (.node ri .nil .nil) (.node ri .nil .nil)) (.node ri (.node ri .nil .nil) .nil))) (.node ri (.node ri (.node ri (.node ri .nil .nil) (.node ri .nil .nil)) (.node ri (.node ri .nil .nil) (.node ri .nil .nil))) (.node ri (.node ri (.node ri .nil .nil) (.node ri .nil .nil)) (.node ri (.node ri .nil .nil) .nil)))) (.node (ls 112) (.node ri (.node ri (.node ri (.node ri .nil .nil) (.node ri .nil .nil)) (.node ri (.node ri .nil .nil) (.node ri .nil .nil))) (.node ri (.node ri (.node ri .nil .nil) (.node ri .nil .nil)) (.node ri (.node ri .nil .nil) .nil))) (.node ri (.node ri (.node ri (.node ri .nil .nil) (.node ri .nil .nil)) (.node ri (.node ri .nil .nil) (.node ri .nil .nil))) (.node ri (.node ri (.node ri .nil .nil) (.node ri .nil .nil)) (.node ri (.node ri .nil .nil) .nil))))) (.node (Pre.o_1 P) (.node (Pre.o_11 P) (.node ri (.node ri (.node ri (.node ri .nil .nil) (.node ri .nil .nil)) (.node ri (.node ri .nil .nil) (.node ri .nil .nil))) (.node ri (.node ri (.node ri .nil .nil) (.node ri .nil .nil)) (.node ri (.node ri .nil .nil) .nil))) (.node ri (.node ri (.node ri (.node ri .nil .nil) (.node ri .nil .nil)) (.node ri (.node ri .nil .nil) (.node ri .nil .nil))) (.node ri (.node ri (.node ri .nil .nil) (.node ri .nil .nil)) (.node ri (.node ri .nil .nil) .nil)))) (.node ri (.node ri (.node ri (.node ri (.node ri .nil .nil) (.node ri .nil .nil)) (.node ri (.node ri .nil .nil) (.node ri .nil .nil))) (.node ri (.node ri (.node ri .nil .nil) (.node ri .nil .nil)) (.node ri (.node ri .nil .nil) .nil))) (.node ri (.node ri (.node ri (.node ri .nil .nil) (.node ri .nil .nil)) (.node ri (.node ri .nil .nil) .nil)) (.node ri (.node ri (.node ri .nil .nil) (.node ri .nil .nil)) (.node ri (.node ri .nil .nil) .nil)))))) (.node (PySem.W.boot_o_5 P) (.node (PySem.W.boot_o_9 P) (.node (Pre.o_9 P) (.node (se 32) (.node (se 64) (.node (se 128) (.node (se 256) .nil .nil) (.node (se 384) .nil .nil)) (.node (se 192) (.node (se 320) .nil .nil) (.node (se 448) .nil .nil))) (.node (se 96) (.node (se 160) (.node (se 288) .nil .nil) (.node (se 416) .nil .nil)) (.node (se 224) (.node (se 352) .nil .nil) .nil))) (.node (se 48) (.node (se 80) (.node (se 144) (.node (se 272) .nil .nil) (.node (se 400) .nil .nil)) (.node (se 208) (.node (se 336) .nil .nil) (.node (se 464) .nil .nil))) (.node (se 112) (.node (se 176) (.node (se 304) .nil .nil) (.node (se 432) .nil .nil)) (.node (se 240) (.node (se 368) .nil .nil) .nil)))) (.node (oi 112) (.node (se 40) (.node (se 72) (.node (se 136) (.node (se 264) .nil .nil) (.node (se 392) .nil .nil)) (.node (se 200) (.node (se 328) .nil .nil) (.node (se 456) .nil .nil))) (.node (se 104) (.node (se 168) (.node (se 296) .nil .nil) (.node (se 424) .nil .nil)) (.node (se 232) (.node (se 360) .nil .nil) .nil))) (.node (se 56) (.node (se 88) (.node (se 152) (.node (se 280) .nil .nil) (.node (se 408) .nil .nil)) (.node (se 216) (.node (se 344) .nil .nil) (.node (se 472) .nil .nil))) (.node (se 120) (.node (se 184) (.node (se 312) .nil .nil) (.node (se 440) .nil .nil)) (.node (se 248) (.node (se 376) .nil .nil) .nil))))) (.node (Pre.o_3 P) (.node (Pre.o_13 P) (.node (se 36) (.node (se 68) (.node (se 132) (.node (se 260) .nil .nil) (.node (se 388) .nil .nil)) (.node (se 196) (.node (se 324) .nil .nil) (.node (se 452) .nil .nil))) (.node (se 100) (.node (se 164) (.node (se 292) .nil .nil) (.node (se 420) .nil .nil)) (.node (se 228) (.node (se 356) .nil .nil) .nil))) (.node (se 52) (.node (se 84) (.node (se 148) (.node (se 276) .nil .nil) (.node (se 404) .nil .nil)) (.node (se 212) (.node (se 340) .nil .nil) (.node (se 468) .nil .nil))) (.node (se 116) (.node (se 180) (.node (se 308) .nil .nil) (.node (se 436) .nil .nil)) (.node (se 244) (.node (se 372) .nil .nil) .nil)))) (.node (se 28) (.node (se 44) (.node (se 76) (.node (se 140) (.node (se 268) .nil .nil) (.node (se 396) .nil .nil)) (.node (se 204) (.node (se 332) .nil .nil) (.node (se 460) .nil .nil))) (.node (se 108) (.node (se 172) (.node (se 300) .nil .nil) (.node (se 428) .nil .nil)) (.node (se 236) (.node (se 364) .nil .nil) .nil))) (.node (se 60) (.node (se 92) (.node (se 156) (.node (se 284) .nil .nil) (.node (se 412) .nil .nil)) (.node (se 220) (.node (se 348) .nil .nil) .nil)) (.node (se 124) (.node (se 188) (.node (se 316) .nil .nil) (.node (se 444) .nil .nil)) (.node (se 252) (.node (se 380) .nil .nil) .nil))))))) (.node (PySem.W.boot_o_2 P) (.node (PySem.W.boot_o_4 P) (.node (PySem.W.boot_o_8 P) (.node (Pre.o_8 P) (.node tup0 (.node tup0 (.node tup0 (.node tup0 .nil .nil) (.node tup0 .nil .nil)) (.node tup0 (.node tup0 .nil .nil) (.node tup0 .nil .nil))) (.node tup0 (.node tup0 (.node tup0 .nil .nil) (.node tup0 .nil .nil)) (.node tup0 (.node tup0 .nil .nil) .nil))) (.node tup0 (.node tup0 (.node tup0 (.node tup0 .nil .nil) (.node tup0 .nil .nil)) (.node tup0 (.node tup0 .nil .nil) (.node tup0 .nil .nil))) (.node tup0 (.node tup0 (.node tup0 .nil .nil) (.node tup0 .nil .nil)) (.node tup0 (.node tup0 .nil .nil) .nil)))) (.node r256 (.node tup0 (.node tup0 (.node tup0 (.node tup0 .nil .nil) (.node tup0 .nil .nil)) (.node tup0 (.node tup0 .nil .nil) (.node tup0 .nil .nil))) (.node tup0 (.node tup0 (.node tup0 .nil .nil) (.node tup0 .nil .nil)) (.node tup0 (.node tup0 .nil .nil) .nil))) (.node tup0 (.node tup0 (.node tup0 (.node tup0 .nil .nil) (.node tup0 .nil .nil)) (.node tup0 (.node tup0 .nil .nil) (.node tup0 .nil .nil))) (.node tup0 (.node tup0 (.node tup0 .nil .nil) (.node tup0 .nil .nil)) (.node tup0 (.node tup0 .nil .nil) .nil))))) (.node (Pre.o_6 P) (.node (Pre.o_12 P) (.node tup0 (.node tup0 (.node tup0 (.node tup0 .nil .nil) (.node tup0 .nil .nil)) (.node tup0 (.node tup0 .nil .nil) (.node tup0 .nil .nil))) (.node tup0 (.node tup0 (.node tup0 .nil .nil) (.node tup0 .nil .nil)) (.node tup0 (.node tup0 .nil .nil) .nil))) (.node tup0 (.node tup0 (.node tup0 (.node tup0 .nil .nil) (.node tup0 .nil .nil)) (.node tup0 (.node tup0 .nil .nil) (.node tup0 .nil .nil))) (.node tup0 (.node tup0 (.node tup0 .nil .nil) (.node tup0 .nil .nil)) (.node tup0 (.node tup0 .nil .nil) .nil)))) (.node tup0 (.node tup0 (.node tup0 (.node tup0 (.node tup0 .nil .nil) (.node tup0 .nil .nil)) (.node tup0 (.node tup0 .nil .nil) (.node tup0 .nil .nil))) (.node tup0 (.node tup0 (.node tup0 .nil .nil) (.node tup0 .nil .nil)) (.node tup0 (.node tup0 .nil .nil) .nil))) (.node tup0 (.node tup0 (.node tup0 (.node tup0 .nil .nil) (.node tup0 .nil .nil)) (.node tup0 (.node tup0 .nil .nil) .nil)) (.node tup0 (.node tup0 (.node tup0 .nil .nil) (.node tup0 .nil .nil)) (.node tup0 (.node tup0 .nil .nil) .nil)))))) (.node (PySem.W.boot_o_6 P) (.node (PySem.W.boot_o_10 P) (.node (Pre.o_10 P) (.node (rg 335) (.node (rg 853) (.node (rg 1903) (.node (rg 4025) .nil .nil) (.node (rg 6127) .nil .nil)) (.node (rg 2959) (.node (rg 5077) .nil .nil) (.node (rg 7183) .nil .nil))) (.node (rg 1377) (.node (rg 2433) (.node (rg 4559) .nil .nil) (.node (rg 6657) .nil .nil)) (.node (rg 3491) (.node (rg 5601) .nil .nil) .nil))) (.node (rg 593) (.node (rg 1115) (.node (rg 2169) (.node (rg 4295) .nil .nil) (.node (rg 6393) .nil .nil)) (.node (rg 3225) (.node (rg 5339) .nil .nil) (.node (rg 7449) .nil .nil))) (.node (rg 1639) (.node (rg 2695) (.node (rg 4817) .nil .nil) (.node (rg 6919) .nil .nil)) (.node (rg 3757) (.node (rg 5863) .nil .nil) .nil)))) (.node (rg 209) (.node (rg 465) (.node (rg 985) (.node (rg 2037) (.node (rg 4161) .nil .nil) (.node (rg 6261) .nil .nil)) (.node (rg 3093) (.node (rg 5209) .nil .nil) (.node (rg 7317) .nil .nil))) (.node (rg 1509) (.node (rg 2565) (.node (rg 4689) .nil .nil) (.node (rg 6789) .nil .nil)) (.node (rg 3625) (.node (rg 5733) .nil .nil) .nil))) (.node (rg 725) (.node (rg 1249) (.node (rg 2305) (.node (rg 4433) .nil .nil) (.node (rg 6529) .nil .nil)) (.node (rg 3361) (.node (rg 5473) .nil .nil) .nil)) (.node (rg 1773) (.node (rg 2829) (.node (rg 4949) .nil .nil) (.node (rg 7053) .nil .nil)) (.node (rg 3893) (.node (rg 5997) .nil .nil) .nil))))) (.node (Pre.o_4 P) (.node (lc P 112) (.node (rg 399) (.node (rg 918) (.node (rg 1969) (.node (rg 4092) .nil .nil) (.node (rg 6194) .nil .nil)) (.node (rg 3025) (.node (rg 5143) .nil .nil) (.node (rg 7250) .nil .nil))) (.node (rg 1442) (.node (rg 2498) (.node (rg 4624) .nil .nil) (.node (rg 6723) .nil .nil)) (.node (rg 3557) (.node (rg 5667) .nil .nil) .nil))) (.node (rg 658) (.node (rg 1181) (.node (rg 2236) (.node (rg 4363) .nil .nil) (.node (rg 6461) .nil .nil)) (.node (rg 3292) (.node (rg 5406) .nil .nil) (.node (rg 7517) .nil .nil))) (.node (rg 1705) (.node (rg 2761) (.node (rg 4883) .nil .nil) (.node (rg 6986) .nil .nil)) (.node (rg 3824) (.node (rg 5930) .nil .nil) .nil)))) (.node (rg 271) (.node (rg 528) (.node (rg 1049) (.node (rg 2102) (.node (rg 4227) .nil .nil) (.node (rg 6327) .nil .nil)) (.node (rg 3158) (.node (rg 5274) .nil .nil) (.node (rg 7383) .nil .nil))) (.node (rg 1573) (.node (rg 2629) (.node (rg 4753) .nil .nil) (.node (rg 6854) .nil .nil)) (.node (rg 3690) (.node (rg 5798) .nil .nil) .nil))) (.node (rg 788) (.node (rg 1312) (.node (rg 2368) (.node (rg 4496) .nil .nil) (.node (rg 6593) .nil .nil)) (.node (rg 3425) (.node (rg 5537) .nil .nil) .nil)) (.node (rg 1837) (.node (rg 2893) (.node (rg 5013) .nil .nil) (.node (rg 7118) .nil .nil)) (.node (rg 3958) (.node (rg 6062) .nil .nil) .nil))))))))
noncomputable def B8 (P : Params) : BT := (.node (PySem.W.boot_o_0 P) (.node (PySem.W.boot_o_1 P) (.node (Pre.o_5 P) (.node (PySem.W.boot_o_7 P) (.node (Pre.o_7 P) (.node ri (.node ri (.node ri (.node ri (.node ri .nil .nil) .nil) (.node ri .nil .nil)) (.node ri (.node ri .nil .nil) (.node ri .nil .nil))) (.node ri (.node ri (.node ri .nil .nil) (.node ri .nil .nil)) (.node ri (.node ri .nil .nil) (.node ri .nil .nil)))) (.node ri (.node ri (.node ri (.node ri (.node ri .nil .nil) .nil) (.node ri .nil .nil)) (.node ri (.node ri .nil .nil) (.node ri .nil .nil))) (.node ri (.node ri (.node ri .nil .nil) (.node ri .nil .nil)) (.node ri (.node ri .nil .nil) (.node ri .nil .nil))))) (.node (ls 128) (.node ri (.node ri (.node ri (.node ri (.node ri .nil .nil) .nil) (.node ri .nil .nil)) (.node ri (.node ri .nil .nil) (.node ri .nil .nil))) (.node ri (.node ri (.node ri .nil .nil) (.node ri .nil .nil)) (.node ri (.node ri .nil .nil) (.node ri .nil .nil)))) (.node ri (.node ri (.node ri (.node ri (.node ri .nil .nil) .nil) (.node ri .nil .nil)) (.node ri (.node ri .nil .nil) (.node ri .nil .nil))) (.node ri (.node ri (.node ri .nil .nil) (.node ri .nil .nil)) (.node ri (.node ri .nil .nil) (.node ri .nil .nil)))))) (.node (Pre.o_1 P) (.node (Pre.o_11 P) (.node ri (.node ri (.node ri (.node ri (.node ri .nil .nil) .nil) (.node ri .nil .nil)) (.node ri (.node ri .nil .nil) (.node ri .nil .nil))) (.node ri (.node ri (.node ri .nil .nil) (.node ri .nil .nil)) (.node ri (.node ri .nil .nil) (.node ri .nil .nil)))) (.node ri (.node ri (.node ri (.node ri (.node ri .nil .nil) .nil) (.node ri .nil .nil)) (.node ri (.node ri .nil .nil) (.node ri .nil .nil))) (.node ri (.node ri (.node ri .nil .nil) (.node ri .nil .nil)) (.node ri (.node ri .nil .nil) (.node ri .nil .nil))))) (.node ri (.node ri (.node ri (.node ri (.node ri (.node ri .nil .nil) .nil) (.node ri .nil .nil)) (.node ri (.node ri .nil .nil) (.node ri .nil .nil))) (.node ri (.node ri (.node ri .nil .nil) (.node ri .nil .nil)) (.node ri (.node ri .nil .nil) (.node ri .nil .nil)))) (.node ri (.node ri (.node ri (.node ri .nil .nil) (.node ri .nil .nil)) (.node ri (.node ri .nil .nil) (.node ri .nil .nil))) (.node ri (.node ri (.node ri .nil .nil) (.node ri .nil .nil)) (.node ri (.node ri .nil .nil) (.node ri .nil .nil))))))) (.node (PySem.W.boot_o_5 P) (.node (PySem.W.boot_o_9 P) (.node (Pre.o_9 P) (.node (se 32) (.node (se 64) (.node (se 128) (.node (se 256) (.node (se 512) .nil .nil) .nil) (.node (se 384) .nil .nil)) (.node (se 192) (.node (se 320) .nil .nil) (.node (se 448) .nil .nil))) (.node (se 96) (.node (se 160) (.node (se 288) .nil .nil) (.node (se 416) .nil .nil)) (.node (se 224) (.node (se 352) .nil .nil) (.node (se 480) .nil .nil)))) (.node (se 48) (.node (se 80) (.node (se 144) (.node (se 272) (.node (se 528) .nil .nil) .nil) (.node (se 400) .nil .nil)) (.node (se 208) (.node (se 336) .nil .nil) (.node (se 464) .nil .nil))) (.node (se 112) (.node (se 176) (.node (se 304) .nil .nil) (.node (se 432) .nil .nil)) (.node (se 240) (.node (se 368) .nil .nil) (.node (se 496) .nil .nil))))) (.node (oi 128) (.node (se 40) (.node (se 72) (.node (se 136) (.node (se 264) (.node (se 520) .nil .nil) .nil) (.node (se 392) .nil .nil)) (.node (se 200) (.node (se 328) .nil .nil) (.node (se 456) .nil .nil))) (.node (se 104) (.node (se 168) (.node (se 296) .nil .nil) (.node (se 424) .nil .nil)) (.node (se 232) (.node (se 360) .nil .nil) (.node (se 488) .nil .nil)))) (.node (se 56) (.node (se 88) (.node (se 152) (.node (se 280) (.node (se 536) .nil .nil) .nil) (.node (se 408) .nil .nil)) (.node (se 216) (.node (se 344) .nil .nil) (.node (se 472) .nil .nil))) (.node (se 120) (.node (se 184) (.node (se 312) .nil .nil) (.node (se 440) .nil .nil)) (.node (se 248) (.node (se 376) .nil .nil) (.node (se 504) .nil .nil)))))) (.node (Pre.o_3 P) (.node (Pre.o_13 P) (.node (se 36) (.node (se 68) (.node (se 132) (.node (se 260) (.node (se 516) .nil .nil) .nil) (.node (se 388) .nil .nil)) (.node (se 196) (.node (se 324) .nil .nil) (.node (se 452) .nil .nil))) (.node (se 100) (.node (se 164) (.node (se 292) .nil .nil) (.node (se 420) .nil .nil)) (.node (se 228) (.node (se 356) .nil .nil) (.node (se 484) .nil .nil)))) (.node (se 52) (.node (se 84) (.node (se 148) (.node (se 276) (.node (se 532) .nil .nil) .nil) (.node (se 404) .nil .nil)) (.node (se 212) (.node (se 340) .nil .nil) (.node (se 468) .nil .nil))) (.node (se 116) (.node (se 180) (.node (se 308) .nil .nil) (.node (se 436) .nil .nil)) (.node (se 244) (.node (se 372) .nil .nil) (.node (se 500) .nil .nil))))) (.node (se 28) (.node (se 44) (.node (se 76) (.node (se 140) (.node (se 268) (.node (se 524) .nil .nil) .nil) (.node (se 396) .nil .nil)) (.node (se 204) (.node (se 332) .nil .nil) (.node (se 460) .nil .nil))) (.node (se 108) (.node (se 172) (.node (se 300) .nil .nil) (.node (se 428) .nil .nil)) (.node (se 236) (.node (se 364) .nil .nil) (.node (se 492) .nil .nil)))) (.node (se 60) (.node (se 92) (.node (se 156) (.node (se 284) .nil .nil) (.node (se 412) .nil .nil)) (.node (se 220) (.node (se 348) .nil .nil) (.node (se 476) .nil .nil))) (.node (se 124) (.node (se 188) (.node (se 316) .nil .nil) (.node (se 444) .nil .nil)) (.node (se 252) (.node (se 380) .nil .nil) (.node (se 508) .nil .nil)))))))) (.node (PySem.W.boot_o_2 P) (.node (PySem.W.boot_o_4 P) (.node (PySem.W.boot_o_8 P) (.node (Pre.o_8 P) (.node tup0 (.node tup0 (.node tup0 (.node tup0 (.node tup0 .nil .nil) .nil) (.node tup0 .nil .nil)) (.node tup0 (.node tup0 .nil .nil) (.node tup0 .nil .nil))) (.node tup0 (.node tup0 (.node tup0 .nil .nil) (.node tup0 .nil .nil)) (.node tup0 (.node tup0 .nil .nil) (.node tup0 .nil .nil)))) (.node tup0 (.node tup0 (.node tup0 (.node tup0 (.node tup0 .nil .nil) .nil) (.node tup0 .nil .nil)) (.node tup0 (.node tup0 .nil .nil) (.node tup0 .nil .nil))) (.node tup0 (.node tup0 (.node tup0 .nil .nil) (.node tup0 .nil .nil)) (.node tup0 (.node tup0 .nil .nil) (.node tup0 .nil .nil))))) (.node r256 (.node tup0 (.node tup0 (.node tup0 (.node tup0 (.node tup0 .nil .nil) .nil) (.node tup0 .nil .nil)) (.node tup0 (.node tup0 .nil .nil) (.node tup0 .nil .nil))) (.node tup0 (.node tup0 (.node tup0 .nil .nil) (.node tup0 .nil .nil)) (.node tup0 (.node tup0 .nil .nil) (.node tup0 .nil .nil)))) (.node tup0 (.node tup0 (.node tup0 (.node tup0 (.node tup0 .nil .nil) .nil) (.node tup0 .nil .nil)) (.node tup0 (.node tup0 .nil .nil) (.node tup0 .nil .nil))) (.node tup0 (.node tup0 (.node tup0 .nil .nil) (.node tup0 .nil .nil)) (.node tup0 (.node tup0 .nil .nil) (.node tup0 .nil .nil)))))) (.node (Pre.o_6 P) (.node (Pre.o_12 P) (.node tup0 (.node tup0 (.node tup0 (.node tup0 (.node tup0 .nil .nil) .nil) (.node tup0 .nil .nil)) (.node tup0 (.node tup0 .nil .nil) (.node tup0 .nil .nil))) (.node tup0 (.node tup0 (.node tup0 .nil .nil) (.node tup0 .nil .nil)) (.node tup0 (.node tup0 .nil .nil) (.node tup0 .nil .nil)))) (.node tup0 (.node tup0 (.node tup0 (.node tup0 (.node tup0 .nil .nil) .nil) (.node tup0 .nil .nil)) (.node tup0 (.node tup0 .nil .nil) (.node tup0 .nil .nil))) (.node tup0 (.node tup0 (.node tup0 .nil .nil) (.node tup0 .nil .nil)) (.node tup0 (.node tup0 .nil .nil) (.node tup0 .nil .nil))))) (.node tup0 (.node tup0 (.node tup0 (.node tup0 (.node tup0 (.node tup0 .nil .nil) .nil) (.node tup0 .nil .nil)) (.node tup0 (.node tup0 .nil .nil) (.node tup0 .nil .nil))) (.node tup0 (.node tup0 (.node tup0 .nil .nil) (.node tup0 .nil .nil)) (.node tup0 (.node tup0 .nil .nil) (.node tup0 .nil .nil)))) (.node tup0 (.node tup0 (.node tup0 (.node tup0 .nil .nil) (.node tup0 .nil .nil)) (.node tup0 (.node tup0 .nil .nil) (.node tup0 .nil .nil))) (.node tup0 (.node tup0 (.node tup0 .nil .nil) (.node tup0 .nil .nil)) (.node tup0 (.node tup0 .nil .nil) (.node tup0 .nil .nil))))))) (.node (PySem.W.boot_o_6 P) (.node (PySem.W.boot_o_10 P) (.node (Pre.o_10 P) (.node (rg 335) (.node (rg 853) (.node (rg 1903) (.node (rg 4025) (.node (rg 8249) .nil .nil) .nil) (.node (rg 6127) .nil .nil)) (.node (rg 2959) (.node (rg 5077) .nil .nil) (.node (rg 7183) .nil .nil))) (.node (rg 1377) (.node (rg 2433) (.node (rg 4559) .nil .nil) (.node (rg 6657) .nil .nil)) (.node (rg 3491) (.node (rg 5601) .nil .nil) (.node (rg 7715) .nil .nil)))) (.node (rg 593) (.node (rg 1115) (.node (rg 2169) (.node (rg 4295) (.node (rg 8519) .nil .nil) .nil) (.node (rg 6393) .nil .nil)) (.node (rg 3225) (.node (rg 5339) .nil .nil) (.node (rg 7449) .nil .nil))) (.node (rg 1639) (.node (rg 2695) (.node (rg 4817) .nil .nil) (.node (rg 6919) .nil .nil)) (.node (rg 3757) (.node (rg 5863) .nil .nil) (.node (rg 7981) .nil .nil))))) (.node (rg 209) (.node (rg 465) (.node (rg 985) (.node (rg 2037) (.node (rg 4161) (.node (rg 8385) .nil .nil) .nil) (.node (rg 6261) .nil .nil)) (.node (rg 3093) (.node (rg 5209) .nil .nil) (.node (rg 7317) .nil .nil))) (.node (rg 1509) (.node (rg 2565) (.node (rg 4689) .nil .nil) (.node (rg 6789) .nil .nil)) (.node (rg 3625) (.node (rg 5733) .nil .nil) (.node (rg 7849) .nil .nil)))) (.node (rg 725) (.node (rg 1249) (.node (rg 2305) (.node (rg 4433) .nil .nil) (.node (rg 6529) .nil .nil)) (.node (rg 3361) (.node (rg 5473) .nil .nil) (.node (rg 7585) .nil .nil))) (.node (rg 1773) (.node (rg 2829) (.node (rg 4949) .nil .nil) (.node (rg 7053) .nil .nil)) (.node (rg 3893) (.node (rg 5997) .nil .nil) (.node (rg 8117) .nil .nil)))))) (.node (Pre.o_4 P) (.node (lc P 128) (.node (rg 399) (.node (rg 918) (.node (rg 1969) (.node (rg 4092) (.node (rg 8317) .nil .nil) .nil) (.node (rg 6194) .nil .nil)) (.node (rg 3025) (.node (rg 5143) .nil .nil) (.node (rg 7250) .nil .nil))) (.node (rg 1442) (.node (rg 2498) (.node (rg 4624) .nil .nil) (.node (rg 6723) .nil .nil)) (.node (rg 3557) (.node (rg 5667) .nil .nil) (.node (rg 7782) .nil .nil)))) (.node (rg 658) (.node (rg 1181) (.node (rg 2236) (.node (rg 4363) (.node (rg 8588) .nil .nil) .nil) (.node (rg 6461) .nil .nil)) (.node (rg 3292) (.node (rg 5406) .nil .nil) (.node (rg 7517) .nil .nil))) (.node (rg 1705) (.node (rg 2761) (.node (rg 4883) .nil .nil) (.node (rg 6986) .nil .nil)) (.node (rg 3824) (.node (rg 5930) .nil .nil) (.node (rg 8049) .nil .nil))))) (.node (rg 271) (.node (rg 528) (.node (rg 1049) (.node (rg 2102) (.node (rg 4227) (.node (rg 8452) .nil .nil) .nil) (.node (rg 6327) .nil .nil)) (.node (rg 3158) (.node (rg 5274) .nil .nil) (.node (rg 7383) .nil .nil))) (.node (rg 1573) (.node (rg 2629) (.node (rg 4753) .nil .nil) (.node (rg 6854) .nil .nil)) (.node (rg 3690) (.node (rg 5798) .nil .nil) (.node (rg 7915) .nil .nil)))) (.node (rg 788) (.node (rg 1312) (.node (rg 2368) (.node (rg 4496) .nil .nil) (.node (rg 6593) .nil .nil)) (.node (rg 3425) (.node (rg 5537) .nil .nil) (.node (rg 7650) .nil .nil))) (.node (rg 1837) (.node (rg 2893) (.node (rg 5013) .nil .nil) (.node (rg 7118) .nil .nil)) (.node (rg 3958) (.node (rg 6062) .nil .nil) (.node (rg 8183) .nil .nil)))))))))
noncomputable def B9 (P : Params) : BT := (.node (PySem.W.boot_o_0 P) (.node (PySem.W.boot_o_1 P) (.node (Pre.o_5 P) (.node (PySem.W.boot_o_7 P) (.node (Pre.o_7 P) (.node ri (.node ri (.node ri (.node ri (.node ri .nil .nil) .nil) (.node ri .nil .nil)) (.node ri (.node ri (.node ri .nil .nil) .nil) (.node ri .nil .nil))) (.node ri (.node ri (.node ri (.node ri .nil .nil) .nil) (.node ri .nil .nil)) (.node ri (.node ri .nil .nil) (.node ri .nil .nil)))) (.node ri (.node ri (.node ri (.node ri (.node ri .nil .nil) .nil) (.node ri .nil .nil)) (.node ri (.node ri (.node ri .nil .nil) .nil) (.node ri .nil .nil))) (.node ri (.node ri (.node ri (.node ri .nil .nil) .nil) (.node ri .nil .nil)) (.node ri (.node ri .nil .nil) (.node ri .nil .nil))))) (.node (ls 144) (.node ri (.node ri (.node ri (.node ri (.node ri .nil .nil) .nil) (.node ri .nil .nil)) (.node ri (.node ri (.node ri .nil .nil) .nil) (.node ri .nil .nil))) (.node ri (.node ri (.node ri (.node ri .nil .nil) .nil) (.node ri .nil .nil)) (.node ri (.node ri .nil .nil) (.node ri .nil .nil)))) (.node ri (.node ri (.node ri (.node ri (.node ri .nil .nil) .nil) (.node ri .nil .nil)) (.node ri (.node ri (.node ri .nil .nil) .nil) (.node ri .nil .nil))) (.node ri (.node ri (.node ri (.node ri .nil .nil) .nil) (.node ri .nil .nil)) (.node ri (.node ri .nil .nil) (.node ri .nil .nil)))))) (.node (Pre.o_1 P) (.node (Pre.o_11 P) (.node ri (.node ri (.node ri (.node ri (.node ri .nil .nil) .nil) (.node ri .nil .nil)) (.node ri (.node ri (.node ri .nil .nil) .nil) (.node ri .nil .nil))) (.node ri (.node ri (.node ri (.node ri .nil .nil) .nil) (.node ri .nil .nil)) (.node ri (.node ri .nil .nil) (.node ri .nil .nil)))) (.node ri (.node ri (.node ri (.node ri (.node ri .nil .nil) .nil) (.node ri .nil .nil)) (.node ri (.node ri (.node ri .nil .nil) .nil) (.node ri .nil .nil))) (.node ri (.node ri (.node ri (.node ri .nil .nil) .nil) (.node ri .nil .nil)) (.node ri (.node ri .nil .nil) (.node ri .nil .nil))))) (.node ri (.node ri (.node ri (.node ri (.node ri (.node ri .nil .nil) .nil) (.node ri .nil .nil)) (.node ri (.node ri (.node ri .nil .nil) .nil) (.node ri .nil .nil))) (.node ri (.node ri (.node ri (.node ri .nil .nil) .nil) (.node ri .nil .nil)) (.node ri (.node ri .nil .nil) (.node ri .nil .nil)))) (.node ri (.node ri (.node ri (.node ri (.node ri .nil .nil) .nil) (.node ri .nil .nil)) (.node ri (.node ri .nil .nil) (.node ri .nil .nil))) (.node ri (.node ri (.node ri (.node ri .nil .nil) .nil) (.node ri .nil .nil)) (.node ri (.node ri .nil .nil) (.node ri .nil .nil))))))) (.node (PySem.W.boot_o_5 P) (.node (PySem.W.boot_o_9 P) (.node (Pre.o_9 P) (.node (se 32) (.node (se 64) (.node (se 128) (.node (se 256) (.node (se 512) .nil .nil) .nil) (.node (se 384) .nil .nil)) (.node (se 192) (.node (se 320) (.node (se 576) .nil .nil) .nil) (.node (se 448) .nil .nil))) (.node (se 96) (.node (se 160) (.node (se 288) (.node (se 544) .nil .nil) .nil) (.node (se 416) .nil .nil)) (.node (se 224) (.node (se 352) .nil .nil) (.node (se 480) .nil .nil)))) (.node (se 48) (.node (se 80) (.node (se 144) (.node (se 272) (.node (se 528) .nil .nil) .nil) (.node (se 400) .nil .nil)) (.node (se 208) (.node (se 336) (.node (se 592) .nil .nil) .nil) (.node (se 464) .nil .nil))) (.node (se 112) (.node (se 176) (.node (se 304) (.node (se 560) .nil .nil) .nil) (.node (se 432) .nil .nil)) (.node (se 240) (.node (se 368) .nil .nil) (.node (se 496) .nil .nil))))) (.node (oi 144) (.node (se 40) (.node (se 72) (.node (se 136) (.node (se 264) (.node (se 520) .nil .nil) .nil) (.node (se 392) .nil .nil)) (.node (se 200) (.node (se 328) (.node (se 584) .nil .nil) .nil) (.node (se 456) .nil .nil))) (.node (se 104) (.node (se 168) (.node (se 296) (.node (se 552) .nil .nil) .nil) (.node (se 424) .nil .nil)) (.node (se 232) (.node (se 360) .nil .nil) (.node (se 488) .nil .nil)))) (.node (se 56) (.node (se 88) (.node (se 152) (.node (se 280) (.node (se 536) .nil .nil) .nil) (.node (se 408) .nil .nil)) (.node (se 216) (.node (se 344) (.node (se 600) .nil .nil) .nil) (.node (se 472) .nil .nil))) (.node (se 120) (.node (se 184) (.node (se 312) (.node (se 568) .nil .nil) .nil) (.node (se 440) .nil .nil)) (.node (se 248) (.node (se 376) .nil .nil) (.node (se 504) .nil .nil)))))) (.node (Pre.o_3 P) (.node (Pre.o_13 P) (.node (se 36) (.node (se 68) (.node (se 132) (.node (se 260) (.node (se 516) .nil .nil) .nil) (.node (se 388) .nil .nil)) (.node (se 196) (.node (se 324) (.node (se 580) .nil .nil) .nil) (.node (se 452) .nil .nil))) (.node (se 100) (.node (se 164) (.node (se 292) (.node (se 548) .nil .nil) .nil) (.node (se 420) .nil .nil)) (.node (se 228) (.node (se 356) .nil .nil) (.node (se 484) .nil .nil)))) (.node (se 52) (.node (se 84) (.node (se 148) (.node (se 276) (.node (se 532) .nil .nil) .nil) (.node (se 404) .nil .nil)) (.node (se 212) (.node (se 340) (.node (se 596) .nil .nil) .nil) (.node (se 468) .nil .nil))) (.node (se 116) (.node (se 180) (.node (se 308) (.node (se 564) .nil .nil) .nil) (.node (se 436) .nil .nil)) (.node (se 244) (.node (se 372) .nil .nil) (.node (se 500) .nil .nil))))) (.node (se 28) (.node (se 44) (.node (se 76) (.node (se 140) (.node (se 268) (.node (se 524) .nil .nil) .nil) (.node (se 396) .nil .nil)) (.node (se 204) (.node (se 332) (.node (se 588) .nil .nil) .nil) (.node (se 460) .nil .nil))) (.node (se 108) (.node (se 172) (.node (se 300) (.node (se 556) .nil .nil) .nil) (.node (se 428) .nil .nil)) (.node (se 236) (.node (se 364) .nil .nil) (.node (se 492) .nil .nil)))) (.node (se 60) (.node (se 92) (.node (se 156) (.node (se 284) (.node (se 540) .nil .nil) .nil) (.node (se 412) .nil .nil)) (.node (se 220) (.node (se 348) .nil .nil) (.node (se 476) .nil .nil))) (.node (se 124) (.node (se 188) (.node (se 316) (.node (se 572) .nil .nil) .nil) (.node (se 444) .nil .nil)) (.node (se 252) (.node (se 380) .nil .nil) (.node (se 508) .nil .nil)))))))) (.node (PySem.W.boot_o_2 P) (.node (PySem.W.boot_o_4 P) (.node (PySem.W.boot_o_8 P) (.node (Pre.o_8 P) (.node tup0 (.node tup0 (.node tup0 (.node tup0 (.node tup0 .nil .nil) .nil) (.node tup0 .nil .nil)) (.node tup0 (.node tup0 (.node tup0 .nil .nil) .nil) (.node tup0 .nil .nil))) (.node tup0 (.node tup0 (.node tup0 (.node tup0 .nil .nil) .nil) (.node tup0 .nil .nil)) (.node tup0 (.node tup0 .nil .nil) (.node tup0 .nil .nil)))) (.node tup0 (.node tup0 (.node tup0 (.node tup0 (.node tup0 .nil .nil) .nil) (.node tup0 .nil .nil)) (.node tup0 (.node tup0 (.node tup0 .nil .nil) .nil) (.node tup0 .nil .nil))) (.node tup0 (.node tup0 (.node tup0 (.node tup0 .nil .nil) .nil) (.node tup0 .nil .nil)) (.node tup0 (.node tup0 .nil .nil) (.node tup0 .nil .nil))))) (.node r256 (.node tup0 (.node tup0 (.node tup0 (.node tup0 (.node tup0 .nil .nil) .nil) (.node tup0 .nil .nil)) (.node tup0 (.node tup0 (.node tup0 .nil .nil) .nil) (.node tup0 .nil .nil))) (.node tup0 (.node tup0 (.node tup0 (.node tup0 .nil .nil) .nil) (.node tup0 .nil .nil)) (.node tup0 (.node tup0 .nil .nil) (.node tup0 .nil .nil)))) (.node tup0 (.node tup0 (.node tup0 (.node tup0 (.node tup0 .nil .nil) .nil) (.node tup0 .nil .nil)) (.node tup0 (.node tup0 (.node tup0 .nil .nil) .nil) (.node tup0 .nil .nil))) (.node tup0 (.node tup0 (.node tup0 (.node tup0 .nil .nil) .nil) (.node tup0 .nil .nil)) (.node tup0 (.node tup0 .nil .nil) (.node tup0 .nil .nil)))))) (.node (Pre.o_6 P) (.node (Pre.o_12 P) (.node tup0 (.node tup0 (.node tup0 (.node tup0 (.node tup0 .nil .nil) .nil) (.node tup0 .nil .nil)) (.node tup0 (.node tup0 (.node tup0 .nil .nil) .nil) (.node tup0 .nil .nil))) (.node tup0 (.node tup0 (.node tup0 (.node tup0 .nil .nil) .nil) (.node tup0 .nil .nil)) (.node tup0 (.node tup0 .nil .nil) (.node tup0 .nil .nil)))) (.node tup0 (.node tup0 (.node tup0 (.node tup0 (.node tup0 .nil .nil) .nil) (.node tup0 .nil .nil)) (.node tup0 (.node tup0 (.node tup0 .nil .nil) .nil) (.node tup0 .nil .nil))) (.node tup0 (.node tup0 (.node tup0 (.node tup0 .nil .nil) .nil) (.node tup0 .nil .nil)) (.node tup0 (.node tup0 .nil .nil) (.node tup0 .nil .nil))))) (.node tup0 (.node tup0 (.node tup0 (.node tup0 (.node tup0 (.node tup0 .nil .nil) .nil) (.node tup0 .nil .nil)) (.node tup0 (.node tup0 (.node tup0 .nil .nil) .nil) (.node tup0 .nil .nil))) (.node tup0 (.node tup0 (.node tup0 (.node tup0 .nil .nil) .nil) (.node tup0 .nil .nil)) (.node tup0 (.node tup0 .nil .nil) (.node tup0 .nil .nil)))) (.node tup0 (.node tup0 (.node tup0 (.node tup0 (.node tup0 .nil .nil) .nil) (.node tup0 .nil .nil)) (.node tup0 (.node tup0 .nil .nil) (.node tup0 .nil .nil))) (.node tup0 (.node tup0 (.node tup0 (.node tup0 .nil .nil) .nil) (.node tup0 .nil .nil)) (.node tup0 (.node tup0 .nil .nil) (.node tup0 .nil .nil))))))) (.node (PySem.W.boot_o_6 P) (.node (PySem.W.boot_o_10 P) (.node (Pre.o_10 P) (.node (rg 335) (.node (rg 853) (.node (rg 1903) (.node (rg 4025) (.node (rg 8249) .nil .nil) .nil) (.node (rg 6127) .nil .nil)) (.node (rg 2959) (.node (rg 5077) (.node (rg 9303) .nil .nil) .nil) (.node (rg 7183) .nil .nil))) (.node (rg 1377) (.node (rg 2433) (.node (rg 4559) (.node (rg 8785) .nil .nil) .nil) (.node (rg 6657) .nil .nil)) (.node (rg 3491) (.node (rg 5601) .nil .nil) (.node (rg 7715) .nil .nil)))) (.node (rg 593) (.node (rg 1115) (.node (rg 2169) (.node (rg 4295) (.node (rg 8519) .nil .nil) .nil) (.node (rg 6393) .nil .nil)) (.node (rg 3225) (.node (rg 5339) (.node (rg 9565) .nil .nil) .nil) (.node (rg 7449) .nil .nil))) (.node (rg 1639) (.node (rg 2695) (.node (rg 4817) (.node (rg 9043) .nil .nil) .nil) (.node (rg 6919) .nil .nil)) (.node (rg 3757) (.node (rg 5863) .nil .nil) (.node (rg 7981) .nil .nil))))) (.node (rg 209) (.node (rg 465) (.node (rg 985) (.node (rg 2037) (.node (rg 4161) (.node (rg 8385) .nil .nil) .nil) (.node (rg 6261) .nil .nil)) (.node (rg 3093) (.node (rg 5209) (.node (rg 9433) .nil .nil) .nil) (.node (rg 7317) .nil .nil))) (.node (rg 1509) (.node (rg 2565) (.node (rg 4689) (.node (rg 8913) .nil .nil) .nil) (.node (rg 6789) .nil .nil)) (.node (rg 3625) (.node (rg 5733) .nil .nil) (.node (rg 7849) .nil .nil)))) (.node (rg 725) (.node (rg 1249) (.node (rg 2305) (.node (rg 4433) (.node (rg 8657) .nil .nil) .nil) (.node (rg 6529) .nil .nil)) (.node (rg 3361) (.node (rg 5473) .nil .nil) (.node (rg 7585) .nil .nil))) (.node (rg 1773) (.node (rg 2829) (.node (rg 4949) (.node (rg 9173) .nil .nil) .nil) (.node (rg 7053) .nil .nil)) (.node (rg 3893) (.node (rg 5997) .nil .nil) (.node (rg 8117) .nil .nil)))))) (.node (Pre.o_4 P) (.node (lc P 144) (.node (rg 399) (.node (rg 918) (.node (rg 1969) (.node (rg 4092) (.node (rg 8317) .nil .nil) .nil) (.node (rg 6194) .nil .nil)) (.node (rg 3025) (.node (rg 5143) (.node (rg 9367) .nil .nil) .nil) (.node (rg 7250) .nil .nil))) (.node (rg 1442) (.node (rg 2498) (.node (rg 4624) (.node (rg 8848) .nil .nil) .nil) (.node (rg 6723) .nil .nil)) (.node (rg 3557) (.node (rg 5667) .nil .nil) (.node (rg 7782) .nil .nil)))) (.node (rg 658) (.node (rg 1181) (.node (rg 2236) (.node (rg 4363) (.node (rg 8588) .nil .nil) .nil) (.node (rg 6461) .nil .nil)) (.node (rg 3292) (.node (rg 5406) (.node (rg 9630) .nil .nil) .nil) (.node (rg 7517) .nil .nil))) (.node (rg 1705) (.node (rg 2761) (.node (rg 4883) (.node (rg 9107) .nil .nil) .nil) (.node (rg 6986) .nil .nil)) (.node (rg 3824) (.node (rg 5930) .nil .nil) (.node (rg 8049) .nil .nil))))) (.node (rg 271) (.node (rg 528) (.node (rg 1049) (.node (rg 2102) (.node (rg 4227) (.node (rg 8452) .nil .nil) .nil) (.node (rg 6327) .nil .nil)) (.node (rg 3158) (.node (rg 5274) (.node (rg 9498) .nil .nil) .nil) (.node (rg 7383) .nil .nil))) (.node (rg 1573) (.node (rg 2629) (.node (rg 4753) (.node (rg 8977) .nil .nil) .nil) (.node (rg 6854) .nil .nil)) (.node (rg 3690) (.node (rg 5798) .nil .nil) (.node (rg 7915) .nil .nil)))) (.node (rg 788) (.node (rg 1312) (.node (rg 2368) (.node (rg 4496) (.node (rg 8720) .nil .nil) .nil) (.node (rg 6593) .nil .nil)) (.node (rg 3425) (.node (rg 5537) .nil .nil) (.node (rg 7650) .nil .nil))) (.node (rg 1837) (.node (rg 2893) (.node (rg 5013) (.node (rg 9237) .nil .nil) .nil) (.node (rg 7118) .nil .nil)) (.node (rg 3958) (.node (rg 6062) .nil .nil) (.node (rg 8183) .nil .nil)))))))))
noncomputable def B10 (P : Params) : BT := (.node (PySem.W.boot_o_0 P) (.node (PySem.W.boot_o_1 P) (.node (Pre.o_5 P) (.node (PySem.W.boot_o_7 P) (.node (Pre.o_7 P) (.node ri (.node ri (.node ri (.node ri (.node ri .nil .nil) .nil) (.node ri (.node ri .nil .nil) .nil)) (.node ri (.node ri (.node ri .nil .nil) .nil) (.node ri .nil .nil))) (.node ri (.node ri (.node ri (.node ri .nil .nil) .nil) (.node ri .nil .nil)) (.node ri (.node ri (.node ri .nil .nil) .nil) (.node ri .nil .nil)))) (.node ri (.node ri (.node ri (.node ri (.node ri .nil .nil) .nil) (.node ri (.node ri .nil .nil) .nil)) (.node ri (.node ri (.node ri .nil .nil) .nil) (.node ri .nil .nil))) (.node ri (.node ri (.node ri (.node ri .nil .nil) .nil) (.node ri .nil .nil)) (.node ri (.node ri (.node ri .nil .nil) .nil) (.node ri .nil .nil))))) (.node (ls 160) (.node ri (.node ri (.node ri (.node ri (.node ri .nil .nil) .nil) (.node ri (.node ri .nil .nil) .nil)) (.node ri (.node ri (.node ri .nil .nil) .nil) (.node ri .nil .nil))) (.node ri (.node ri (.node ri (.node ri .nil .nil) .nil) (.node ri .nil .nil)) (.node ri (.node ri (.node ri .nil .nil) .nil) (.node ri .nil .nil)))) (.node ri (.node ri (.node ri (.node ri (.node ri .nil .nil) .nil) (.node ri (.node ri .nil .nil) .nil)) (.node ri (.node ri (.node ri .nil .nil) .nil) (.node ri .nil .nil))) (.node ri (.node ri (.node ri (.node ri .nil .nil) .nil) (.node ri .nil .nil)) (.node ri (.node ri (.node ri .nil .nil) .nil) (.node ri .nil .nil)))))) (.node (Pre.o_1 P) (.node (Pre.o_11 P) (.node ri (.node ri (.node ri (.node ri (.node ri .nil .nil) .nil) (.node ri (.node ri .nil .nil) .nil)) (.node ri (.node ri (.node ri .nil .nil) .nil) (.node ri .nil .nil))) (.node ri (.node ri (.node ri (.node ri .nil .nil) .nil) (.node ri .nil .nil)) (.node ri (.node ri (.node ri .nil .nil) .nil) (.node ri .nil .nil)))) (.node ri (.node ri (.node ri (.node ri (.node ri .nil .nil) .nil) (.node ri (.node ri .nil .nil) .nil)) (.node ri (.node ri (.node ri .nil .nil) .nil) (.node ri .nil .nil))) (.node ri (.node ri (.node ri (.node ri .nil .nil) .nil) (.node ri .nil .nil)) (.node ri (.node ri (.node ri .nil .nil) .nil) (.node ri .nil .nil))))) (.node ri (.node ri (.node ri (.node ri (.node ri (.node ri .nil .nil) .nil) (.node ri (.node ri .nil .nil) .nil)) (.node ri (.node ri (.node ri .nil .nil) .nil) (.node ri .nil .nil))) (.node ri (.node ri (.node ri (.node ri .nil .nil) .nil) (.node ri .nil .nil)) (.node ri (.node ri (.node ri .nil .nil) .nil) (.node ri .nil .nil)))) (.node ri (.node ri (.node ri (.node ri (.node ri .nil .nil) .nil) (.node ri .nil .nil)) (.node ri (.node ri (.node ri .nil .nil) .nil) (.node ri .nil .nil))) (.node ri (.node ri (.node ri (.node ri .nil .nil) .nil) (.node ri .nil .nil)) (.node ri (.node ri (.node ri .nil .nil) .nil) (.node ri .nil .nil))))))) (.node (PySem.W.boot_o_5 P) (.node (PySem.W.boot_o_9 P) (.node (Pre.o_9 P) (.node (se 32) (.node (se 64) (.node (se 128) (.node (se 256) (.node (se 512) .nil .nil) .nil) (.node (se 384) (.node (se 640) .nil .nil) .nil)) (.node (se 192) (.node (se 320) (.node (se 576) .nil .nil) .nil) (.node (se 448) .nil .nil))) (.node (se 96) (.node (se 160) (.node (se 288) (.node (se 544) .nil .nil) .nil) (.node (se 416) .nil .nil)) (.node (se 224) (.node (se 352) (.node (se 608) .nil .nil) .nil) (.node (se 480) .nil .nil)))) (.node (se 48) (.node (se 80) (.node (se 144) (.node (se 272) (.node (se 528) .nil .nil) .nil) (.node (se 400) (.node (se 656) .nil .nil) .nil)) (.node (se 208) (.node (se 336) (.node (se 592) .nil .nil) .nil) (.node (se 464) .nil .nil))) (.node (se 112) (.node (se 176) (.node (se 304) (.node (se 560) .nil .nil) .nil) (.node (se 432) .nil .nil)) (.node (se 240) (.node (se 368) (.node (se 624) .nil .nil) .nil) (.node (se 496) .nil .nil))))) (.node (oi 160) (.node (se 40) (.node (se 72) (.node (se 136) (.node (se 264) (.node (se 520) .nil .nil) .nil) (.node (se 392) (.node (se 648) .nil .nil) .nil)) (.node (se 200) (.node (se 328) (.node (se 584) .nil .nil) .nil) (.node (se 456) .nil .nil))) (.node (se 104) (.node (se 168) (.node (se 296) (.node (se 552) .nil .nil) .nil) (.node (se 424) .nil .nil)) (.node (se 232) (.node (se 360) (.node (se 616) .nil .nil) .nil) (.node (se 488) .nil .nil)))) (.node (se 56) (.node (se 88) (.node (se 152) (.node (se 280) (.node (se 536) .nil .nil) .nil) (.node (se 408) (.node (se 664) .nil .nil) .nil)) (.node (se 216) (.node (se 344) (.node (se 600) .nil .nil) .nil) (.node (se 472) .nil .nil))) (.node (se 120) (.node (se 184) (.node (se 312) (.node (se 568) .nil .nil) .nil) (.node (se 440) .nil .nil)) (.node (se 248) (.node (se 376) (.node (se 632) .nil .nil) .nil) (.node (se 504) .nil .nil)))))) (.node (Pre.o_3 P) (.node (Pre.o_13 P) (.node (se 36) (.node (se 68) (.node (se 132) (.node (se 260) (.node (se 516) .nil .nil) .nil) (.node (se 388) (.node (se 644) .nil .nil) .nil)) (.node (se 196) (.node (se 324) (.node (se 580) .nil .nil) .nil) (.node (se 452) .nil .nil))) (.node (se 100) (.node (se 164) (.node (se 292) (.node (se 548) .nil .nil) .nil) (.node (se 420) .nil .nil)) (.node (se 228) (.node (se 356) (.node (se 612) .nil .nil) .nil) (.node (se 484) .nil .nil)))) (.node (se 52) (.node (se 84) (.node (se 148) (.node (se 276) (.node (se 532) .nil .nil) .nil) (.node (se 404) (.node (se 660) .nil .nil) .nil)) (.node (se 212) (.node (se 340) (.node (se 596) .nil .nil) .nil) (.node (se 468) .nil .nil))) (.node (se 116) (.node (se 180) (.node (se 308) (.node (se 564) .nil .nil) .nil) (.node (se 436) .nil .nil)) (.node (se 244) (.node (se 372) (.node (se 628) .nil .nil) .nil) (.node (se 500) .nil .nil))))) (.node (se 28) (.node (se 44) (.node (se 76) (.node (se 140) (.node (se 268) (.node (se 524) .nil .nil) .nil) (.node (se 396) (.node (se 652) .nil .nil) .nil)) (.node (se 204) (.node (se 332) (.node (se 588) .nil .nil) .nil) (.node (se 460) .nil .nil))) (.node (se 108) (.node (se 172) (.node (se 300) (.node (se 556) .nil .nil) .nil) (.node (se 428) .nil .nil)) (.node (se 236) (.node (se 364) (.node (se 620) .nil .nil) .nil) (.node (se 492) .nil .nil)))) (.node (se 60) (.node (se 92) (.node (se 156) (.node (se 284) (.node (se 540) .nil .nil) .nil) (.node (se 412) .nil .nil)) (.node (se 220) (.node (se 348) (.node (se 604) .nil .nil) .nil) (.node (se 476) .nil .nil))) (.node (se 124) (.node (se 188) (.node (se 316) (.node (se 572) .nil .nil) .nil) (.node (se 444) .nil .nil)) (.node (se 252) (.node (se 380) (.node (se 636) .nil .nil) .nil) (.node (se 508) .nil .nil)))))))) (.node (PySem.W.boot_o_2 P) (.node (PySem.W.boot_o_4 P) (.node (PySem.W.boot_o_8 P) (.node (Pre.o_8 P) (.node tup0 (.node tup0 (.node tup0 (.node tup0 (.node tup0 .nil .nil) .nil) (.node tup0 (.node tup0 .nil .nil) .nil)) (.node tup0 (.node tup0 (.node tup0 .nil .nil) .nil) (.node tup0 .nil .nil))) (.node tup0 (.node tup0 (.node tup0 (.node tup0 .nil .nil) .nil) (.node tup0 .nil .nil)) (.node tup0 (.node tup0 (.node tup0 .nil .nil) .nil) (.node tup0 .nil .nil)))) (.node tup0 (.node tup0 (.node tup0 (.node tup0 (.node tup0 .nil .nil) .nil) (.node tup0 (.node tup0 .nil .nil) .nil)) (.node tup0 (.node tup0 (.node tup0 .nil .nil) .nil) (.node tup0 .nil .nil))) (.node tup0 (.node tup0 (.node tup0 (.node tup0 .nil .nil) .nil) (.node tup0 .nil .nil)) (.node tup0 (.node tup0 (.node tup0 .nil .nil) .nil) (.node tup0 .nil .nil))))) (.node r256 (.node tup0 (.node tup0 (.node tup0 (.node tup0 (.node tup0 .nil .nil) .nil) (.node tup0 (.node tup0 .nil .nil) .nil)) (.node tup0 (.node tup0 (.node tup0 .nil .nil) .nil) (.node tup0 .nil .nil))) (.node tup0 (.node tup0 (.node tup0 (.node tup0 .nil .nil) .nil) (.node tup0 .nil .nil)) (.node tup0 (.node tup0 (.node tup0 .nil .nil) .nil) (.node tup0 .nil .nil)))) (.node tup0 (.node tup0 (.node tup0 (.node tup0 (.node tup0 .nil .nil) .nil) (.node tup0 (.node tup0 .nil .nil) .nil)) (.node tup0 (.node tup0 (.node tup0 .nil .nil) .nil) (.node tup0 .nil .nil))) (.node tup0 (.node tup0 (.node tup0 (.node tup0 .nil .nil) .nil) (.node tup0 .nil .nil)) (.node tup0 (.node tup0 (.node tup0 .nil .nil) .nil) (.node tup0 .nil .nil)))))) (.node (Pre.o_6 P) (.node (Pre.o_12 P) (.node tup0 (.node tup0 (.node tup0 (.node tup0 (.node tup0 .nil .nil) .nil) (.node tup0 (.node tup0 .nil .nil) .nil)) (.node tup0 (.node tup0 (.node tup0 .nil .nil) .nil) (.node tup0 .nil .nil))) (.node tup0 (.node tup0 (.node tup0 (.node tup0 .nil .nil) .nil) (.node tup0 .nil .nil)) (.node tup0 (.node tup0 (.node tup0 .nil .nil) .nil) (.node tup0 .nil .nil)))) (.node tup0 (.node tup0 (.node tup0 (.node tup0 (.node tup0 .nil .nil) .nil) (.node tup0 (.node tup0 .nil .nil) .nil)) (.node tup0 (.node tup0 (.node tup0 .nil .nil) .nil) (.node tup0 .nil .nil))) (.node tup0 (.node tup0 (.node tup0 (.node tup0 .nil .nil) .nil) (.node tup0 .nil .nil)) (.node tup0 (.node tup0 (.node tup0 .nil .nil) .nil) (.node tup0 .nil .nil))))) (.node tup0 (.node tup0 (.node tup0 (.node tup0 (.node tup0 (.node tup0 .nil .nil) .nil) (.node tup0 (.node tup0 .nil .nil) .nil)) (.node tup0 (.node tup0 (.node tup0 .nil .nil) .nil) (.node tup0 .nil .nil))) (.node tup0 (.node tup0 (.node tup0 (.node tup0 .nil .nil) .nil) (.node tup0 .nil .nil)) (.node tup0 (.node tup0 (.node tup0 .nil .nil) .nil) (.node tup0 .nil .nil)))) (.node tup0 (.node tup0 (.node tup0 (.node tup0 (.node tup0 .nil .nil) .nil) (.node tup0 .nil .nil)) (.node tup0 (.node tup0 (.node tup0 .nil .nil) .nil) (.node tup0 .nil .nil))) (.node tup0 (.node tup0 (.node tup0 (.node tup0 .nil .nil) .nil) (.node tup0 .nil .nil)) (.node tup0 (.node tup0 (.node tup0 .nil .nil) .nil) (.node tup0 .nil .nil))))))) (.node (PySem.W.boot_o_6 P) (.node (PySem.W.boot_o_10 P) (.node (Pre.o_10 P) (.node (rg 335) (.node (rg 853) (.node (rg 1903) (.node (rg 4025) (.node (rg 8249) .nil .nil) .nil) (.node (rg 6127) (.node (rg 10353) .nil .nil) .nil)) (.node (rg 2959) (.node (rg 5077) (.node (rg 9303) .nil .nil) .nil) (.node (rg 7183) .nil .nil))) (.node (rg 1377) (.node (rg 2433) (.node (rg 4559) (.node (rg 8785) .nil .nil) .nil) (.node (rg 6657) .nil .nil)) (.node (rg 3491) (.node (rg 5601) (.node (rg 9827) .nil .nil) .nil) (.node (rg 7715) .nil .nil)))) (.node (rg 593) (.node (rg 1115) (.node (rg 2169) (.node (rg 4295) (.node (rg 8519) .nil .nil) .nil) (.node (rg 6393) (.node (rg 10619) .nil .nil) .nil)) (.node (rg 3225) (.node (rg 5339) (.node (rg 9565) .nil .nil) .nil) (.node (rg 7449) .nil .nil))) (.node (rg 1639) (.node (rg 2695) (.node (rg 4817) (.node (rg 9043) .nil .nil) .nil) (.node (rg 6919) .nil .nil)) (.node (rg 3757) (.node (rg 5863) (.node (rg 10089) .nil .nil) .nil) (.node (rg 7981) .nil .nil))))) (.node (rg 209) (.node (rg 465) (.node (rg 985) (.node (rg 2037) (.node (rg 4161) (.node (rg 8385) .nil .nil) .nil) (.node (rg 6261) (.node (rg 10485) .nil .nil) .nil)) (.node (rg 3093) (.node (rg 5209) (.node (rg 9433) .nil .nil) .nil) (.node (rg 7317) .nil .nil))) (.node (rg 1509) (.node (rg 2565) (.node (rg 4689) (.node (rg 8913) .nil .nil) .nil) (.node (rg 6789) .nil .nil)) (.node (rg 3625) (.node (rg 5733) (.node (rg 9957) .nil .nil) .nil) (.node (rg 7849) .nil .nil)))) (.node (rg 725) (.node (rg 1249) (.node (rg 2305) (.node (rg 4433) (.node (rg 8657) .nil .nil) .nil) (.node (rg 6529) .nil .nil)) (.node (rg 3361) (.node (rg 5473) (.node (rg 9697) .nil .nil) .nil) (.node (rg 7585) .nil .nil))) (.node (rg 1773) (.node (rg 2829) (.node (rg 4949) (.node (rg 9173) .nil .nil) .nil) (.node (rg 7053) .nil .nil)) (.node (rg 3893) (.node (rg 5997) (.node (rg 10221) .nil .nil) .nil) (.node (rg 8117) .nil .nil)))))) (.node (Pre.o_4 P) (.node (lc P 160) (.node (rg 399) (.node (rg 918) (.node (rg 1969) (.node (rg 4092) (.node (rg 8317) .nil .nil) .nil) (.node (rg 6194) (.node (rg 10418) .nil .nil) .nil)) (.node (rg 3025) (.node (rg 5143) (.node (rg 9367) .nil .nil) .nil) (.node (rg 7250) .nil .nil))) (.node (rg 1442) (.node (rg 2498) (.node (rg 4624) (.node (rg 8848) .nil .nil) .nil) (.node (rg 6723) .nil .nil)) (.node (rg 3557) (.node (rg 5667) (.node (rg 9891) .nil .nil) .nil) (.node (rg 7782) .nil .nil)))) (.node (rg 658) (.node (rg 1181) (.node (rg 2236) (.node (rg 4363) (.node (rg 8588) .nil .nil) .nil) (.node (rg 6461) (.node (rg 10685) .nil .nil) .nil)) (.node (rg 3292) (.node (rg 5406) (.node (rg 9630) .nil .nil) .nil) (.node (rg 7517) .nil .nil))) (.node (rg 1705) (.node (rg 2761) (.node (rg 4883) (.node (rg 9107) .nil .nil) .nil) (.node (rg 6986) .nil .nil)) (.node (rg 3824) (.node (rg 5930) (.node (rg 10154) .nil .nil) .nil) (.node (rg 8049) .nil .nil))))) (.node (rg 271) (.node (rg 528) (.node (rg 1049) (.node (rg 2102) (.node (rg 4227) (.node (rg 8452) .nil .nil) .nil) (.node (rg 6327) (.node (rg 10551) .nil .nil) .nil)) (.node (rg 3158) (.node (rg 5274) (.node (rg 9498) .nil .nil) .nil) (.node (rg 7383) .nil .nil))) (.node (rg 1573) (.node (rg 2629) (.node (rg 4753) (.node (rg 8977) .nil .nil) .nil) (.node (rg 6854) .nil .nil)) (.node (rg 3690) (.node (rg 5798) (.node (rg 10022) .nil .nil) .nil) (.node (rg 7915) .nil .nil)))) (.node (rg 788) (.node (rg 1312) (.node (rg 2368) (.node (rg 4496) (.node (rg 8720) .nil .nil) .nil) (.node (rg 6593) .nil .nil)) (.node (rg 3425) (.node (rg 5537) (.node (rg 9761) .nil .nil) .nil) (.node (rg 7650) .nil .nil))) (.node (rg 1837) (.node (rg 2893) (.node (rg 5013) (.node (rg 9237) .nil .nil) .nil) (.node (rg 7118) .nil .nil)) (.node (rg 3958) (.node (rg 6062) (.node (rg 10286) .nil .nil) .nil) (.node (rg 8183) .nil .nil)))))))))
noncomputable def B11 (P : Params) : BT := (.node (PySem.W.boot_o_0 P) (.node (PySem.W.boot_o_1 P) (.node (Pre.o_5 P) (.node (PySem.W.boot_o_7 P) (.node (Pre.o_7 P) (.node ri (.node ri (.node ri (.node ri (.node ri .nil .nil) .nil) (.node ri (.node ri .nil .nil) .nil)) (.node ri (.node ri (.node ri .nil .nil) .nil) (.node ri (.node ri .nil .nil) .nil))) (.node ri (.node ri (.node ri (.node ri .nil .nil) .nil) (.node ri (.node ri .nil .nil) .nil)) (.node ri (.node ri (.node ri .nil .nil) .nil) (.node ri .nil .nil)))) (.node ri (.node ri (.node ri (.node ri (.node ri .nil .nil) .nil) (.node ri (.node ri .nil .nil) .nil)) (.node ri (.node ri (.node ri .nil .nil) .nil) (.node ri (.node ri .nil .nil) .nil))) (.node ri (.node ri (.node ri (.node ri .nil .nil) .nil) (.node ri (.node ri .nil .nil) .nil)) (.node ri (.node ri (.node ri .nil .nil) .nil) (.node ri .nil .nil))))) (.node (ls 176) (.node ri (.node ri (.node ri (.node ri (.node ri .nil .nil) .nil) (.node ri (.node ri .nil .nil) .nil)) (.node ri (.node ri (.node ri .nil .nil) .nil) (.node ri (.node ri .nil .nil) .nil))) (.node ri (.node ri (.node ri (.node ri .nil .nil) .nil) (.node ri (.node ri .nil .nil) .nil)) (.node ri (.node ri (.node ri .nil .nil) .nil) (.node ri .nil .nil)))) (.node ri (.node ri (.node ri (.node ri (.node ri .nil .nil) .nil) (.node ri (.node ri .nil .nil) .nil)) (.node ri (.node ri (.node ri .nil .nil) .nil) (.node ri (.node ri .nil .nil) .nil))) (.node ri (.node ri (.node ri (.node ri .nil .nil) .nil) (.node ri (.node ri .nil .nil) .nil)) (.node ri (.node ri (.node ri .nil .nil) .nil) (.node ri .nil .nil)))))) (.node (Pre.o_1 P) (.node (Pre.o_11 P) (.node ri (.node ri (.node ri (.node ri (.node ri .nil .nil) .nil) (.node ri (.node ri .nil .nil) .nil)) (.node ri (.node ri (.node ri .nil .nil) .nil) (.node ri (.node ri .nil .nil) .nil))) (.node ri (.node ri (.node ri (.node ri .nil .nil) .nil) (.node ri (.node ri .nil .nil) .nil)) (.node ri (.node ri (.node ri .nil .nil) .nil) (.node ri .nil .nil)))) (.node ri (.node ri (.node ri (.node ri (.node ri .nil .nil) .nil) (.node ri (.node ri .nil .nil) .nil)) (.node ri (.node ri (.node ri .nil .nil) .nil) (.node ri (.node ri .nil .nil) .nil))) (.node ri (.node ri (.node ri (.node ri .nil .nil) .nil) (.node ri (.node ri .nil .nil) .nil)) (.node ri (.node ri (.node ri .nil .nil) .nil) (.node ri .nil .nil))))) (.node ri (.node ri (.node ri (.node ri (.node ri (.node ri .nil .nil) .nil) (.node ri (.node ri .nil .nil) .nil)) (.node ri (.node ri (.node ri .nil .nil) .nil) (.node ri (.node ri .nil .nil) .nil))) (.node ri (.node ri (.node ri (.node ri .nil .nil) .nil) (.node ri (.node ri .nil .nil) .nil)) (.node ri (.node ri (.node ri .nil .nil) .nil) (.node ri .nil .nil)))) (.node ri (.node ri (.node ri (.node ri (.node ri .nil .nil) .nil) (.node ri (.node ri .nil .nil) .nil)) (.node ri (.node ri (.node ri .nil .nil) .nil) (.node ri .nil .nil))) (.node ri (.node ri (.node ri (.node ri .nil .nil) .nil) (.node ri (.node ri .nil .nil) .nil)) (.node ri (.node ri (.node ri .nil .nil) .nil) (.node ri .nil .nil))))))) (.node (PySem.W.boot_o_5 P) (.node (PySem.W.boot_o_9 P) (.node (Pre.o_9 P) (.node (se 32) (.node (se 64) (.node (se 128) (.node (se 256) (.node (se 512) .nil .nil) .nil) (.node (se 384) (.node (se 640) .nil .nil) .nil)) (.node (se 192) (.node (se 320) (.node (se 576) .nil .nil) .nil) (.node (se 448) (.node (se 704) .nil .nil) .nil))) (.node (se 96) (.node (se 160) (.node (se 288) (.node (se 544) .nil .nil) .nil) (.node (se 416) (.node (se 672) .nil .nil) .nil)) (.node (se 224) (.node (se 352) (.node (se 608) .nil .nil) .nil) (.node (se 480) .nil .nil)))) (.node (se 48) (.node (se 80) (.node (se 144) (.node (se 272) (.node (se 528) .nil .nil) .nil) (.node (se 400) (.node (se 656) .nil .nil) .nil)) (.node (se 208) (.node (se 336) (.node (se 592) .nil .nil) .nil) (.node (se 464) (.node (se 720) .nil .nil) .nil))) (.node (se 112) (.node (se 176) (.node (se 304) (.node (se 560) .nil .nil) .nil) (.node (se 432) (.node (se 688) .nil .nil) .nil)) (.node (se 240) (.node (se 368) (.node (se 624) .nil .nil) .nil) (.node (se 496) .nil .nil))))) (.node (oi 176) (.node (se 40) (.node (se 72) (.node (se 136) (.node (se 264) (.node (se 520) .nil .nil) .nil) (.node (se 392) (.node (se 648) .nil .nil) .nil)) (.node (se 200) (.node (se 328) (.node (se 584) .nil .nil) .nil) (.node (se 456) (.node (se 712) .nil .nil) .nil))) (.node (se 104) (.node (se 168) (.node (se 296) (.node (se 552) .nil .nil) .nil) (.node (se 424) (.node (se 680) .nil .nil) .nil)) (.node (se 232) (.node (se 360) (.node (se 616) .nil .nil) .nil) (.node (se 488) .nil .nil)))) (.node (se 56) (.node (se 88) (.node (se 152) (.node (se 280) (.node (se 536) .nil .nil) .nil) (.node (se 408) (.node (se 664) .nil .nil) .nil)) (.node (se 216) (.node (se 344) (.node (se 600) .nil .nil) .nil) (.node (se 472) (.node (se 728) .nil .nil) .nil))) (.node (se 120) (.node (se 184) (.node (se 312) (.node (se 568) .nil .nil) .nil) (.node (se 440) (.node (se 696) .nil .nil) .nil)) (.node (se 248) (.node (se 376) (.node (se 632) .nil .nil) .nil) (.node (se 504) .nil .nil)))))) (.node (Pre.o_3 P) (.node (Pre.o_13 P) (.node (se 36) (.node (se 68) (.node (se 132) (.node (se 260) (.node (se 516) .nil .nil) .nil) (.node (se 388) (.node (se 644) .nil .nil) .nil)) (.node (se 196) (.node (se 324) (.node (se 580) .nil .nil) .nil) (.node (se 452) (.node (se 708) .nil .nil) .nil))) (.node (se 100) (.node (se 164) (.node (se 292) (.node (se 548) .nil .nil) .nil) (.node (se 420) (.node (se 676) .nil .nil) .nil)) (.node (se 228) (.node (se 356) (.node (se 612) .nil .nil) .nil) (.node (se 484) .nil .nil)))) (.node (se 52) (.node (se 84) (.node (se 148) (.node (se 276) (.node (se 532) .nil .nil) .nil) (.node (se 404) (.node (se 660) .nil .nil) .nil)) (.node (se 212) (.node (se 340) (.node (se 596) .nil .nil) .nil) (.node (se 468) (.node (se 724) .nil .nil) .nil))) (.node (se 116) (.node (se 180) (.node (se 308) (.node (se 564) .nil .nil) .nil) (.node (se 436) (.node (se 692) .nil .nil) .nil)) (.node (se 244) (.node (se 372) (.node (se 628) .nil .nil) .nil) (.node (se 500) .nil .nil))))) (.node (se 28) (.node (se 44) (.node (se 76) (.node (se 140) (.node (se 268) (.node (se 524) .nil .nil) .nil) (.node (se 396) (.node (se 652) .nil .nil) .nil)) (.node (se 204) (.node (se 332) (.node (se 588) .nil .nil) .nil) (.node (se 460) (.node (se 716) .nil .nil) .nil))) (.node (se 108) (.node (se 172) (.node (se 300) (.node (se 556) .nil .nil) .nil) (.node (se 428) (.node (se 684) .nil .nil) .nil)) (.node (se 236) (.node (se 364) (.node (se 620) .nil .nil) .nil) (.node (se 492) .nil .nil)))) (.node (se 60) (.node (se 92) (.node (se 156) (.node (se 284) (.node (se 540) .nil .nil) .nil) (.node (se 412) (.node (se 668) .nil .nil) .nil)) (.node (se 220) (.node (se 348) (.node (se 604) .nil .nil) .nil) (.node (se 476) .nil .nil))) (.node (se 124) (.node (se 188) (.node (se 316) (.node (se 572) .nil .nil) .nil) (.node (se 444) (.node (se 700) .nil .nil) .nil)) (.node (se 252) (.node (se 380) (.node (se 636) .nil .nil) .nil) (.node (se 508) .nil .nil)))))))) (.node (PySem.W.boot_o_2 P) (.node (PySem.W.boot_o_4 P) (.node (PySem.W.boot_o_8 P) (.node (Pre.o_8 P) (.node tup0 (.node tup0 (.node tup0 (.node tup0 (.node tup0 .nil .nil) .nil) (.node tup0 (.node tup0 .nil .nil) .nil)) (.node tup0 (.node tup0 (.node tup0 .nil .nil) .nil) (.node tup0 (.node tup0 .nil .nil) .nil))) (.node tup0 (.node tup0 (.node tup0 (.node tup0 .nil .nil) .nil) (.node tup0 (.node tup0 .nil .nil) .nil)) (.node tup0 (.node tup0 (.node tup0 .nil .nil) .nil) (.node tup0 .nil .nil)))) (.node tup0 (.node tup0 (.node tup0 (.node tup0 (.node tup0 .nil .nil) .nil) (.node tup0 (.node tup0 .nil .nil) .nil)) (.node tup0 (.node tup0 (.node tup0 .nil .nil) .nil) (.node tup0 (.node tup0 .nil .nil) .nil))) (.node tup0 (.node tup0 (.node tup0 (.node tup0 .nil .nil) .nil) (.node tup0 (.node tup0 .nil .nil) .nil)) (.node tup0 (.node tup0 (.node tup0 .nil .nil) .nil) (.node tup0 .nil .nil))))) (.node r256 (.node tup0 (.node tup0 (.node tup0 (.node tup0 (.node tup0 .nil .nil) .nil) (.node tup0 (.node tup0 .nil .nil) .nil)) (.node tup0 (.node tup0 (.node tup0 .nil .nil) .nil) (.node tup0 (.node tup0 .nil .nil) .nil))) (.node tup0 (.node tup0 (.node tup0 (.node tup0 .nil .nil) .nil) (.node tup0 (.node tup0 .nil .nil) .nil)) (.node tup0 (.node tup0 (.node tup0 .nil .nil) .nil) (.node tup0 .nil .nil)))) (.node tup0 (.node tup0 (.node tup0 (.node tup0 (.node tup0 .nil .nil) .nil) (.node tup0 (.node tup0 .nil .nil) .nil)) (.node tup0 (.node tup0 (.node tup0 .nil .nil) .nil) (.node tup0 (.node tup0 .nil .nil) .nil))) (.node tup0 (.node tup0 (.node tup0 (.node tup0 .nil .nil) .nil) (.node tup0 (.node tup0 .nil .nil) .nil)) (.node tup0 (.node tup0 (.node tup0 .nil .nil) .nil) (.node tup0 .nil .nil)))))) (.node (Pre.o_6 P) (.node (Pre.o_12 P) (.node tup0 (.node tup0 (.node tup0 (.node tup0 (.node tup0 .nil .nil) .nil) (.node tup0 (.node tup0 .nil .nil) .nil)) (.node tup0 (.node tup0 (.node tup0 .nil .nil) .nil) (.node tup0 (.node tup0 .nil .nil) .nil))) (.node tup0 (.node tup0 (.node tup0 (.node tup0 .nil .nil) .nil) (.node tup0 (.node tup0 .nil .nil) .nil)) (.node tup0 (.node tup0 (.node tup0 .nil .nil) .nil) (.node tup0 .nil .nil)))) (.node tup0 (.node tup0 (.node tup0 (.node tup0 (.node tup0 .nil .nil) .nil) (.node tup0 (.node tup0 .nil .nil) .nil)) (.node tup0 (.node tup0 (.node tup0 .nil .nil) .nil) (.node tup0 (.node tup0 .nil .nil) .nil))) (.node tup0 (.node tup0 (.node tup0 (.node tup0 .nil .nil) .nil) (.node tup0 (.node tup0 .nil .nil) .nil)) (.node tup0 (.node tup0 (.node tup0 .nil .nil) .nil) (.node tup0 .nil .nil))))) (.node tup0 (.node tup0 (.node tup0 (.node tup0 (.node tup0 (.node tup0 .nil .nil) .nil) (.node tup0 (.node tup0 .nil .nil) .nil)) (.node tup0 (.node tup0 (.node tup0 .nil .nil) .nil) (.node tup0 (.node tup0 .nil .nil) .nil))) (.node tup0 (.node tup0 (.node tup0 (.node tup0 .nil .nil) .nil) (.node tup0 (.node tup0 .nil .nil) .nil)) (.node tup0 (.node tup0 (.node tup0 .nil .nil) .nil) (.node tup0 .nil .nil)))) (.node tup0 (.node tup0 (.node tup0 (.node tup0 (.node tup0 .nil .nil) .nil) (.node tup0 (.node tup0 .nil .nil) .nil)) (.node tup0 (.node tup0 (.node tup0 .nil .nil) .nil) (.node tup0 .nil .nil))) (.node tup0 (.node tup0 (.node tup0 (.node tup0 .nil .nil) .nil) (.node tup0 (.node tup0 .nil .nil) .nil)) (.node tup0 (.node tup0 (.node tup0 .nil .nil) .nil) (.node tup0 .nil .nil))))))) (.node (PySem.W.boot_o_6 P) (.node (PySem.W.boot_o_10 P) (.node (Pre.o_10 P) (.node (rg 335) (.node (rg 853) (.node (rg 1903) (.node (rg 4025) (.node (rg 8249) .nil .nil) .nil) (.node (rg 6127) (.node (rg 10353) .nil .nil) .nil)) (.node (rg 2959) (.node (rg 5077) (.node (rg 9303) .nil .nil) .nil) (.node (rg 7183) (.node (rg 11409) .nil .nil) .nil))) (.node (rg 1377) (.node (rg 2433) (.node (rg 4559) (.node (rg 8785) .nil .nil) .nil) (.node (rg 6657) (.node (rg 10883) .nil .nil) .nil)) (.node (rg 3491) (.node (rg 5601) (.node (rg 9827) .nil .nil) .nil) (.node (rg 7715) .nil .nil)))) (.node (rg 593) (.node (rg 1115) (.node (rg 2169) (.node (rg 4295) (.node (rg 8519) .nil .nil) .nil) (.node (rg 6393) (.node (rg 10619) .nil .nil) .nil)) (.node (rg 3225) (.node (rg 5339) (.node (rg 9565) .nil .nil) .nil) (.node (rg 7449) (.node (rg 11675) .nil .nil) .nil))) (.node (rg 1639) (.node (rg 2695) (.node (rg 4817) (.node (rg 9043) .nil .nil) .nil) (.node (rg 6919) (.node (rg 11145) .nil .nil) .nil)) (.node (rg 3757) (.node (rg 5863) (.node (rg 10089) .nil .nil) .nil) (.node (rg 7981) .nil .nil))))) (.node (rg 209) (.node (rg 465) (.node (rg 985) (.node (rg 2037) (.node (rg 4161) (.node (rg 8385) .nil .nil) .nil) (.node (rg 6261) (.node (rg 10485) .nil .nil) .nil)) (.node (rg 3093) (.node (rg 5209) (.node (rg 9433) .nil .nil) .nil) (.node (rg 7317) (.node (rg 11541) .nil .nil) .nil))) (.node (rg 1509) (.node (rg 2565) (.node (rg 4689) (.node (rg 8913) .nil .nil) .nil) (.node (rg 6789) (.node (rg 11013) .nil .nil) .nil)) (.node (rg 3625) (.node (rg 5733) (.node (rg 9957) .nil .nil) .nil) (.node (rg 7849) .nil .nil)))) (.node (rg 725) (.node (rg 1249) (.node (rg 2305) (.node (rg 4433) (.node (rg 8657) .nil .nil) .nil) (.node (rg 6529) (.node (rg 10753) .nil .nil) .nil)) (.node (rg 3361) (.node (rg 5473) (.node (rg 9697) .nil .nil) .nil) (.node (rg 7585) .nil .nil))) (.node (rg 1773) (.node (rg 2829) (.node (rg 4949) (.node (rg 9173) .nil .nil) .nil) (.node (rg 7053) (.node (rg 11277) .nil .nil) .nil)) (.node (rg 3893) (.node (rg 5997) (.node (rg 10221) .nil .nil) .nil) (.node (rg 8117) .nil .nil)))))) (.node (Pre.o_4 P) (.node (lc P 176) (.node (rg 399) (.node (rg 918) (.node (rg 1969) (.node (rg 4092) (.node (rg 8317) .nil .nil) .nil) (.node (rg 6194) (.node (rg 10418) .nil .nil) .nil)) (.node (rg 3025) (.node (rg 5143) (.node (rg 9367) .nil .nil) .nil) (.node (rg 7250) (.node (rg 11474) .nil .nil) .nil))) (.node (rg 1442) (.node (rg 2498) (.node (rg 4624) (.node (rg 8848) .nil .nil) .nil) (.node (rg 6723) (.node (rg 10947) .nil .nil) .nil)) (.node (rg 3557) (.node (rg 5667) (.node (rg 9891) .nil .nil) .nil) (.node (rg 7782) .nil .nil)))) (.node (rg 658) (.node (rg 1181) (.node (rg 2236) (.node (rg 4363) (.node (rg 8588) .nil .nil) .nil) (.node (rg 6461) (.node (rg 10685) .nil .nil) .nil)) (.node (rg 3292) (.node (rg 5406) (.node (rg 9630) .nil .nil) .nil) (.node (rg 7517) (.node (rg 11741) .nil .nil) .nil))) (.node (rg 1705) (.node (rg 2761) (.node (rg 4883) (.node (rg 9107) .nil .nil) .nil) (.node (rg 6986) (.node (rg 11210) .nil .nil) .nil)) (.node (rg 3824) (.node (rg 5930) (.node (rg 10154) .nil .nil) .nil) (.node (rg 8049) .nil .nil))))) (.node (rg 271) (.node (rg 528) (.node (rg 1049) (.node (rg 2102) (.node (rg 4227) (.node (rg 8452) .nil .nil) .nil) (.node (rg 6327) (.node (rg 10551) .nil .nil) .nil)) (.node (rg 3158) (.node (rg 5274) (.node (rg 9498) .nil .nil) .nil) (.node (rg 7383) (.node (rg 11607) .nil .nil) .nil))) (.node (rg 1573) (.node (rg 2629) (.node (rg 4753) (.node (rg 8977) .nil .nil) .nil) (.node (rg 6854) (.node (rg 11078) .nil .nil) .nil)) (.node (rg 3690) (.node (rg 5798) (.node (rg 10022) .nil .nil) .nil) (.node (rg 7915) .nil .nil)))) (.node (rg 788) (.node (rg 1312) (.node (rg 2368) (.node (rg 4496) (.node (rg 8720) .nil .nil) .nil) (.node (rg 6593) (.node (rg 10817) .nil .nil) .nil)) (.node (rg 3425) (.node (rg 5537) (.node (rg 9761) .nil .nil) .nil) (.node (rg 7650) .nil .nil))) (.node (rg 1837) (.node (rg 2893) (.node (rg 5013) (.node (rg 9237) .nil .nil) .nil) (.node (rg 7118) (.node (rg 11342) .nil .nil) .nil)) (.node (rg 3958) (.node (rg 6062) (.node (rg 10286) .nil .nil) .nil) (.node (rg 8183) .nil .nil)))))))))
noncomputable def B12 (P : Params) : BT := (.node (PySem.W.boot_o_0 P) (.node (PySem.W.boot_o_1 P) (.node (Pre.o_5 P) (.node (PySem.W.boot_o_7 P) (.node (Pre.o_7 P) (.node ri (.node ri (.node ri (.node ri (.node ri .nil .nil) (.node ri .nil .nil)) (.node ri (.node ri .nil .nil) .nil)) (.node ri (.node ri (.node ri .nil .nil) .nil) (.node ri (.node ri .nil .nil) .nil))) (.node ri (.node ri (.node ri (.node ri .nil .nil) .nil) (.node ri (.node ri .nil .nil) .nil)) (.node ri (.node ri (.node ri .nil .nil) .nil) (.node ri (.node ri .nil .nil) .nil)))) (.node ri (.node ri (.node ri (.node ri (.node ri .nil .nil) (.node ri .nil .nil)) (.node ri (.node ri .nil .nil) .nil)) (.node ri (.node ri (.node ri .nil .nil) .nil) (.node ri (.node ri .nil .nil) .nil))) (.node ri (.node ri (.node ri (.node ri .nil .nil) .nil) (.node ri (.node ri .nil .nil) .nil)) (.node ri (.node ri (.node ri .nil .nil) .nil) (.node ri (.node ri .nil .nil) .nil))))) (.node (ls 192) (.node ri (.node ri (.node ri (.node ri (.node ri .nil .nil) (.node ri .nil .nil)) (.node ri (.node ri .nil .nil) .nil)) (.node ri (.node ri (.node ri .nil .nil) .nil) (.node ri (.node ri .nil .nil) .nil))) (.node ri (.node ri (.node ri (.node ri .nil .nil) .nil) (.node ri (.node ri .nil .nil) .nil)) (.node ri (.node ri (.node ri .nil .nil) .nil) (.node ri (.node ri .nil .nil) .nil)))) (.node ri (.node ri (.node ri (.node ri (.node ri .nil .nil) (.node ri .nil .nil)) (.node ri (.node ri .nil .nil) .nil)) (.node ri (.node ri (.node ri .nil .nil) .nil) (.node ri (.node ri .nil .nil) .nil))) (.node ri (.node ri (.node ri (.node ri .nil .nil) .nil) (.node ri (.node ri .nil .nil) .nil)) (.node ri (.node ri (.node ri .nil .nil) .nil) (.node ri (.node ri .nil .nil) .nil)))))) (.node (Pre.o_1 P) (.node (Pre.o_11 P) (.node ri (.node ri (.node ri (.node ri (.node ri .nil .nil) (.node ri .nil .nil)) (.node ri (.node ri .nil .nil) .nil)) (.node ri (.node ri (.node ri .nil .nil) .nil) (.node ri (.node ri .nil .nil) .nil))) (.node ri (.node ri (.node ri (.node ri .nil .nil) .nil) (.node ri (.node ri .nil .nil) .nil)) (.node ri (.node ri (.node ri .nil .nil) .nil) (.node ri (.node ri .nil .nil) .nil)))) (.node ri (.node ri (.node ri (.node ri (.node ri .nil .nil) (.node ri .nil .nil)) (.node ri (.node ri .nil .nil) .nil)) (.node ri (.node ri (.node ri .nil .nil) .nil) (.node ri (.node ri .nil .nil) .nil))) (.node ri (.node ri (.node ri (.node ri .nil .nil) .nil) (.node ri (.node ri .nil .nil) .nil)) (.node ri (.node ri (.node ri .nil .nil) .nil) (.node ri (.node ri .nil .nil) .nil))))) (.node ri (.node ri (.node ri (.node ri (.node ri (.node ri .nil .nil) (.node ri .nil .nil)) (.node ri (.node ri .nil .nil) .nil)) (.node ri (.node ri (.node ri .nil .nil) .nil) (.node ri (.node ri .nil .nil) .nil))) (.node ri (.node ri (.node ri (.node ri .nil .nil) .nil) (.node ri (.node ri .nil .nil) .nil)) (.node ri (.node ri (.node ri .nil .nil) .nil) (.node ri (.node ri .nil .nil) .nil)))) (.node ri (.node ri (.node ri (.node ri (.node ri .nil .nil) .nil) (.node ri (.node ri .nil .nil) .nil)) (.node ri (.node ri (.node ri .nil .nil) .nil) (.node ri (.node ri .nil .nil) .nil))) (.node ri (.node ri (.node ri (.node ri .nil .nil) .nil) (.node ri (.node ri .nil .nil) .nil)) (.node ri (.node ri (.node ri .nil .nil) .nil) (.node ri (.node ri .nil .nil) .nil))))))) (.node (PySem.W.boot_o_5 P) (.node (PySem.W.boot_o_9 P) (.node (Pre.o_9 P) (.node (se 32) (.node (se 64) (.node (se 128) (.node (se 256) (.node (se 512) .nil .nil) (.node (se 768) .nil .nil)) (.node (se 384) (.node (se 640) .nil .nil) .nil)) (.node (se 192) (.node (se 320) (.node (se 576) .nil .nil) .nil) (.node (se 448) (.node (se 704) .nil .nil) .nil))) (.node (se 96) (.node (se 160) (.node (se 288) (.node (se 544) .nil .nil) .nil) (.node (se 416) (.node (se 672) .nil .nil) .nil)) (.node (se 224) (.node (se 352) (.node (se 608) .nil .nil) .nil) (.node (se 480) (.node (se 736) .nil .nil) .nil)))) (.node (se 48) (.node (se 80) (.node (se 144) (.node (se 272) (.node (se 528) .nil .nil) (.node (se 784) .nil .nil)) (.node (se 400) (.node (se 656) .nil .nil) .nil)) (.node (se 208) (.node (se 336) (.node (se 592) .nil .nil) .nil) (.node (se 464) (.node (se 720) .nil .nil) .nil))) (.node (se 112) (.node (se 176) (.node (se 304) (.node (se 560) .nil .nil) .nil) (.node (se 432) (.node (se 688) .nil .nil) .nil)) (.node (se 240) (.node (se 368) (.node (se 624) .nil .nil) .nil) (.node (se 496) (.node (se 752) .nil .nil) .nil))))) (.node (oi 192) (.node (se 40) (.node (se 72) (.node (se 136) (.node (se 264) (.node (se 520) .nil .nil) (.node (se 776) .nil .nil)) (.node (se 392) (.node (se 648) .nil .nil) .nil)) (.node (se 200) (.node (se 328) (.node (se 584) .nil .nil) .nil) (.node (se 456) (.node (se 712) .nil .nil) .nil))) (.node (se 104) (.node (se 168) (.node (se 296) (.node (se 552) .nil .nil) .nil) (.node (se 424) (.node (se 680) .nil .nil) .nil)) (.node (se 232) (.node (se 360) (.node (se 616) .nil .nil) .nil) (.node (se 488) (.node (se 744) .nil .nil) .nil)))) (.node (se 56) (.node (se 88) (.node (se 152) (.node (se 280) (.node (se 536) .nil .nil) (.node (se 792) .nil .nil)) (.node (se 408) (.node (se 664) .nil .nil) .nil)) (.node (se 216) (.node (se 344) (.node (se 600) .nil .nil) .nil) (.node (se 472) (.node (se 728) .nil .nil) .nil))) (.node (se 120) (.node (se 184) (.node (se 312) (.node (se 568) .nil .nil) .nil) (.node (se 440) (.node (se 696) .nil .nil) .nil)) (.node (se 248) (.node (se 376) (.node (se 632) .nil .nil) .nil) (.node (se 504) (.node (se 760) .nil .nil) .nil)))))) (.node (Pre.o_3 P) (.node (Pre.o_13 P) (.node (se 36) (.node (se 68) (.node (se 132) (.node (se 260) (.node (se 516) .nil .nil) (.node (se 772) .nil .nil)) (.node (se 388) (.node (se 644) .nil .nil) .nil)) (.node (se 196) (.node (se 324) (.node (se 580) .nil .nil) .nil) (.node (se 452) (.node (se 708) .nil .nil) .nil))) (.node (se 100) (.node (se 164) (.node (se 292) (.node (se 548) .nil .nil) .nil) (.node (se 420) (.node (se 676) .nil .nil) .nil)) (.node (se 228) (.node (se 356) (.node (se 612) .nil .nil) .nil) (.node (se 484) (.node (se 740) .nil .nil) .nil)))) (.node (se 52) (.node (se 84) (.node (se 148) (.node (se 276) (.node (se 532) .nil .nil) (.node (se 788) .nil .nil)) (.node (se 404) (.node (se 660) .nil .nil) .nil)) (.node (se 212) (.node (se 340) (.node (se 596) .nil .nil) .nil) (.node (se 468) (.node (se 724) .nil .nil) .nil))) (.node (se 116) (.node (se 180) (.node (se 308) (.node (se 564) .nil .nil) .nil) (.node (se 436) (.node (se 692) .nil .nil) .nil)) (.node (se 244) (.node (se 372) (.node (se 628) .nil .nil) .nil) (.node (se 500) (.node (se 756) .nil .nil) .nil))))) (.node (se 28) (.node (se 44) (.node (se 76) (.node (se 140) (.node (se 268) (.node (se 524) .nil .nil) (.node (se 780) .nil .nil)) (.node (se 396) (.node (se 652) .nil .nil) .nil)) (.node (se 204) (.node (se 332) (.node (se 588) .nil .nil) .nil) (.node (se 460) (.node (se 716) .nil .nil) .nil))) (.node (se 108) (.node (se 172) (.node (se 300) (.node (se 556) .nil .nil) .nil) (.node (se 428) (.node (se 684) .nil .nil) .nil)) (.node (se 236) (.node (se 364) (.node (se 620) .nil .nil) .nil) (.node (se 492) (.node (se 748) .nil .nil) .nil)))) (.node (se 60) (.node (se 92) (.node (se 156) (.node (se 284) (.node (se 540) .nil .nil) .nil) (.node (se 412) (.node (se 668) .nil .nil) .nil)) (.node (se 220) (.node (se 348) (.node (se 604) .nil .nil) .nil) (.node (se 476) (.node (se 732) .nil .nil) .nil))) (.node (se 124) (.node (se 188) (.node (se 316) (.node (se 572) .nil .nil) .nil) (.node (se 444) (.node (se 700) .nil .nil) .nil)) (.node (se 252) (.node (se 380) (.node (se 636) .nil .nil) .nil) (.node (se 508) (.node (se 764) .nil .nil) .nil)))))))) (.node (PySem.W.boot_o_2 P) (.node (PySem.W.boot_o_4 P) (.node (PySem.W.boot_o_8 P) (.node (Pre.o_8 P) (.node tup0 (.node tup0 (.node tup0 (.node tup0 (.node tup0 .nil .nil) (.node tup0 .nil .nil)) (.node tup0 (.node tup0 .nil .nil) .nil)) (.node tup0 (.node tup0 (.node tup0 .nil .nil) .nil) (.node tup0 (.node tup0 .nil .nil) .nil))) (.node tup0 (.node tup0 (.node tup0 (.node tup0 .nil .nil) .nil) (.node tup0 (.node tup0 .nil .nil) .nil)) (.node tup0 (.node tup0 (.node tup0 .nil .nil) .nil) (.node tup0 (.node tup0 .nil .nil) .nil)))) (.node tup0 (.node tup0 (.node tup0 (.node tup0 (.node tup0 .nil .nil) (.node tup0 .nil .nil)) (.node tup0 (.node tup0 .nil .nil) .nil)) (.node tup0 (.node tup0 (.node tup0 .nil .nil) .nil) (.node tup0 (.node tup0 .nil .nil) .nil))) (.node tup0 (.node tup0 (.node tup0 (.node tup0 .nil .nil) .nil) (.node tup0 (.node tup0 .nil .nil) .nil)) (.node tup0 (.node tup0 (.node tup0 .nil .nil) .nil) (.node tup0 (.node tup0 .nil .nil) .nil))))) (.node r256 (.node tup0 (.node tup0 (.node tup0 (.node tup0 (.node tup0 .nil .nil) (.node tup0 .nil .nil)) (.node tup0 (.node tup0 .nil .nil) .nil)) (.node tup0 (.node tup0 (.node tup0 .nil .nil) .nil) (.node tup0 (.node tup0 .nil .nil) .nil))) (.node tup0 (.node tup0 (.node tup0 (.node tup0 .nil .nil) .nil) (.node tup0 (.node tup0 .nil .nil) .nil)) (.node tup0 (.node tup0 (.node tup0 .nil .nil) .nil) (.node tup0 (.node tup0 .nil .nil) .nil)))) (.node tup0 (.node tup0 (.node tup0 (.node tup0 (.node tup0 .nil .nil) (.node tup0 .nil .nil)) (.node tup0 (.node tup0 .nil .nil) .nil)) (.node tup0 (.node tup0 (.node tup0 .nil .nil) .nil) (.node tup0 (.node tup0 .nil .nil) .nil))) (.node tup0 (.node tup0 (.node tup0 (.node tup0 .nil .nil) .nil) (.node tup0 (.node tup0 .nil .nil) .nil)) (.node tup0 (.node tup0 (.node tup0 .nil .nil) .nil) (.node tup0 (.node tup0 .nil .nil) .nil)))))) (.node (Pre.o_6 P) (.node (Pre.o_12 P) (.node tup0 (.node tup0 (.node tup0 (.node tup0 (.node tup0 .nil .nil) (.node tup0 .nil .nil)) (.node tup0 (.node tup0 .nil .nil) .nil)) (.node tup0 (.node tup0 (.node tup0 .nil .nil) .nil) (.node tup0 (.node tup0 .nil .nil) .nil))) (.node tup0 (.node tup0 (.node tup0 (.node tup0 .nil .nil) .nil) (.node tup0 (.node tup0 .nil .nil) .nil)) (.node tup0 (.node tup0 (.node tup0 .nil .nil) .nil) (.node tup0 (.node tup0 .nil .nil) .nil)))) (.node tup0 (.node tup0 (.node tup0 (.node tup0 (.node tup0 .nil .nil) (.node tup0 .nil .nil)) (.node tup0 (.node tup0 .nil .nil) .nil)) (.node tup0 (.node tup0 (.node tup0 .nil .nil) .nil) (.node tup0 (.node tup0 .nil .nil) .nil))) (.node tup0 (.node tup0 (.node tup0 (.node tup0 .nil .nil) .nil) (.node tup0 (.node tup0 .nil .nil) .nil)) (.node tup0 (.node tup0 (.node tup0 .nil .nil) .nil) (.node tup0 (.node tup0 .nil .nil) .nil))))) (.node tup0 (.node tup0 (.node tup0 (.node tup0 (.node tup0 (.node tup0 .nil .nil) (.node tup0 .nil .nil)) (.node tup0 (.node tup0 .nil .nil) .nil)) (.node tup0 (.node tup0 (.node tup0 .nil .nil) .nil) (.node tup0 (.node tup0 .nil .nil) .nil))) (.node tup0 (.node tup0 (.node tup0 (.node tup0 .nil .nil) .nil) (.node tup0 (.node tup0 .nil .nil) .nil)) (.node tup0 (.node tup0 (.node tup0 .nil .nil) .nil) (.node tup0 (.node tup0 .nil .nil) .nil)))) (.node tup0 (.node tup0 (.node tup0 (.node tup0 (.node tup0 .nil .nil) .nil) (.node tup0 (.node tup0 .nil .nil) .nil)) (.node tup0 (.node tup0 (.node tup0 .nil .nil) .nil) (.node tup0 (.node tup0 .nil .nil) .nil))) (.node tup0 (.node tup0 (.node tup0 (.node tup0 .nil .nil) .nil) (.node tup0 (.node tup0 .nil .nil) .nil)) (.node tup0 (.node tup0 (.node tup0 .nil .nil) .nil) (.node tup0 (.node tup0 .nil .nil) .nil))))))) (.node (PySem.W.boot_o_6 P) (.node (PySem.W.boot_o_10 P) (.node (Pre.o_10 P) (.node (rg 335) (.node (rg 853) (.node (rg 1903) (.node (rg 4025) (.node (rg 8249) .nil .nil) (.node (rg 12475) .nil .nil)) (.node (rg 6127) (.node (rg 10353) .nil .nil) .nil)) (.node (rg 2959) (.node (rg 5077) (.node (rg 9303) .nil .nil) .nil) (.node (rg 7183) (.node (rg 11409) .nil .nil) .nil))) (.node (rg 1377) (.node (rg 2433) (.node (rg 4559) (.node (rg 8785) .nil .nil) .nil) (.node (rg 6657) (.node (rg 10883) .nil .nil) .nil)) (.node (rg 3491) (.node (rg 5601) (.node (rg 9827) .nil .nil) .nil) (.node (rg 7715) (.node (rg 11941) .nil .nil) .nil)))) (.node (rg 593) (.node (rg 1115) (.node (rg 2169) (.node (rg 4295) (.node (rg 8519) .nil .nil) (.node (rg 12745) .nil .nil)) (.node (rg 6393) (.node (rg 10619) .nil .nil) .nil)) (.node (rg 3225) (.node (rg 5339) (.node (rg 9565) .nil .nil) .nil) (.node (rg 7449) (.node (rg 11675) .nil .nil) .nil))) (.node (rg 1639) (.node (rg 2695) (.node (rg 4817) (.node (rg 9043) .nil .nil) .nil) (.node (rg 6919) (.node (rg 11145) .nil .nil) .nil)) (.node (rg 3757) (.node (rg 5863) (.node (rg 10089) .nil .nil) .nil) (.node (rg 7981) (.node (rg 12207) .nil .nil) .nil))))) (.node (rg 209) (.node (rg 465) (.node (rg 985) (.node (rg 2037) (.node (rg 4161) (.node (rg 8385) .nil .nil) (.node (rg 12609) .nil .nil)) (.node (rg 6261) (.node (rg 10485) .nil .nil) .nil)) (.node (rg 3093) (.node (rg 5209) (.node (rg 9433) .nil .nil) .nil) (.node (rg 7317) (.node (rg 11541) .nil .nil) .nil))) (.node (rg 1509) (.node (rg 2565) (.node (rg 4689) (.node (rg 8913) .nil .nil) .nil) (.node (rg 6789) (.node (rg 11013) .nil .nil) .nil)) (.node (rg 3625) (.node (rg 5733) (.node (rg 9957) .nil .nil) .nil) (.node (rg 7849) (.node (rg 12073) .nil .nil) .nil)))) (.node (rg 725) (.node (rg 1249) (.node (rg 2305) (.node (rg 4433) (.node (rg 8657) .nil .nil) .nil) (.node (rg 6529) (.node (rg 10753) .nil .nil) .nil)) (.node (rg 3361) (.node (rg 5473) (.node (rg 9697) .nil .nil) .nil) (.node (rg 7585) (.node (rg 11809) .nil .nil) .nil))) (.node (rg 1773) (.node (rg 2829) (.node (rg 4949) (.node (rg 9173) .nil .nil) .nil) (.node (rg 7053) (.node (rg 11277) .nil .nil) .nil)) (.node (rg 3893) (.node (rg 5997) (.node (rg 10221) .nil .nil) .nil) (.node (rg 8117) (.node (rg 12341) .nil .nil) .nil)))))) (.node (Pre.o_4 P) (.node (lc P 192) (.node (rg 399) (.node (rg 918) (.node (rg 1969) (.node (rg 4092) (.node (rg 8317) .nil .nil) (.node (rg 12541) .nil .nil)) (.node (rg 6194) (.node (rg 10418) .nil .nil) .nil)) (.node (rg 3025) (.node (rg 5143) (.node (rg 9367) .nil .nil) .nil) (.node (rg 7250) (.node (rg 11474) .nil .nil) .nil))) (.node (rg 1442) (.node (rg 2498) (.node (rg 4624) (.node (rg 8848) .nil .nil) .nil) (.node (rg 6723) (.node (rg 10947) .nil .nil) .nil)) (.node (rg 3557) (.node (rg 5667) (.node (rg 9891) .nil .nil) .nil) (.node (rg 7782) (.node (rg 12006) .nil .nil) .nil)))) (.node (rg 658) (.node (rg 1181) (.node (rg 2236) (.node (rg 4363) (.node (rg 8588) .nil .nil) (.node (rg 12812) .nil .nil)) (.node (rg 6461) (.node (rg 10685) .nil .nil) .nil)) (.node (rg 3292) (.node (rg 5406) (.node (rg 9630) .nil .nil) .nil) (.node (rg 7517) (.node (rg 11741) .nil .nil) .nil))) (.node (rg 1705) (.node (rg 2761) (.node (rg 4883) (.node (rg 9107) .nil .nil) .nil) (.node (rg 6986) (.node (rg 11210) .nil .nil) .nil)) (.node (rg 3824) (.node (rg 5930) (.node (rg 10154) .nil .nil) .nil) (.node (rg 8049) (.node (rg 12273) .nil .nil) .nil))))) (.node (rg 271) (.node (rg 528) (.node (rg 1049) (.node (rg 2102) (.node (rg 4227) (.node (rg 8452) .nil .nil) (.node (rg 12676) .nil .nil)) (.node (rg 6327) (.node (rg 10551) .nil .nil) .nil)) (.node (rg 3158) (.node (rg 5274) (.node (rg 9498) .nil .nil) .nil) (.node (rg 7383) (.node (rg 11607) .nil .nil) .nil))) (.node (rg 1573) (.node (rg 2629) (.node (rg 4753) (.node (rg 8977) .nil .nil) .nil) (.node (rg 6854) (.node (rg 11078) .nil .nil) .nil)) (.node (rg 3690) (.node (rg 5798) (.node (rg 10022) .nil .nil) .nil) (.node (rg 7915) (.node (rg 12139) .nil .nil) .nil)))) (.node (rg 788) (.node (rg 1312) (.node (rg 2368) (.node (rg 4496) (.node (rg 8720) .nil .nil) .nil) (.node (rg 6593) (.node (rg 10817) .nil .nil) .nil)) (.node (rg 3425) (.node (rg 5537) (.node (rg 9761) .nil .nil) .nil) (.node (rg 7650) (.node (rg 11874) .nil .nil) .nil))) (.node (rg 1837) (.node (rg 2893) (.node (rg 5013) (.node (rg 9237) .nil .nil) .nil) (.node (rg 7118) (.node (rg 11342) .nil .nil) .nil)) (.node (rg 3958) (.node (rg 6062) (.node (rg 10286) .nil .nil) .nil) (.node (rg 8183) (.node (rg 12407) .nil .nil) .nil)))))))))
noncomputable def B13 (P : Params) : BT := (.node (PySem.W.boot_o_0 P) (.node (PySem.W.boot_o_1 P) (.node (Pre.o_5 P) (.node (PySem.W.boot_o_7 P) (.node (Pre.o_7 P) (.node ri (.node ri (.node ri (.node ri (.node ri .nil .nil) (.node ri .nil .nil)) (.node ri (.node ri .nil .nil) .nil)) (.node ri (.node ri (.node ri .nil .nil) (.node ri .nil .nil)) (.node ri (.node ri .nil .nil) .nil))) (.node ri (.node ri (.node ri (.node ri .nil .nil) (.node ri .nil .nil)) (.node ri (.node ri .nil .nil) .nil)) (.node ri (.node ri (.node ri .nil .nil) .nil) (.node ri (.node ri .nil .nil) .nil)))) (.node ri (.node ri (.node ri (.node ri (.node ri .nil .nil) (.node ri .nil .nil)) (.node ri (.node ri .nil .nil) .nil)) (.node ri (.node ri (.node ri .nil .nil) (.node ri .nil .nil)) (.node ri (.node ri .nil .nil) .nil))) (.node ri (.node ri (.node ri (.node ri .nil .nil) (.node ri .nil .nil)) (.node ri (.node ri .nil .nil) .nil)) (.node ri (.node ri (.node ri .nil .nil) .nil) (.node ri (.node ri .nil .nil) .nil))))) (.node (ls 208) (.node ri (.node ri (.node ri (.node ri (.node ri .nil .nil) (.node ri .nil .nil)) (.node ri (.node ri .nil .nil) .nil)) (.node ri (.node ri (.node ri .nil .nil) (.node ri .nil .nil)) (.node ri (.node ri .nil .nil) .nil))) (.node ri (.node ri (.node ri (.node ri .nil .nil) (.node ri .nil .nil)) (.node ri (.node ri .nil .nil) .nil)) (.node ri (.node ri (.node ri .nil .nil) .nil) (.node ri (.node ri .nil .nil) .nil)))) (.node ri (.node ri (.node ri (.node ri (.node ri .nil .nil) (.node ri .nil .nil)) (.node ri (.node ri .nil .nil) .nil)) (.node ri (.node ri (.node ri .nil .nil) (.node ri .nil .nil)) (.node ri (.node ri .nil .nil) .nil))) (.node ri (.node ri (.node ri (.node ri .nil .nil) (.node ri .nil .nil)) (.node ri (.node ri .nil .nil) .nil)) (.node ri (.node ri (.node ri .nil .nil) .nil) (.node ri (.node ri .nil .nil) .nil)))))) (.node (Pre.o_1 P) (.node (Pre.o_11 P) (.node ri (.node ri (.node ri (.node ri (.node ri .nil .nil) (.node ri .nil .nil)) (.node ri (.node ri .nil .nil) .nil)) (.node ri (.node ri (.node ri .nil .nil) (.node ri .nil .nil)) (.node ri (.node ri .nil .nil) .nil))) (.node ri (.node ri (.node ri (.node ri .nil .nil) (.node ri .nil .nil)) (.node ri (.node ri .nil .nil) .nil)) (.node ri (.node ri (.node ri .nil .nil) .nil) (.node ri (.node ri .nil .nil) .nil)))) (.node ri (.node ri (.node ri (.node ri (.node ri .nil .nil) (.node ri .nil .nil)) (.node ri (.node ri .nil .nil) .nil)) (.node ri (.node ri (.node ri .nil .nil) (.node ri .nil .nil)) (.node ri (.node ri .nil .nil) .nil))) (.node ri (.node ri (.node ri (.node ri .nil .nil) (.node ri .nil .nil)) (.node ri (.node ri .nil .nil) .nil)) (.node ri (.node ri (.node ri .nil .nil) .nil) (.node ri (.node ri .nil .nil) .nil))))) (.node ri (.node ri (.node ri (.node ri (.node ri (.node ri .nil .nil) (.node ri .nil .nil)) (.node ri (.node ri .nil .nil) .nil)) (.node ri (.node ri (.node ri .nil .nil) (.node ri .nil .nil)) (.node ri (.node ri .nil .nil) .nil))) (.node ri (.node ri (.node ri (.node ri .nil .nil) (.node ri .nil .nil)) (.node ri (.node ri .nil .nil) .nil)) (.node ri (.node ri (.node ri .nil .nil) .nil) (.node ri (.node ri .nil .nil) .nil)))) (.node ri (.node ri (.node ri (.node ri (.node ri .nil .nil) (.node ri .nil .nil)) (.node ri (.node ri .nil .nil) .nil)) (.node ri (.node ri (.node ri .nil .nil) .nil) (.node ri (.node ri .nil .nil) .nil))) (.node ri (.node ri (.node ri (.node ri .nil .nil) (.node ri .nil .nil)) (.node ri (.node ri .nil .nil) .nil)) (.node ri (.node ri (.node ri .nil .nil) .nil) (.node ri (.node ri .nil .nil) .nil))))))) (.node (PySem.W.boot_o_5 P) (.node (PySem.W.boot_o_9 P) (.node (Pre.o_9 P) (.node (se 32) (.node (se 64) (.node (se 128) (.node (se 256) (.node (se 512) .nil .nil) (.node (se 768) .nil .nil)) (.node (se 384) (.node (se 640) .nil .nil) .nil)) (.node (se 192) (.node (se 320) (.node (se 576) .nil .nil) (.node (se 832) .nil .nil)) (.node (se 448) (.node (se 704) .nil .nil) .nil))) (.node (se 96) (.node (se 160) (.node (se 288) (.node (se 544) .nil .nil) (.node (se 800) .nil .nil)) (.node (se 416) (.node (se 672) .nil .nil) .nil)) (.node (se 224) (.node (se 352) (.node (se 608) .nil .nil) .nil) (.node (se 480) (.node (se 736) .nil .nil) .nil)))) (.node (se 48) (.node (se 80) (.node (se 144) (.node (se 272) (.node (se 528) .nil .nil) (.node (se 784) .nil .nil)) (.node (se 400) (.node (se 656) .nil .nil) .nil)) (.node (se 208) (.node (se 336) (.node (se 592) .nil .nil) (.node (se 848) .nil .nil)) (.node (se 464) (.node (se 720) .nil .nil) .nil))) (.node (se 112) (.node (se 176) (.node (se 304) (.node (se 560) .nil .nil) (.node (se 816) .nil .nil)) (.node (se 432) (.node (se 688) .nil .nil) .nil)) (.node (se 240) (.node (se 368) (.node (se 624) .nil .nil) .nil) (.node (se 496) (.node (se 752) .nil .nil) .nil))))) (.node (oi 208) (.node (se 40) (.node (se 72) (.node (se 136) (.node (se 264) (.node (se 520) .nil .nil) (.node (se 776) .nil .nil)) (.node (se 392) (.node (se 648) .nil .nil) .nil)) (.node (se 200) (.node (se 328) (.node (se 584) .nil .nil) (.node (se 840) .nil .nil)) (.node (se 456) (.node (se 712) .nil .nil) .nil))) (.node (se 104) (.node (se 168) (.node (se 296) (.node (se 552) .nil .nil) (.node (se 808) .nil .nil)) (.node (se 424) (.node (se 680) .nil .nil) .nil)) (.node (se 232) (.node (se 360) (.node (se 616) .nil .nil) .nil) (.node (se 488) (.node (se 744) .nil .nil) .nil)))) (.node (se 56) (.node (se 88) (.node (se 152) (.node (se 280) (.node (se 536) .nil .nil) (.node (se 792) .nil .nil)) (.node (se 408) (.node (se 664) .nil .nil) .nil)) (.node (se 216) (.node (se 344) (.node (se 600) .nil .nil) (.node (se 856) .nil .nil)) (.node (se 472) (.node (se 728) .nil .nil) .nil))) (.node (se 120) (.node (se 184) (.node (se 312) (.node (se 568) .nil .nil) (.node (se 824) .nil .nil)) (.node (se 440) (.node (se 696) .nil .nil) .nil)) (.node (se 248) (.node (se 376) (.node (se 632) .nil .nil) .nil) (.node (se 504) (.node (se 760) .nil .nil) .nil)))))) (.node (Pre.o_3 P) (.node (Pre.o_13 P) (.node (se 36) (.node (se 68) (.node (se 132) (.node (se 260) (.node (se 516) .nil .nil) (.node (se 772) .nil .nil)) (.node (se 388) (.node (se 644) .nil .nil) .nil)) (.node (se 196) (.node (se 324) (.node (se 580) .nil .nil) (.node (se 836) .nil .nil)) (.node (se 452) (.node (se 708) .nil .nil) .nil))) (.node (se 100) (.node (se 164) (.node (se 292) (.node (se 548) .nil .nil) (.node (se 804) .nil .nil)) (.node (se 420) (.node (se 676) .nil .nil) .nil)) (.node (se 228) (.node (se 356) (.node (se 612) .nil .nil) .nil) (.node (se 484) (.node (se 740) .nil .nil) .nil)))) (.node (se 52) (.node (se 84) (.node (se 148) (.node (se 276) (.node (se 532) .nil .nil) (.node (se 788) .nil .nil)) (.node (se 404) (.node (se 660) .nil .nil) .nil)) (.node (se 212) (.node (se 340) (.node (se 596) .nil .nil) (.node (se 852) .nil .nil)) (.node (se 468) (.node (se 724) .nil .nil) .nil))) (.node (se 116) (.node (se 180) (.node (se 308) (.node (se 564) .nil .nil) (.node (se 820) .nil .nil)) (.node (se 436) (.node (se 692) .nil .nil) .nil)) (.node (se 244) (.node (se 372) (.node (se 628) .nil .nil) .nil) (.node (se 500) (.node (se 756) .nil .nil) .nil))))) (.node (se 28) (.node (se 44) (.node (se 76) (.node (se 140) (.node (se 268) (.node (se 524) .nil .nil) (.node (se 780) .nil .nil)) (.node (se 396) (.node (se 652) .nil .nil) .nil)) (.node (se 204) (.node (se 332) (.node (se 588) .nil .nil) (.node (se 844) .nil .nil)) (.node (se 460) (.node (se 716) .nil .nil) .nil))) (.node (se 108) (.node (se 172) (.node (se 300) (.node (se 556) .nil .nil) (.node (se 812) .nil .nil)) (.node (se 428) (.node (se 684) .nil .nil) .nil)) (.node (se 236) (.node (se 364) (.node (se 620) .nil .nil) .nil) (.node (se 492) (.node (se 748) .nil .nil) .nil)))) (.node (se 60) (.node (se 92) (.node (se 156) (.node (se 284) (.node (se 540) .nil .nil) (.node (se 796) .nil .nil)) (.node (se 412) (.node (se 668) .nil .nil) .nil)) (.node (se 220) (.node (se 348) (.node (se 604) .nil .nil) .nil) (.node (se 476) (.node (se 732) .nil .nil) .nil))) (.node (se 124) (.node (se 188) (.node (se 316) (.node (se 572) .nil .nil) (.node (se 828) .nil .nil)) (.node (se 444) (.node (se 700) .nil .nil) .nil)) (.node (se 252) (.node (se 380) (.node (se 636) .nil .nil) .nil) (.node (se 508) (.node (se 764) .nil .nil) .nil)))))))) (.node (PySem.W.boot_o_2 P) (.node (PySem.W.boot_o_4 P) (.node (PySem.W.boot_o_8 P) (.node (Pre.o_8 P) (.node tup0 (.node tup0 (.node tup0 (.node tup0 (.node tup0 .nil .nil) (.node tup0 .nil .nil)) (.node tup0 (.node tup0 .nil .nil) .nil)) (.node tup0 (.node tup0 (.node tup0 .nil .nil) (.node tup0 .nil .nil)) (.node tup0 (.node tup0 .nil .nil) .nil))) (.node tup0 (.node tup0 (.node tup0 (.node tup0 .nil .nil) (.node tup0 .nil .nil)) (.node tup0 (.node tup0 .nil .nil) .nil)) (.node tup0 (.node tup0 (.node tup0 .nil .nil) .nil) (.node tup0 (.node tup0 .nil .nil) .nil)))) (.node tup0 (.node tup0 (.node tup0 (.node tup0 (.node tup0 .nil .nil) (.node tup0 .nil .nil)) (.node tup0 (.node tup0 .nil .nil) .nil)) (.node tup0 (.node tup0 (.node tup0 .nil .nil) (.node tup0 .nil .nil)) (.node tup0 (.node tup0 .nil .nil) .nil))) (.node tup0 (.node tup0 (.node tup0 (.node tup0 .nil .nil) (.node tup0 .nil .nil)) (.node tup0 (.node tup0 .nil .nil) .nil)) (.node tup0 (.node tup0 (.node tup0 .nil .nil) .nil) (.node tup0 (.node tup0 .nil .nil) .nil))))) (.node r256 (.node tup0 (.node tup0 (.node tup0 (.node tup0 (.node tup0 .nil .nil) (.node tup0 .nil .nil)) (.node tup0 (.node tup0 .nil .nil) .nil)) (.node tup0 (.node tup0 (.node tup0 .nil .nil) (.node tup0 .nil .nil)) (.node tup0 (.node tup0 .nil .nil) .nil))) (.node tup0 (.node tup0 (.node tup0 (.node tup0 .nil .nil) (.node tup0 .nil .nil)) (.node tup0 (.node tup0 .nil .nil) .nil)) (.node tup0 (.node tup0 (.node tup0 .nil .nil) .nil) (.node tup0 (.node tup0 .nil .nil) .nil)))) (.node tup0 (.node tup0 (.node tup0 (.node tup0 (.node tup0 .nil .nil) (.node tup0 .nil .nil)) (.node tup0 (.node tup0 .nil .nil) .nil)) (.node tup0 (.node tup0 (.node tup0 .nil .nil) (.node tup0 .nil .nil)) (.node tup0 (.node tup0 .nil .nil) .nil))) (.node tup0 (.node tup0 (.node tup0 (.node tup0 .nil .nil) (.node tup0 .nil .nil)) (.node tup0 (.node tup0 .nil .nil) .nil)) (.node tup0 (.node tup0 (.node tup0 .nil .nil) .nil) (.node tup0 (.node tup0 .nil .nil) .nil)))))) (.node (Pre.o_6 P) (.node (Pre.o_12 P) (.node tup0 (.node tup0 (.node tup0 (.node tup0 (.node tup0 .nil .nil) (.node tup0 .nil .nil)) (.node tup0 (.node tup0 .nil .nil) .nil)) (.node tup0 (.node tup0 (.node tup0 .nil .nil) (.node tup0 .nil .nil)) (.node tup0 (.node tup0 .nil .nil) .nil))) (.node tup0 (.node tup0 (.node tup0 (.node tup0 .nil .nil) (.node tup0 .nil .nil)) (.node tup0 (.node tup0 .nil .nil) .nil)) (.node tup0 (.node tup0 (.node tup0 .nil .nil) .nil) (.node tup0 (.node tup0 .nil .nil) .nil)))) (.node tup0 (.node tup0 (.node tup0 (.node tup0 (.node tup0 .nil .nil) (.node tup0 .nil .nil)) (.node tup0 (.node tup0 .nil .nil) .nil)) (.node tup0 (.node tup0 (.node tup0 .nil .nil) (.node tup0 .nil .nil)) (.node tup0 (.node tup0 .nil .nil) .nil))) (.node tup0 (.node tup0 (.node tup0 (.node tup0 .nil .nil) (.node tup0 .nil .nil)) (.node tup0 (.node tup0 .nil .nil) .nil)) (.node tup0 (.node tup0 (.node tup0 .nil .nil) .nil) (.node tup0 (.node tup0 .nil .nil) .nil))))) (.node tup0 (.node tup0 (.node tup0 (.node tup0 (.node tup0 (.node tup0 .nil .nil) (.node tup0 .nil .nil)) (.node tup0 (.node tup0 .nil .nil) .nil)) (.node tup0 (.node tup0 (.node tup0 .nil .nil) (.node tup0 .nil .nil)) (.node tup0 (.node tup0 .nil .nil) .nil))) (.node tup0 (.node tup0 (.node tup0 (.node tup0 .nil .nil) (.node tup0 .nil .nil)) (.node tup0 (.node tup0 .nil .nil) .nil)) (.node tup0 (.node tup0 (.node tup0 .nil .nil) .nil) (.node tup0 (.node tup0 .nil .nil) .nil)))) (.node tup0 (.node tup0 (.node tup0 (.node tup0 (.node tup0 .nil .nil) (.node tup0 .nil .nil)) (.node tup0 (.node tup0 .nil .nil) .nil)) (.node tup0 (.node tup0 (.node tup0 .nil .nil) .nil) (.node tup0 (.node tup0 .nil .nil) .nil))) (.node tup0 (.node tup0 (.node tup0 (.node tup0 .nil .nil) (.node tup0 .nil .nil)) (.node tup0 (.node tup0 .nil .nil) .nil)) (.node tup0 (.node tup0 (.node tup0 .nil .nil) .nil) (.node tup0 (.node tup0 .nil .nil) .nil))))))) (.node (PySem.W.boot_o_6 P) (.node (PySem.W.boot_o_10 P) (.node (Pre.o_10 P) (.node (rg 335) (.node (rg 853) (.node (rg 1903) (.node (rg 4025) (.node (rg 8249) .nil .nil) (.node (rg 12475) .nil .nil)) (.node (rg 6127) (.node (rg 10353) .nil .nil) .nil)) (.node (rg 2959) (.node (rg 5077) (.node (rg 9303) .nil .nil) (.node (rg 13527) .nil .nil)) (.node (rg 7183) (.node (rg 11409) .nil .nil) .nil))) (.node (rg 1377) (.node (rg 2433) (.node (rg 4559) (.node (rg 8785) .nil .nil) (.node (rg 13009) .nil .nil)) (.node (rg 6657) (.node (rg 10883) .nil .nil) .nil)) (.node (rg 3491) (.node (rg 5601) (.node (rg 9827) .nil .nil) .nil) (.node (rg 7715) (.node (rg 11941) .nil .nil) .nil)))) (.node (rg 593) (.node (rg 1115) (.node (rg 2169) (.node (rg 4295) (.node (rg 8519) .nil .nil) (.node (rg 12745) .nil .nil)) (.node (rg 6393) (.node (rg 10619) .nil .nil) .nil)) (.node (rg 3225) (.node (rg 5339) (.node (rg 9565) .nil .nil) (.node (rg 13789) .nil .nil)) (.node (rg 7449) (.node (rg 11675) .nil .nil) .nil))) (.node (rg 1639) (.node (rg 2695) (.node (rg 4817) (.node (rg 9043) .nil .nil) (.node (rg 13267) .nil .nil)) (.node (rg 6919) (.node (rg 11145) .nil .nil) .nil)) (.node (rg 3757) (.node (rg 5863) (.node (rg 10089) .nil .nil) .nil) (.node (rg 7981) (.node (rg 12207) .nil .nil) .nil))))) (.node (rg 209) (.node (rg 465) (.node (rg 985) (.node (rg 2037) (.node (rg 4161) (.node (rg 8385) .nil .nil) (.node (rg 12609) .nil .nil)) (.node (rg 6261) (.node (rg 10485) .nil .nil) .nil)) (.node (rg 3093) (.node (rg 5209) (.node (rg 9433) .nil .nil) (.node (rg 13657) .nil .nil)) (.node (rg 7317) (.node (rg 11541) .nil .nil) .nil))) (.node (rg 1509) (.node (rg 2565) (.node (rg 4689) (.node (rg 8913) .nil .nil) (.node (rg 13137) .nil .nil)) (.node (rg 6789) (.node (rg 11013) .nil .nil) .nil)) (.node (rg 3625) (.node (rg 5733) (.node (rg 9957) .nil .nil) .nil) (.node (rg 7849) (.node (rg 12073) .nil .nil) .nil)))) (.node (rg 725) (.node (rg 1249) (.node (rg 2305) (.node (rg 4433) (.node (rg 8657) .nil .nil) (.node (rg 12881) .nil .nil)) (.node (rg 6529) (.node (rg 10753) .nil .nil) .nil)) (.node (rg 3361) (.node (rg 5473) (.node (rg 9697) .nil .nil) .nil) (.node (rg 7585) (.node (rg 11809) .nil .nil) .nil))) (.node (rg 1773) (.node (rg 2829) (.node (rg 4949) (.node (rg 9173) .nil .nil) (.node (rg 13397) .nil .nil)) (.node (rg 7053) (.node (rg 11277) .nil .nil) .nil)) (.node (rg 3893) (.node (rg 5997) (.node (rg 10221) .nil .nil) .nil) (.node (rg 8117) (.node (rg 12341) .nil .nil) .nil)))))) (.node (Pre.o_4 P) (.node (lc P 208) (.node (rg 399) (.node (rg 918) (.node (rg 1969) (.node (rg 4092) (.node (rg 8317) .nil .nil) (.node (rg 12541) .nil .nil)) (.node (rg 6194) (.node (rg 10418) .nil .nil) .nil)) (.node (rg 3025) (.node (rg 5143) (.node (rg 9367) .nil .nil) (.node (rg 13592) .nil .nil)) (.node (rg 7250) (.node (rg 11474) .nil .nil) .nil))) (.node (rg 1442) (.node (rg 2498) (.node (rg 4624) (.node (rg 8848) .nil .nil) (.node (rg 13073) .nil .nil)) (.node (rg 6723) (.node (rg 10947) .nil .nil) .nil)) (.node (rg 3557) (.node (rg 5667) (.node (rg 9891) .nil .nil) .nil) (.node (rg 7782) (.node (rg 12006) .nil .nil) .nil)))) (.node (rg 658) (.node (rg 1181) (.node (rg 2236) (.node (rg 4363) (.node (rg 8588) .nil .nil) (.node (rg 12812) .nil .nil)) (.node (rg 6461) (.node (rg 10685) .nil .nil) .nil)) (.node (rg 3292) (.node (rg 5406) (.node (rg 9630) .nil .nil) (.node (rg 13855) .nil .nil)) (.node (rg 7517) (.node (rg 11741) .nil .nil) .nil))) (.node (rg 1705) (.node (rg 2761) (.node (rg 4883) (.node (rg 9107) .nil .nil) (.node (rg 13332) .nil .nil)) (.node (rg 6986) (.node (rg 11210) .nil .nil) .nil)) (.node (rg 3824) (.node (rg 5930) (.node (rg 10154) .nil .nil) .nil) (.node (rg 8049) (.node (rg 12273) .nil .nil) .nil))))) (.node (rg 271) (.node (rg 528) (.node (rg 1049) (.node (rg 2102) (.node (rg 4227) (.node (rg 8452) .nil .nil) (.node (rg 12676) .nil .nil)) (.node (rg 6327) (.node (rg 10551) .nil .nil) .nil)) (.node (rg 3158) (.node (rg 5274) (.node (rg 9498) .nil .nil) (.node (rg 13723) .nil .nil)) (.node (rg 7383) (.node (rg 11607) .nil .nil) .nil))) (.node (rg 1573) (.node (rg 2629) (.node (rg 4753) (.node (rg 8977) .nil .nil) (.node (rg 13202) .nil .nil)) (.node (rg 6854) (.node (rg 11078) .nil .nil) .nil)) (.node (rg 3690) (.node (rg 5798) (.node (rg 10022) .nil .nil) .nil) (.node (rg 7915) (.node (rg 12139) .nil .nil) .nil)))) (.node (rg 788) (.node (rg 1312) (.node (rg 2368) (.node (rg 4496) (.node (rg 8720) .nil .nil) (.node (rg 12945) .nil .nil)) (.node (rg 6593) (.node (rg 10817) .nil .nil) .nil)) (.node (rg 3425) (.node (rg 5537) (.node (rg 9761) .nil .nil) .nil) (.node (rg 7650) (.node (rg 11874) .nil .nil) .nil))) (.node (rg 1837) (.node (rg 2893) (.node (rg 5013) (.node (rg 9237) .nil .nil) (.node (rg 13462) .nil .nil)) (.node (rg 7118) (.node (rg 11342) .nil .nil) .nil)) (.node (rg 3958) (.node (rg 6062) (.node (rg 10286) .nil .nil) .nil) (.node (rg 8183) (.node (rg 12407) .nil .nil) .nil)))))))))
noncomputable def B14 (P : Params) : BT := (.node (PySem.W.boot_o_0 P) (.node (PySem.W.boot_o_1 P) (.node (Pre.o_5 P) (.node (PySem.W.boot_o_7 P) (.node (Pre.o_7 P) (.node ri (.node ri (.node ri (.node ri (.node ri .nil .nil) (.node ri .nil .nil)) (.node ri (.node ri .nil .nil) (.node ri .nil .nil))) (.node ri (.node ri (.node ri .nil .nil) (.node ri .nil .nil)) (.node ri (.node ri .nil .nil) .nil))) (.node ri (.node ri (.node ri (.node ri .nil .nil) (.node ri .nil .nil)) (.node ri (.node ri .nil .nil) .nil)) (.node ri (.node ri (.node ri .nil .nil) (.node ri .nil .nil)) (.node ri (.node ri .nil .nil) .nil)))) (.node ri (.node ri (.node ri (.node ri (.node ri .nil .nil) (.node ri .nil .nil)) (.node ri (.node ri .nil .nil) (.node ri .nil .nil))) (.node ri (.node ri (.node ri .nil .nil) (.node ri .nil .nil)) (.node ri (.node ri .nil .nil) .nil))) (.node ri (.node ri (.node ri (.node ri .nil .nil) (.node ri .nil .nil)) (.node ri (.node ri .nil .nil) .nil)) (.node ri (.node ri (.node ri .nil .nil) (.node ri .nil .nil)) (.node ri (.node ri .nil .nil) .nil))))) (.node (ls 224) (.node ri (.node ri (.node ri (.node ri (.node ri .nil .nil) (.node ri .nil .nil)) (.node ri (.node ri .nil .nil) (.node ri .nil .nil))) (.node ri (.node ri (.node ri .nil .nil) (.node ri .nil .nil)) (.node ri (.node ri .nil .nil) .nil))) (.node ri (.node ri (.node ri (.node ri .nil .nil) (.node ri .nil .nil)) (.node ri (.node ri .nil .nil) .nil)) (.node ri (.node ri (.node ri .nil .nil) (.node ri .nil .nil)) (.node ri (.node ri .nil .nil) .nil)))) (.node ri (.node ri (.node ri (.node ri (.node ri .nil .nil) (.node ri .nil .nil)) (.node ri (.node ri .nil .nil) (.node ri .nil .nil))) (.node ri (.node ri (.node ri .nil .nil) (.node ri .nil .nil)) (.node ri (.node ri .nil .nil) .nil))) (.node ri (.node ri (.node ri (.node ri .nil .nil) (.node ri .nil .nil)) (.node ri (.node ri .nil .nil) .nil)) (.node ri (.node ri (.node ri .nil .nil) (.node ri .nil .nil)) (.node ri (.node ri .nil .nil) .nil)))))) (.node (Pre.o_1 P) (.node (Pre.o_11 P) (.node ri (.node ri (.node ri (.node ri (.node ri .nil .nil) (.node ri .nil .nil)) (.node ri (.node ri .nil .nil) (.node ri .nil .nil))) (.node ri (.node ri (.node ri .nil .nil) (.node ri .nil .nil)) (.node ri (.node ri .nil .nil) .nil))) (.node ri (.node ri (.node ri (.node ri .nil .nil) (.node ri .nil .nil)) (.node ri (.node ri .nil .nil) .nil)) (.node ri (.node ri (.node ri .nil .nil) (.node ri .nil .nil)) (.node ri (.node ri .nil .nil) .nil)))) (.node ri (.node ri (.node ri (.node ri (.node ri .nil .nil) (.node ri .nil .nil)) (.node ri (.node ri .nil .nil) (.node ri .nil .nil))) (.node ri (.node ri (.node ri .nil .nil) (.node ri .nil .nil)) (.node ri (.node ri .nil .nil) .nil))) (.node ri (.node ri (.node ri (.node ri .nil .nil) (.node ri .nil .nil)) (.node ri (.node ri .nil .nil) .nil)) (.node ri (.node ri (.node ri .nil .nil) (.node ri .nil .nil)) (.node ri (.node ri .nil .nil) .nil))))) (.node ri (.node ri (.node ri (.node ri (.node ri (.node ri .nil .nil) (.node ri .nil .nil)) (.node ri (.node ri .nil .nil) (.node ri .nil .nil))) (.node ri (.node ri (.node ri .nil .nil) (.node ri .nil .nil)) (.node ri (.node ri .nil .nil) .nil))) (.node ri (.node ri (.node ri (.node ri .nil .nil) (.node ri .nil .nil)) (.node ri (.node ri .nil .nil) .nil)) (.node ri (.node ri (.node ri .nil .nil) (.node ri .nil .nil)) (.node ri (.node ri .nil .nil) .nil)))) (.node ri (.node ri (.node ri (.node ri (.node ri .nil .nil) (.node ri .nil .nil)) (.node ri (.node ri .nil .nil) .nil)) (.node ri (.node ri (.node ri .nil .nil) (.node ri .nil .nil)) (.node ri (.node ri .nil .nil) .nil))) (.node ri (.node ri (.node ri (.node ri .nil .nil) (.node ri .nil .nil)) (.node ri (.node ri .nil .nil) .nil)) (.node ri (.node ri (.node ri .nil .nil) (.node ri .nil .nil)) (.node ri (.node ri .nil .nil) .nil))))))) (.node (PySem.W.boot_o_5 P) (.node (PySem.W.boot_o_9 P) (.node (Pre.o_9 P) (.node (se 32) (.node (se 64) (.node (se 128) (.node (se 256) (.node (se 512) .nil .nil) (.node (se 768) .nil .nil)) (.node (se 384) (.node (se 640) .nil .nil) (.node (se 896) .nil .nil))) (.node (se 192) (.node (se 320) (.node (se 576) .nil .nil) (.node (se 832) .nil .nil)) (.node (se 448) (.node (se 704) .nil .nil) .nil))) (.node (se 96) (.node (se 160) (.node (se 288) (.node (se 544) .nil .nil) (.node (se 800) .nil .nil)) (.node (se 416) (.node (se 672) .nil .nil) .nil)) (.node (se 224) (.node (se 352) (.node (se 608) .nil .nil) (.node (se 864) .nil .nil)) (.node (se 480) (.node (se 736) .nil .nil) .nil)))) (.node (se 48) (.node (se 80) (.node (se 144) (.node (se 272) (.node (se 528) .nil .nil) (.node (se 784) .nil .nil)) (.node (se 400) (.node (se 656) .nil .nil) (.node (se 912) .nil .nil))) (.node (se 208) (.node (se 336) (.node (se 592) .nil .nil) (.node (se 848) .nil .nil)) (.node (se 464) (.node (se 720) .nil .nil) .nil))) (.node (se 112) (.node (se 176) (.node (se 304) (.node (se 560) .nil .nil) (.node (se 816) .nil .nil)) (.node (se 432) (.node (se 688) .nil .nil) .nil)) (.node (se 240) (.node (se 368) (.node (se 624) .nil .nil) (.node (se 880) .nil .nil)) (.node (se 496) (.node (se 752) .nil .nil) .nil))))) (.node (oi 224) (.node (se 40) (.node (se 72) (.node (se 136) (.node (se 264) (.node (se 520) .nil .nil) (.node (se 776) .nil .nil)) (.node (se 392) (.node (se 648) .nil .nil) (.node (se 904) .nil .nil))) (.node (se 200) (.node (se 328) (.node (se 584) .nil .nil) (.node (se 840) .nil .nil)) (.node (se 456) (.node (se 712) .nil .nil) .nil))) (.node (se 104) (.node (se 168) (.node (se 296) (.node (se 552) .nil .nil) (.node (se 808) .nil .nil)) (.node (se 424) (.node (se 680) .nil .nil) .nil)) (.node (se 232) (.node (se 360) (.node (se 616) .nil .nil) (.node (se 872) .nil .nil)) (.node (se 488) (.node (se 744) .nil .nil) .nil)))) (.node (se 56) (.node (se 88) (.node (se 152) (.node (se 280) (.node (se 536) .nil .nil) (.node (se 792) .nil .nil)) (.node (se 408) (.node (se 664) .nil .nil) (.node (se 920) .nil .nil))) (.node (se 216) (.node (se 344) (.node (se 600) .nil .nil) (.node (se 856) .nil .nil)) (.node (se 472) (.node (se 728) .nil .nil) .nil))) (.node (se 120) (.node (se 184) (.node (se 312) (.node (se 568) .nil .nil) (.node (se 824) .nil .nil)) (.node (se 440) (.node (se 696) .nil .nil) .nil)) (.node (se 248) (.node (se 376) (.node (se 632) .nil .nil) (.node (se 888) .nil .nil)) (.node (se 504) (.node (se 760) .nil .nil) .nil)))))) (.node (Pre.o_3 P) (.node (Pre.o_13 P) (.node (se 36) (.node (se 68) (.node (se 132) (.node (se 260) (.node (se 516) .nil .nil) (.node (se 772) .nil .nil)) (.node (se 388) (.node (se 644) .nil .nil) (.node (se 900) .nil .nil))) (.node (se 196) (.node (se 324) (.node (se 580) .nil .nil) (.node (se 836) .nil .nil)) (.node (se 452) (.node (se 708) .nil .nil) .nil))) (.node (se 100) (.node (se 164) (.node (se 292) (.node (se 548) .nil .nil) (.node (se 804) .nil .nil)) (.node (se 420) (.node (se 676) .nil .nil) .nil)) (.node (se 228) (.node (se 356) (.node (se 612) .nil .nil) (.node (se 868) .nil .nil)) (.node (se 484) (.node (se 740) .nil .nil) .nil)))) (.node (se 52) (.node (se 84) (.node (se 148) (.node (se 276) (.node (se 532) .nil .nil) (.node (se 788) .nil .nil)) (.node (se 404) (.node (se 660) .nil .nil) (.node (se 916) .nil .nil))) (.node (se 212) (.node (se 340) (.node (se 596) .nil .nil) (.node (se 852) .nil .nil)) (.node (se 468) (.node (se 724) .nil .nil) .nil))) (.node (se 116) (.node (se 180) (.node (se 308) (.node (se 564) .nil .nil) (.node (se 820) .nil .nil)) (.node (se 436) (.node (se 692) .nil .nil) .nil)) (.node (se 244) (.node (se 372) (.node (se 628) .nil .nil) (.node (se 884) .nil .nil)) (.node (se 500) (.node (se 756) .nil .nil) .nil))))) (.node (se 28) (.node (se 44) (.node (se 76) (.node (se 140) (.node (se 268) (.node (se 524) .nil .nil) (.node (se 780) .nil .nil)) (.node (se 396) (.node (se 652) .nil .nil) (.node (se 908) .nil .nil))) (.node (se 204) (.node (se 332) (.node (se 588) .nil .nil) (.node (se 844) .nil .nil)) (.node (se 460) (.node (se 716) .nil .nil) .nil))) (.node (se 108) (.node (se 172) (.node (se 300) (.node (se 556) .nil .nil) (.node (se 812) .nil .nil)) (.node (se 428) (.node (se 684) .nil .nil) .nil)) (.node (se 236) (.node (se 364) (.node (se 620) .nil .nil) (.node (se 876) .nil .nil)) (.node (se 492) (.node (se 748) .nil .nil) .nil)))) (.node (se 60) (.node (se 92) (.node (se 156) (.node (se 284) (.node (se 540) .nil .nil) (.node (se 796) .nil .nil)) (.node (se 412) (.node (se 668) .nil .nil) .nil)) (.node (se 220) (.node (se 348) (.node (se 604) .nil .nil) (.node (se 860) .nil .nil)) (.node (se 476) (.node (se 732) .nil .nil) .nil))) (.node (se 124) (.node (se 188) (.node (se 316) (.node (se 572) .nil .nil) (.node (se 828) .nil .nil)) (.node (se 444) (.node (se 700) .nil .nil) .nil)) (.node (se 252) (.node (se 380) (.node (se 636) .nil .nil) (.node (se 892) .nil .nil)) (.node (se 508) (.node (se 764) .nil .nil) .nil)))))))) (.node (PySem.W.boot_o_2 P) (.node (PySem.W.boot_o_4 P) (.node (PySem.W.boot_o_8 P) (.node (Pre.o_8 P) (.node tup0 (.node tup0 (.node tup0 (.node tup0 (.node tup0 .nil .nil) (.node tup0 .nil .nil)) (.node tup0 (.node tup0 .nil .nil) (.node tup0 .nil .nil))) (.node tup0 (.node tup0 (.node tup0 .nil .nil) (.node tup0 .nil .nil)) (.node tup0 (.node tup0 .nil .nil) .nil))) (.node tup0 (.node tup0 (.node tup0 (.node tup0 .nil .nil) (.node tup0 .nil .nil)) (.node tup0 (.node tup0 .nil .nil) .nil)) (.node tup0 (.node tup0 (.node tup0 .nil .nil) (.node tup0 .nil .nil)) (.node tup0 (.node tup0 .nil .nil) .nil)))) (.node tup0 (.node tup0 (.node tup0 (.node tup0 (.node tup0 .nil .nil) (.node tup0 .nil .nil)) (.node tup0 (.node tup0 .nil .nil) (.node tup0 .nil .nil))) (.node tup0 (.node tup0 (.node tup0 .nil .nil) (.node tup0 .nil .nil)) (.node tup0 (.node tup0 .nil .nil) .nil))) (.node tup0 (.node tup0 (.node tup0 (.node tup0 .nil .nil) (.node tup0 .nil .nil)) (.node tup0 (.node tup0 .nil .nil) .nil)) (.node tup0 (.node tup0 (.node tup0 .nil .nil) (.node tup0 .nil .nil)) (.node tup0 (.node tup0 .nil .nil) .nil))))) (.node r256 (.node tup0 (.node tup0 (.node tup0 (.node tup0 (.node tup0 .nil .nil) (.node tup0 .nil .nil)) (.node tup0 (.node tup0 .nil .nil) (.node tup0 .nil .nil))) (.node tup0 (.node tup0 (.node tup0 .nil .nil) (.node tup0 .nil .nil)) (.node tup0 (.node tup0 .nil .nil) .nil))) (.node tup0 (.node tup0 (.node tup0 (.node tup0 .nil .nil) (.node tup0 .nil .nil)) (.node tup0 (.node tup0 .nil .nil) .nil)) (.node tup0 (.node tup0 (.node tup0 .nil .nil) (.node tup0 .nil .nil)) (.node tup0 (.node tup0 .nil .nil) .nil)))) (.node tup0 (.node tup0 (.node tup0 (.node tup0 (.node tup0 .nil .nil) (.node tup0 .nil .nil)) (.node tup0 (.node tup0 .nil .nil) (.node tup0 .nil .nil))) (.node tup0 (.node tup0 (.node tup0 .nil .nil) (.node tup0 .nil .nil)) (.node tup0 (.node tup0 .nil .nil) .nil))) (.node tup0 (.node tup0 (.node tup0 (.node tup0 .nil .nil) (.node tup0 .nil .nil)) (.node tup0 (.node tup0 .nil .nil) .nil)) (.node tup0 (.node tup0 (.node tup0 .nil .nil) (.node tup0 .nil .nil)) (.node tup0 (.node tup0 .nil .nil) .nil)))))) (.node (Pre.o_6 P) (.node (Pre.o_12 P) (.node tup0 (.node tup0 (.node tup0 (.node tup0 (.node tup0 .nil .nil) (.node tup0 .nil .nil)) (.node tup0 (.node tup0 .nil .nil) (.node tup0 .nil .nil))) (.node tup0 (.node tup0 (.node tup0 .nil .nil) (.node tup0 .nil .nil)) (.node tup0 (.node tup0 .nil .nil) .nil))) (.node tup0 (.node tup0 (.node tup0 (.node tup0 .nil .nil) (.node tup0 .nil .nil)) (.node tup0 (.node tup0 .nil .nil) .nil)) (.node tup0 (.node tup0 (.node tup0 .nil .nil) (.node tup0 .nil .nil)) (.node tup0 (.node tup0 .nil .nil) .nil)))) (.node tup0 (.node tup0 (.node tup0 (.node tup0 (.node tup0 .nil .nil) (.node tup0 .nil .nil)) (.node tup0 (.node tup0 .nil .nil) (.node tup0 .nil .nil))) (.node tup0 (.node tup0 (.node tup0 .nil .nil) (.node tup0 .nil .nil)) (.node tup0 (.node tup0 .nil .nil) .nil))) (.node tup0 (.node tup0 (.node tup0 (.node tup0 .nil .nil) (.node tup0 .nil .nil)) (.node tup0 (.node tup0 .nil .nil) .nil)) (.node tup0 (.node tup0 (.node tup0 .nil .nil) (.node tup0 .nil .nil)) (.node tup0 (.node tup0 .nil .nil) .nil))))) (.node tup0 (.node tup0 (.node tup0 (.node tup0 (.node tup0 (.node tup0 .nil .nil) (.node tup0 .nil .nil)) (.node tup0 (.node tup0 .nil .nil) (.node tup0 .nil .nil))) (.node tup0 (.node tup0 (.node tup0 .nil .nil) (.node tup0 .nil .nil)) (.node tup0 (.node tup0 .nil .nil) .nil))) (.node tup0 (.node tup0 (.node tup0 (.node tup0 .nil .nil) (.node tup0 .nil .nil)) (.node tup0 (.node tup0 .nil .nil) .nil)) (.node tup0 (.node tup0 (.node tup0 .nil .nil) (.node tup0 .nil .nil)) (.node tup0 (.node tup0 .nil .nil) .nil)))) (.node tup0 (.node tup0 (.node tup0 (.node tup0 (.node tup0 .nil .nil) (.node tup0 .nil .nil)) (.node tup0 (.node tup0 .nil .nil) .nil)) (.node tup0 (.node tup0 (.node tup0 .nil .nil) (.node tup0 .nil .nil)) (.node tup0 (.node tup0 .nil .nil) .nil))) (.node tup0 (.node tup0 (.node tup0 (.node tup0 .nil .nil) (.node tup0 .nil .nil)) (.node tup0 (.node tup0 .nil .nil) .nil)) (.node tup0 (.node tup0 (.node tup0 .nil .nil) (.node tup0 .nil .nil)) (.node tup0 (.node tup0 .nil .nil) .nil))))))) (.node (PySem.W.boot_o_6 P) (.node (PySem.W.boot_o_10 P) (.node (Pre.o_10 P) (.node (rg 335) (.node (rg 853) (.node (rg 1903) (.node (rg 4025) (.node (rg 8249) .nil .nil) (.node (rg 12475) .nil .nil)) (.node (rg 6127) (.node (rg 10353) .nil .nil) (.node (rg 14577) .nil .nil))) (.node (rg 2959) (.node (rg 5077) (.node (rg 9303) .nil .nil) (.node (rg 13527) .nil .nil)) (.node (rg 7183) (.node (rg 11409) .nil .nil) .nil))) (.node (rg 1377) (.node (rg 2433) (.node (rg 4559) (.node (rg 8785) .nil .nil) (.node (rg 13009) .nil .nil)) (.node (rg 6657) (.node (rg 10883) .nil .nil) .nil)) (.node (rg 3491) (.node (rg 5601) (.node (rg 9827) .nil .nil) (.node (rg 14051) .nil .nil)) (.node (rg 7715) (.node (rg 11941) .nil .nil) .nil)))) (.node (rg 593) (.node (rg 1115) (.node (rg 2169) (.node (rg 4295) (.node (rg 8519) .nil .nil) (.node (rg 12745) .nil .nil)) (.node (rg 6393) (.node (rg 10619) .nil .nil) (.node (rg 14843) .nil .nil))) (.node (rg 3225) (.node (rg 5339) (.node (rg 9565) .nil .nil) (.node (rg 13789) .nil .nil)) (.node (rg 7449) (.node (rg 11675) .nil .nil) .nil))) (.node (rg 1639) (.node (rg 2695) (.node (rg 4817) (.node (rg 9043) .nil .nil) (.node (rg 13267) .nil .nil)) (.node (rg 6919) (.node (rg 11145) .nil .nil) .nil)) (.node (rg 3757) (.node (rg 5863) (.node (rg 10089) .nil .nil) (.node (rg 14313) .nil .nil)) (.node (rg 7981) (.node (rg 12207) .nil .nil) .nil))))) (.node (rg 209) (.node (rg 465) (.node (rg 985) (.node (rg 2037) (.node (rg 4161) (.node (rg 8385) .nil .nil) (.node (rg 12609) .nil .nil)) (.node (rg 6261) (.node (rg 10485) .nil .nil) (.node (rg 14709) .nil .nil))) (.node (rg 3093) (.node (rg 5209) (.node (rg 9433) .nil .nil) (.node (rg 13657) .nil .nil)) (.node (rg 7317) (.node (rg 11541) .nil .nil) .nil))) (.node (rg 1509) (.node (rg 2565) (.node (rg 4689) (.node (rg 8913) .nil .nil) (.node (rg 13137) .nil .nil)) (.node (rg 6789) (.node (rg 11013) .nil .nil) .nil)) (.node (rg 3625) (.node (rg 5733) (.node (rg 9957) .nil .nil) (.node (rg 14181) .nil .nil)) (.node (rg 7849) (.node (rg 12073) .nil .nil) .nil)))) (.node (rg 725) (.node (rg 1249) (.node (rg 2305) (.node (rg 4433) (.node (rg 8657) .nil .nil) (.node (rg 12881) .nil .nil)) (.node (rg 6529) (.node (rg 10753) .nil .nil) .nil)) (.node (rg 3361) (.node (rg 5473) (.node (rg 9697) .nil .nil) (.node (rg 13921) .nil .nil)) (.node (rg 7585) (.node (rg 11809) .nil .nil) .nil))) (.node (rg 1773) (.node (rg 2829) (.node (rg 4949) (.node (rg 9173) .nil .nil) (.node (rg 13397) .nil .nil)) (.node (rg 7053) (.node (rg 11277) .nil .nil) .nil)) (.node (rg 3893) (.node (rg 5997) (.node (rg 10221) .nil .nil) (.node (rg 14445) .nil .nil)) (.node (rg 8117) (.node (rg 12341) .nil .nil) .nil)))))) (.node (Pre.o_4 P) (.node (lc P 224) (.node (rg 399) (.node (rg 918) (.node (rg 1969) (.node (rg 4092) (.node (rg 8317) .nil .nil) (.node (rg 12541) .nil .nil)) (.node (rg 6194) (.node (rg 10418) .nil .nil) (.node (rg 14643) .nil .nil))) (.node (rg 3025) (.node (rg 5143) (.node (rg 9367) .nil .nil) (.node (rg 13592) .nil .nil)) (.node (rg 7250) (.node (rg 11474) .nil .nil) .nil))) (.node (rg 1442) (.node (rg 2498) (.node (rg 4624) (.node (rg 8848) .nil .nil) (.node (rg 13073) .nil .nil)) (.node (rg 6723) (.node (rg 10947) .nil .nil) .nil)) (.node (rg 3557) (.node (rg 5667) (.node (rg 9891) .nil .nil) (.node (rg 14116) .nil .nil)) (.node (rg 7782) (.node (rg 12006) .nil .nil) .nil)))) (.node (rg 658) (.node (rg 1181) (.node (rg 2236) (.node (rg 4363) (.node (rg 8588) .nil .nil) (.node (rg 12812) .nil .nil)) (.node (rg 6461) (.node (rg 10685) .nil .nil) (.node (rg 14910) .nil .nil))) (.node (rg 3292) (.node (rg 5406) (.node (rg 9630) .nil .nil) (.node (rg 13855) .nil .nil)) (.node (rg 7517) (.node (rg 11741) .nil .nil) .nil))) (.node (rg 1705) (.node (rg 2761) (.node (rg 4883) (.node (rg 9107) .nil .nil) (.node (rg 13332) .nil .nil)) (.node (rg 6986) (.node (rg 11210) .nil .nil) .nil)) (.node (rg 3824) (.node (rg 5930) (.node (rg 10154) .nil .nil) (.node (rg 14379) .nil .nil)) (.node (rg 8049) (.node (rg 12273) .nil .nil) .nil))))) (.node (rg 271) (.node (rg 528) (.node (rg 1049) (.node (rg 2102) (.node (rg 4227) (.node (rg 8452) .nil .nil) (.node (rg 12676) .nil .nil)) (.node (rg 6327) (.node (rg 10551) .nil .nil) (.node (rg 14776) .nil .nil))) (.node (rg 3158) (.node (rg 5274) (.node (rg 9498) .nil .nil) (.node (rg 13723) .nil .nil)) (.node (rg 7383) (.node (rg 11607) .nil .nil) .nil))) (.node (rg 1573) (.node (rg 2629) (.node (rg 4753) (.node (rg 8977) .nil .nil) (.node (rg 13202) .nil .nil)) (.node (rg 6854) (.node (rg 11078) .nil .nil) .nil)) (.node (rg 3690) (.node (rg 5798) (.node (rg 10022) .nil .nil) (.node (rg 14247) .nil .nil)) (.node (rg 7915) (.node (rg 12139) .nil .nil) .nil)))) (.node (rg 788) (.node (rg 1312) (.node (rg 2368) (.node (rg 4496) (.node (rg 8720) .nil .nil) (.node (rg 12945) .nil .nil)) (.node (rg 6593) (.node (rg 10817) .nil .nil) .nil)) (.node (rg 3425) (.node (rg 5537) (.node (rg 9761) .nil .nil) (.node (rg 13986) .nil .nil)) (.node (rg 7650) (.node (rg 11874) .nil .nil) .nil))) (.node (rg 1837) (.node (rg 2893) (.node (rg 5013) (.node (rg 9237) .nil .nil) (.node (rg 13462) .nil .nil)) (.node (rg 7118) (.node (rg 11342) .nil .nil) .nil)) (.node (rg 3958) (.node (rg 6062) (.node (rg 10286) .nil .nil) (.node (rg 14511) .nil .nil)) (.node (rg 8183) (.node (rg 12407) .nil .nil) .nil)))))))))
noncomputable def B15 (P : Params) : BT := (.node (PySem.W.boot_o_0 P) (.node (PySem.W.boot_o_1 P) (.node (Pre.o_5 P) (.node (PySem.W.boot_o_7 P) (.node (Pre.o_7 P) (.node ri (.node ri (.node ri (.node ri (.node ri .nil .nil) (.node ri .nil .nil)) (.node ri (.node ri .nil .nil) (.node ri .nil .nil))) (.node ri (.node ri (.node ri .nil .nil) (.node ri .nil .nil)) (.node ri (.node ri .nil .nil) (.node ri .nil .nil)))) (.node ri (.node ri (.node ri (.node ri .nil .nil) (.node ri .nil .nil)) (.node ri (.node ri .nil .nil) (.node ri .nil .nil))) (.node ri (.node ri (.node ri .nil .nil) (.node ri .nil .nil)) (.node ri (.node ri .nil .nil) .nil)))) (.node ri (.node ri (.node ri (.node ri (.node ri .nil .nil) (.node ri .nil .nil)) (.node ri (.node ri .nil .nil) (.node ri .nil .nil))) (.node ri (.node ri (.node ri .nil .nil) (.node ri .nil .nil)) (.node ri (.node ri .nil .nil) (.node ri .nil .nil)))) (.node ri (.node ri (.node ri (.node ri .nil .nil) (.node ri .nil .nil)) (.node ri (.node ri .nil .nil) (.node ri .nil .nil))) (.node ri (.node ri (.node ri .nil .nil) (.node ri .nil .nil)) (.node ri (.node ri .nil .nil) .nil))))) (.node (ls 240) (.node ri (.node ri (.node ri (.node ri (.node ri .nil .nil) (.node ri .nil .nil)) (.node ri (.node ri .nil .nil) (.node ri .nil .nil))) (.node ri (.node ri (.node ri .nil .nil) (.node ri .nil .nil)) (.node ri (.node ri .nil .nil) (.node ri .nil .nil)))) (.node ri (.node ri (.node ri (.node ri .nil .nil) (.node ri .nil .nil)) (.node ri (.node ri .nil .nil) (.node ri .nil .nil))) (.node ri (.node ri (.node ri .nil .nil) (.node ri .nil .nil)) (.node ri (.node ri .nil .nil) .nil)))) (.node ri (.node ri (.node ri (.node ri (.node ri .nil .nil) (.node ri .nil .nil)) (.node ri (.node ri .nil .nil) (.node ri .nil .nil))) (.node ri (.node ri (.node ri .nil .nil) (.node ri .nil .nil)) (.node ri (.node ri .nil .nil) (.node ri .nil .nil)))) (.node ri (.node ri (.node ri (.node ri .nil .nil) (.node ri .nil .nil)) (.node ri (.node ri .nil .nil) (.node ri .nil .nil))) (.node ri (.node ri (.node ri .nil .nil) (.node ri .nil .nil)) (.node ri (.node ri .nil .nil) .nil)))))) (.node (Pre.o_1 P) (.node (Pre.o_11 P) (.node ri (.node ri (.node ri (.node ri (.node ri .nil .nil) (.node ri .nil .nil)) (.node ri (.node ri .nil .nil) (.node ri .nil .nil))) (.node ri (.node ri (.node ri .nil .nil) (.node ri .nil .nil)) (.node ri (.node ri .nil .nil) (.node ri .nil .nil)))) (.node ri (.node ri (.node ri (.node ri .nil .nil) (.node ri .nil .nil)) (.node ri (.node ri .nil .nil) (.node ri .nil .nil))) (.node ri (.node ri (.node ri .nil .nil) (.node ri .nil .nil)) (.node ri (.node ri .nil .nil) .nil)))) (.node ri (.node ri (.node ri (.node ri (.node ri .nil .nil) (.node ri .nil .nil)) (.node ri (.node ri .nil .nil) (.node ri .nil .nil))) (.node ri (.node ri (.node ri .nil .nil) (.node ri .nil .nil)) (.node ri (.node ri .nil .nil) (.node ri .nil .nil)))) (.node ri (.node ri (.node ri (.node ri .nil .nil) (.node ri .nil .nil)) (.node ri (.node ri .nil .nil) (.node ri .nil .nil))) (.node ri (.node ri (.node ri .nil .nil) (.node ri .nil .nil)) (.node ri (.node ri .nil .nil) .nil))))) (.node ri (.node ri (.node ri (.node ri (.node ri (.node ri .nil .nil) (.node ri .nil .nil)) (.node ri (.node ri .nil .nil) (.node ri .nil .nil))) (.node ri (.node ri (.node ri .nil .nil) (.node ri .nil .nil)) (.node ri (.node ri .nil .nil) (.node ri .nil .nil)))) (.node ri (.node ri (.node ri (.node ri .nil .nil) (.node ri .nil .nil)) (.node ri (.node ri .nil .nil) (.node ri .nil .nil))) (.node ri (.node ri (.node ri .nil .nil) (.node ri .nil .nil)) (.node ri (.node ri .nil .nil) .nil)))) (.node ri (.node ri (.node ri (.node ri (.node ri .nil .nil) (.node ri .nil .nil)) (.node ri (.node ri .nil .nil) (.node ri .nil .nil))) (.node ri (.node ri (.node ri .nil .nil) (.node ri .nil .nil)) (.node ri (.node ri .nil .nil) .nil))) (.node ri (.node ri (.node ri (.node ri .nil .nil) (.node ri .nil .nil)) (.node ri (.node ri .nil .nil) (.node ri .nil .nil))) (.node ri (.node ri (.node ri .nil .nil) (.node ri .nil .nil)) (.node ri (.node ri .nil .nil) .nil))))))) (.node (PySem.W.boot_o_5 P) (.node (PySem.W.boot_o_9 P) (.node (Pre.o_9 P) (.node (se 32) (.node (se 64) (.node (se 128) (.node (se 256) (.node (se 512) .nil .nil) (.node (se 768) .nil .nil)) (.node (se 384) (.node (se 640) .nil .nil) (.node (se 896) .nil .nil))) (.node (se 192) (.node (se 320) (.node (se 576) .nil .nil) (.node (se 832) .nil .nil)) (.node (se 448) (.node (se 704) .nil .nil) (.node (se 960) .nil .nil)))) (.node (se 96) (.node (se 160) (.node (se 288) (.node (se 544) .nil .nil) (.node (se 800) .nil .nil)) (.node (se 416) (.node (se 672) .nil .nil) (.node (se 928) .nil .nil))) (.node (se 224) (.node (se 352) (.node (se 608) .nil .nil) (.node (se 864) .nil .nil)) (.node (se 480) (.node (se 736) .nil .nil) .nil)))) (.node (se 48) (.node (se 80) (.node (se 144) (.node (se 272) (.node (se 528) .nil .nil) (.node (se 784) .nil .nil)) (.node (se 400) (.node (se 656) .nil .nil) (.node (se 912) .nil .nil))) (.node (se 208) (.node (se 336) (.node (se 592) .nil .nil) (.node (se 848) .nil .nil)) (.node (se 464) (.node (se 720) .nil .nil) (.node (se 976) .nil .nil)))) (.node (se 112) (.node (se 176) (.node (se 304) (.node (se 560) .nil .nil) (.node (se 816) .nil .nil)) (.node (se 432) (.node (se 688) .nil .nil) (.node (se 944) .nil .nil))) (.node (se 240) (.node (se 368) (.node (se 624) .nil .nil) (.node (se 880) .nil .nil)) (.node (se 496) (.node (se 752) .nil .nil) .nil))))) (.node (oi 240) (.node (se 40) (.node (se 72) (.node (se 136) (.node (se 264) (.node (se 520) .nil .nil) (.node (se 776) .nil .nil)) (.node (se 392) (.node (se 648) .nil .nil) (.node (se 904) .nil .nil))) (.node (se 200) (.node (se 328) (.node (se 584) .nil .nil) (.node (se 840) .nil .nil)) (.node (se 456) (.node (se 712) .nil .nil) (.node (se 968) .nil .nil)))) (.node (se 104) (.node (se 168) (.node (se 296) (.node (se 552) .nil .nil) (.node (se 808) .nil .nil)) (.node (se 424) (.node (se 680) .nil .nil) (.node (se 936) .nil .nil))) (.node (se 232) (.node (se 360) (.node (se 616) .nil .nil) (.node (se 872) .nil .nil)) (.node (se 488) (.node (se 744) .nil .nil) .nil)))) (.node (se 56) (.node (se 88) (.node (se 152) (.node (se 280) (.node (se 536) .nil .nil) (.node (se 792) .nil .nil)) (.node (se 408) (.node (se 664) .nil .nil) (.node (se 920) .nil .nil))) (.node (se 216) (.node (se 344) (.node (se 600) .nil .nil) (.node (se 856) .nil .nil)) (.node (se 472) (.node (se 728) .nil .nil) (.node (se 984) .nil .nil)))) (.node (se 120) (.node (se 184) (.node (se 312) (.node (se 568) .nil .nil) (.node (se 824) .nil .nil)) (.node (se 440) (.node (se 696) .nil .nil) (.node (se 952) .nil .nil))) (.node (se 248) (.node (se 376) (.node (se 632) .nil .nil) (.node (se 888) .nil .nil)) (.node (se 504) (.node (se 760) .nil .nil) .nil)))))) (.node (Pre.o_3 P) (.node (Pre.o_13 P) (.node (se 36) (.node (se 68) (.node (se 132) (.node (se 260) (.node (se 516) .nil .nil) (.node (se 772) .nil .nil)) (.node (se 388) (.node (se 644) .nil .nil) (.node (se 900) .nil .nil))) (.node (se 196) (.node (se 324) (.node (se 580) .nil .nil) (.node (se 836) .nil .nil)) (.node (se 452) (.node (se 708) .nil .nil) (.node (se 964) .nil .nil)))) (.node (se 100) (.node (se 164) (.node (se 292) (.node (se 548) .nil .nil) (.node (se 804) .nil .nil)) (.node (se 420) (.node (se 676) .nil .nil) (.node (se 932) .nil .nil))) (.node (se 228) (.node (se 356) (.node (se 612) .nil .nil) (.node (se 868) .nil .nil)) (.node (se 484) (.node (se 740) .nil .nil) .nil)))) (.node (se 52) (.node (se 84) (.node (se 148) (.node (se 276) (.node (se 532) .nil .nil) (.node (se 788) .nil .nil)) (.node (se 404) (.node (se 660) .nil .nil) (.node (se 916) .nil .nil))) (.node (se 212) (.node (se 340) (.node (se 596) .nil .nil) (.node (se 852) .nil .nil)) (.node (se 468) (.node (se 724) .nil .nil) (.node (se 980) .nil .nil)))) (.node (se 116) (.node (se 180) (.node (se 308) (.node (se 564) .nil .nil) (.node (se 820) .nil .nil)) (.node (se 436) (.node (se 692) .nil .nil) (.node (se 948) .nil .nil))) (.node (se 244) (.node (se 372) (.node (se 628) .nil .nil) (.node (se 884) .nil .nil)) (.node (se 500) (.node (se 756) .nil .nil) .nil))))) (.node (se 28) (.node (se 44) (.node (se 76) (.node (se 140) (.node (se 268) (.node (se 524) .nil .nil) (.node (se 780) .nil .nil)) (.node (se 396) (.node (se 652) .nil .nil) (.node (se 908) .nil .nil))) (.node (se 204) (.node (se 332) (.node (se 588) .nil .nil) (.node (se 844) .nil .nil)) (.node (se 460) (.node (se 716) .nil .nil) (.node (se 972) .nil .nil)))) (.node (se 108) (.node (se 172) (.node (se 300) (.node (se 556) .nil .nil) (.node (se 812) .nil .nil)) (.node (se 428) (.node (se 684) .nil .nil) (.node (se 940) .nil .nil))) (.node (se 236) (.node (se 364) (.node (se 620) .nil .nil) (.node (se 876) .nil .nil)) (.node (se 492) (.node (se 748) .nil .nil) .nil)))) (.node (se 60) (.node (se 92) (.node (se 156) (.node (se 284) (.node (se 540) .nil .nil) (.node (se 796) .nil .nil)) (.node (se 412) (.node (se 668) .nil .nil) (.node (se 924) .nil .nil))) (.node (se 220) (.node (se 348) (.node (se 604) .nil .nil) (.node (se 860) .nil .nil)) (.node (se 476) (.node (se 732) .nil .nil) .nil))) (.node (se 124) (.node (se 188) (.node (se 316) (.node (se 572) .nil .nil) (.node (se 828) .nil .nil)) (.node (se 444) (.node (se 700) .nil .nil) (.node (se 956) .nil .nil))) (.node (se 252) (.node (se 380) (.node (se 636) .nil .nil) (.node (se 892) .nil .nil)) (.node (se 508) (.node (se 764) .nil .nil) .nil)))))))) (.node (PySem.W.boot_o_2 P) (.node (PySem.W.boot_o_4 P) (.node (PySem.W.boot_o_8 P) (.node (Pre.o_8 P) (.node tup0 (.node tup0 (.node tup0 (.node tup0 (.node tup0 .nil .nil) (.node tup0 .nil .nil)) (.node tup0 (.node tup0 .nil .nil) (.node tup0 .nil .nil))) (.node tup0 (.node tup0 (.node tup0 .nil .nil) (.node tup0 .nil .nil)) (.node tup0 (.node tup0 .nil .nil) (.node tup0 .nil .nil)))) (.node tup0 (.node tup0 (.node tup0 (.node tup0 .nil .nil) (.node tup0 .nil .nil)) (.node tup0 (.node tup0 .nil .nil) (.node tup0 .nil .nil))) (.node tup0 (.node tup0 (.node tup0 .nil .nil) (.node tup0 .nil .nil)) (.node tup0 (.node tup0 .nil .nil) .nil)))) (.node tup0 (.node tup0 (.node tup0 (.node tup0 (.node tup0 .nil .nil) (.node tup0 .nil .nil)) (.node tup0 (.node tup0 .nil .nil) (.node tup0 .nil .nil))) (.node tup0 (.node tup0 (.node tup0 .nil .nil) (.node tup0 .nil .nil)) (.node tup0 (.node tup0 .nil .nil) (.node tup0 .nil .nil)))) (.node tup0 (.node tup0 (.node tup0 (.node tup0 .nil .nil) (.node tup0 .nil .nil)) (.node tup0 (.node tup0 .nil .nil) (.node tup0 .nil .nil))) (.node tup0 (.node tup0 (.node tup0 .nil .nil) (.node tup0 .nil .nil)) (.node tup0 (.node tup0 .nil .nil) .nil))))) (.node r256 (.node tup0 (.node tup0 (.node tup0 (.node tup0 (.node tup0 .nil .nil) (.node tup0 .nil .nil)) (.node tup0 (.node tup0 .nil .nil) (.node tup0 .nil .nil))) (.node tup0 (.node tup0 (.node tup0 .nil .nil) (.node tup0 .nil .nil)) (.node tup0 (.node tup0 .nil .nil) (.node tup0 .nil .nil)))) (.node tup0 (.node tup0 (.node tup0 (.node tup0 .nil .nil) (.node tup0 .nil .nil)) (.node tup0 (.node tup0 .nil .nil) (.node tup0 .nil .nil))) (.node tup0 (.node tup0 (.node tup0 .nil .nil) (.node tup0 .nil .nil)) (.node tup0 (.node tup0 .nil .nil) .nil)))) (.node tup0 (.node tup0 (.node tup0 (.node tup0 (.node tup0 .nil .nil) (.node tup0 .nil .nil)) (.node tup0 (.node tup0 .nil .nil) (.node tup0 .nil .nil))) (.node tup0 (.node tup0 (.node tup0 .nil .nil) (.node tup0 .nil .nil)) (.node tup0 (.node tup0 .nil .nil) (.node tup0 .nil .nil)))) (.node tup0 (.node tup0 (.node tup0 (.node tup0 .nil .nil) (.node tup0 .nil .nil)) (.node tup0 (.node tup0 .nil .nil) (.node tup0 .nil .nil))) (.node tup0 (.node tup0 (.node tup0 .nil .nil) (.node tup0 .nil .nil)) (.node tup0 (.node tup0 .nil .nil) .nil)))))) (.node (Pre.o_6 P) (.node (Pre.o_12 P) (.node tup0 (.node tup0 (.node tup0 (.node tup0 (.node tup0 .nil .nil) (.node tup0 .nil .nil)) (.node tup0 (.node tup0 .nil .nil) (.node tup0 .nil .nil))) (.node tup0 (.node tup0 (.node tup0 .nil .nil) (.node tup0 .nil .nil)) (.node tup0 (.node tup0 .nil .nil) (.node tup0 .nil .nil)))) (.node tup0 (.node tup0 (.node tup0 (.node tup0 .nil .nil) (.node tup0 .nil .nil)) (.node tup0 (.node tup0 .nil .nil) (.node tup0 .nil .nil))) (.node tup0 (.node tup0 (.node tup0 .nil .nil) (.node tup0 .nil .nil)) (.node tup0 (.node tup0 .nil .nil) .nil)))) (.node tup0 (.node tup0 (.node tup0 (.node tup0 (.node tup0 .nil .nil) (.node tup0 .nil .nil)) (.node tup0 (.node tup0 .nil .nil) (.node tup0 .nil .nil))) (.node tup0 (.node tup0 (.node tup0 .nil .nil) (.node tup0 .nil .nil)) (.node tup0 (.node tup0 .nil .nil) (.node tup0 .nil .nil)))) (.node tup0 (.node tup0 (.node tup0 (.node tup0 .nil .nil) (.node tup0 .nil .nil)) (.node tup0 (.node tup0 .nil .nil) (.node tup0 .nil .nil))) (.node tup0 (.node tup0 (.node tup0 .nil .nil) (.node tup0 .nil .nil)) (.node tup0 (.node tup0 .nil .nil) .nil))))) (.node tup0 (.node tup0 (.node tup0 (.node tup0 (.node tup0 (.node tup0 .nil .nil) (.node tup0 .nil .nil)) (.node tup0 (.node tup0 .nil .nil) (.node tup0 .nil .nil))) (.node tup0 (.node tup0 (.node tup0 .nil .nil) (.node tup0 .nil .nil)) (.node tup0 (.node tup0 .nil .nil) (.node tup0 .nil .nil)))) (.node tup0 (.node tup0 (.node tup0 (.node tup0 .nil .nil) (.node tup0 .nil .nil)) (.node tup0 (.node tup0 .nil .nil) (.node tup0 .nil .nil))) (.node tup0 (.node tup0 (.node tup0 .nil .nil) (.node tup0 .nil .nil)) (.node tup0 (.node tup0 .nil .nil) .nil)))) (.node tup0 (.node tup0 (.node tup0 (.node tup0 (.node tup0 .nil .nil) (.node tup0 .nil .nil)) (.node tup0 (.node tup0 .nil .nil) (.node tup0 .nil .nil))) (.node tup0 (.node tup0 (.node tup0 .nil .nil) (.node tup0 .nil .nil)) (.node tup0 (.node tup0 .nil .nil) .nil))) (.node tup0 (.node tup0 (.node tup0 (.node tup0 .nil .nil) (.node tup0 .nil .nil)) (.node tup0 (.node tup0 .nil .nil) (.node tup0 .nil .nil))) (.node tup0 (.node tup0 (.node tup0 .nil .nil) (.node tup0 .nil .nil)) (.node tup0 (.node tup0 .nil .nil) .nil))))))) (.node (PySem.W.boot_o_6 P) (.node (PySem.W.boot_o_10 P) (.node (Pre.o_10 P) (.node (rg 335) (.node (rg 853) (.node (rg 1903) (.node (rg 4025) (.node (rg 8249) .nil .nil) (.node (rg 12475) .nil .nil)) (.node (rg 6127) (.node (rg 10353) .nil .nil) (.node (rg 14577) .nil .nil))) (.node (rg 2959) (.node (rg 5077) (.node (rg 9303) .nil .nil) (.node (rg 13527) .nil .nil)) (.node (rg 7183) (.node (rg 11409) .nil .nil) (.node (rg 15633) .nil .nil)))) (.node (rg 1377) (.node (rg 2433) (.node (rg 4559) (.node (rg 8785) .nil .nil) (.node (rg 13009) .nil .nil)) (.node (rg 6657) (.node (rg 10883) .nil .nil) (.node (rg 15107) .nil .nil))) (.node (rg 3491) (.node (rg 5601) (.node (rg 9827) .nil .nil) (.node (rg 14051) .nil .nil)) (.node (rg 7715) (.node (rg 11941) .nil .nil) .nil)))) (.node (rg 593) (.node (rg 1115) (.node (rg 2169) (.node (rg 4295) (.node (rg 8519) .nil .nil) (.node (rg 12745) .nil .nil)) (.node (rg 6393) (.node (rg 10619) .nil .nil) (.node (rg 14843) .nil .nil))) (.node (rg 3225) (.node (rg 5339) (.node (rg 9565) .nil .nil) (.node (rg 13789) .nil .nil)) (.node (rg 7449) (.node (rg 11675) .nil .nil) (.node (rg 15899) .nil .nil)))) (.node (rg 1639) (.node (rg 2695) (.node (rg 4817) (.node (rg 9043) .nil .nil) (.node (rg 13267) .nil .nil)) (.node (rg 6919) (.node (rg 11145) .nil .nil) (.node (rg 15369) .nil .nil))) (.node (rg 3757) (.node (rg 5863) (.node (rg 10089) .nil .nil) (.node (rg 14313) .nil .nil)) (.node (rg 7981) (.node (rg 12207) .nil .nil) .nil))))) (.node (rg 209) (.node (rg 465) (.node (rg 985) (.node (rg 2037) (.node (rg 4161) (.node (rg 8385) .nil .nil) (.node (rg 12609) .nil .nil)) (.node (rg 6261) (.node (rg 10485) .nil .nil) (.node (rg 14709) .nil .nil))) (.node (rg 3093) (.node (rg 5209) (.node (rg 9433) .nil .nil) (.node (rg 13657) .nil .nil)) (.node (rg 7317) (.node (rg 11541) .nil .nil) (.node (rg 15765) .nil .nil)))) (.node (rg 1509) (.node (rg 2565) (.node (rg 4689) (.node (rg 8913) .nil .nil) (.node (rg 13137) .nil .nil)) (.node (rg 6789) (.node (rg 11013) .nil .nil) (.node (rg 15237) .nil .nil))) (.node (rg 3625) (.node (rg 5733) (.node (rg 9957) .nil .nil) (.node (rg 14181) .nil .nil)) (.node (rg 7849) (.node (rg 12073) .nil .nil) .nil)))) (.node (rg 725) (.node (rg 1249) (.node (rg 2305) (.node (rg 4433) (.node (rg 8657) .nil .nil) (.node (rg 12881) .nil .nil)) (.node (rg 6529) (.node (rg 10753) .nil .nil) (.node (rg 14977) .nil .nil))) (.node (rg 3361) (.node (rg 5473) (.node (rg 9697) .nil .nil) (.node (rg 13921) .nil .nil)) (.node (rg 7585) (.node (rg 11809) .nil .nil) .nil))) (.node (rg 1773) (.node (rg 2829) (.node (rg 4949) (.node (rg 9173) .nil .nil) (.node (rg 13397) .nil .nil)) (.node (rg 7053) (.node (rg 11277) .nil .nil) (.node (rg 15501) .nil .nil))) (.node (rg 3893) (.node (rg 5997) (.node (rg 10221) .nil .nil) (.node (rg 14445) .nil .nil)) (.node (rg 8117) (.node (rg 12341) .nil .nil) .nil)))))) (.node (Pre.o_4 P) (.node (lc P 240) (.node (rg 399) (.node (rg 918) (.node (rg 1969) (.node (rg 4092) (.node (rg 8317) .nil .nil) (.node (rg 12541) .nil .nil)) (.node (rg 6194) (.node (rg 10418) .nil .nil) (.node (rg 14643) .nil .nil))) (.node (rg 3025) (.node (rg 5143) (.node (rg 9367) .nil .nil) (.node (rg 13592) .nil .nil)) (.node (rg 7250) (.node (rg 11474) .nil .nil) (.node (rg 15699) .nil .nil)))) (.node (rg 1442) (.node (rg 2498) (.node (rg 4624) (.node (rg 8848) .nil .nil) (.node (rg 13073) .nil .nil)) (.node (rg 6723) (.node (rg 10947) .nil .nil) (.node (rg 15172) .nil .nil))) (.node (rg 3557) (.node (rg 5667) (.node (rg 9891) .nil .nil) (.node (rg 14116) .nil .nil)) (.node (rg 7782) (.node (rg 12006) .nil .nil) .nil)))) (.node (rg 658) (.node (rg 1181) (.node (rg 2236) (.node (rg 4363) (.node (rg 8588) .nil .nil) (.node (rg 12812) .nil .nil)) (.node (rg 6461) (.node (rg 10685) .nil .nil) (.node (rg 14910) .nil .nil))) (.node (rg 3292) (.node (rg 5406) (.node (rg 9630) .nil .nil) (.node (rg 13855) .nil .nil)) (.node (rg 7517) (.node (rg 11741) .nil .nil) (.node (rg 15966) .nil .nil)))) (.node (rg 1705) (.node (rg 2761) (.node (rg 4883) (.node (rg 9107) .nil .nil) (.node (rg 13332) .nil .nil)) (.node (rg 6986) (.node (rg 11210) .nil .nil) (.node (rg 15435) .nil .nil))) (.node (rg 3824) (.node (rg 5930) (.node (rg 10154) .nil .nil) (.node (rg 14379) .nil .nil)) (.node (rg 8049) (.node (rg 12273) .nil .nil) .nil))))) (.node (rg 271) (.node (rg 528) (.node (rg 1049) (.node (rg 2102) (.node (rg 4227) (.node (rg 8452) .nil .nil) (.node (rg 12676) .nil .nil)) (.node (rg 6327) (.node (rg 10551) .nil .nil) (.node (rg 14776) .nil .nil))) (.node (rg 3158) (.node (rg 5274) (.node (rg 9498) .nil .nil) (.node (rg 13723) .nil .nil)) (.node (rg 7383) (.node (rg 11607) .nil .nil) (.node (rg 15832) .nil .nil)))) (.node (rg 1573) (.node (rg 2629) (.node (rg 4753) (.node (rg 8977) .nil .nil) (.node (rg 13202) .nil .nil)) (.node (rg 6854) (.node (rg 11078) .nil .nil) (.node (rg 15303) .nil .nil))) (.node (rg 3690) (.node (rg 5798) (.node (rg 10022) .nil .nil) (.node (rg 14247) .nil .nil)) (.node (rg 7915) (.node (rg 12139) .nil .nil) .nil)))) (.node (rg 788) (.node (rg 1312) (.node (rg 2368) (.node (rg 4496) (.node (rg 8720) .nil .nil) (.node (rg 12945) .nil .nil)) (.node (rg 6593) (.node (rg 10817) .nil .nil) (.node (rg 15042) .nil .nil))) (.node (rg 3425) (.node (rg 5537) (.node (rg 9761) .nil .nil) (.node (rg 13986) .nil .nil)) (.node (rg 7650) (.node (rg 11874) .nil .nil) .nil))) (.node (rg 1837) (.node (rg 2893) (.node (rg 5013) (.node (rg 9237) .nil .nil) (.node (rg 13462) .nil .nil)) (.node (rg 7118) (.node (rg 11342) .nil .nil) (.node (rg 15567) .nil .nil))) (.node (rg 3958) (.node (rg 6062) (.node (rg 10286) .nil .nil) (.node (rg 14511) .nil .nil)) (.node (rg 8183) (.node (rg 12407) .nil .nil) .nil)))))))))
def n0 : List Obj := []
noncomputable def t0 (P : Params) : BT := B0 P
noncomputable def a0 (P : Params) (os : OsState) : SharedT := shr (t0 P) 26 208 os
noncomputable def b0 (P : Params) (os : OsState) : SharedT := shr (insL (t0 P) 26 [rg 209, rit 0 8]) 28 211 os
def n1 : List Obj := n0 ++ [(rg 209), ri, tup0, (se 28)]
noncomputable def t1 (P : Params) : BT := insL (top3 (B0 P) P 1) 26 n1
noncomputable def a1 (P : Params) (os : OsState) : SharedT := shr (t1 P) 30 270 os
noncomputable def b1 (P : Params) (os : OsState) : SharedT := shr (insL (t1 P) 30 [rg 271, rit 0 8]) 32 273 os
def n2 : List Obj := n1 ++ [(rg 271), ri, tup0, (se 32)]
noncomputable def t2 (P : Params) : BT := insL (top3 (B0 P) P 2) 26 n2
noncomputable def a2 (P : Params) (os : OsState) : SharedT := shr (t2 P) 34 334 os
noncomputable def b2 (P : Params) (os : OsState) : SharedT := shr (insL (t2 P) 34 [rg 335, rit 0 8]) 36 337 os
def n3 : List Obj := n2 ++ [(rg 335), ri, tup0, (se 36)]
noncomputable def t3 (P : Params) : BT := insL (top3 (B0 P) P 3) 26 n3
noncomputable def a3 (P : Params) (os : OsState) : SharedT := shr (t3 P) 38 398 os
noncomputable def b3 (P : Params) (os : OsState) : SharedT := shr (insL (t3 P) 38 [rg 399, rit 0 8]) 40 401 os
def n4 : List Obj := n3 ++ [(rg 399), ri, tup0, (se 40)]
noncomputable def t4 (P : Params) : BT := insL (top3 (B0 P) P 4) 26 n4
noncomputable def a4 (P : Params) (os : OsState) : SharedT := shr (t4 P) 42 464 os
noncomputable def b4 (P : Params) (os : OsState) : SharedT := shr (insL (t4 P) 42 [rg 465, rit 0 8]) 44 467 os
def n5 : List Obj := n4 ++ [(rg 465), ri, tup0, (se 44)]
noncomputable def t5 (P : Params) : BT := insL (top3 (B0 P) P 5) 26 n5
noncomputable def a5 (P : Params) (os : OsState) : SharedT := shr (t5 P) 46 527 os
noncomputable def b5 (P : Params) (os : OsState) : SharedT := shr (insL (t5 P) 46 [rg 528, rit 0 8]) 48 530 os
def n6 : List Obj := n5 ++ [(rg 528), ri, tup0, (se 48)]
noncomputable def t6 (P : Params) : BT := insL (top3 (B0 P) P 6) 26 n6
noncomputable def a6 (P : Params) (os : OsState) : SharedT := shr (t6 P) 50 592 os
noncomputable def b6 (P : Params) (os : OsState) : SharedT := shr (insL (t6 P) 50 [rg 593, rit 0 8]) 52 595 os
def n7 : List Obj := n6 ++ [(rg 593), ri, tup0, (se 52)]
noncomputable def t7 (P : Params) : BT := insL (top3 (B0 P) P 7) 26 n7
noncomputable def a7 (P : Params) (os : OsState) : SharedT := shr (t7 P) 54 657 os
noncomputable def b7 (P : Params) (os : OsState) : SharedT := shr (insL (t7 P) 54 [rg 658, rit 0 8]) 56 660 os
def n8 : List Obj := n7 ++ [(rg 658), ri, tup0, (se 56)]
noncomputable def t8 (P : Params) : BT := insL (top3 (B0 P) P 8) 26 n8
noncomputable def a8 (P : Params) (os : OsState) : SharedT := shr (t8 P) 58 724 os
noncomputable def b8 (P : Params) (os : OsState) : SharedT := shr (insL (t8 P) 58 [rg 725, rit 0 8]) 60 727 os
def n9 : List Obj := n8 ++ [(rg 725), ri, tup0, (se 60)]
noncomputable def t9 (P : Params) : BT := insL (top3 (B0 P) P 9) 26 n9
noncomputable def a9 (P : Params) (os : OsState) : SharedT := shr (t9 P) 62 787 os
noncomputable def b9 (P : Params) (os : OsState) : SharedT := shr (insL (t9 P) 62 [rg 788, rit 0 8]) 64 790 os
def n10 : List Obj := n9 ++ [(rg 788), ri, tup0, (se 64)]
noncomputable def t10 (P : Params) : BT := insL (top3 (B0 P) P 10) 26 n10
noncomputable def a10 (P : Params) (os : OsState) : SharedT := shr (t10 P) 66 852 os
noncomputable def b10 (P : Params) (os : OsState) : SharedT := shr (insL (t10 P) 66 [rg 853, rit 0 8]) 68 855 os
def n11 : List Obj := n10 ++ [(rg 853), ri, tup0, (se 68)]
noncomputable def t11 (P : Params) : BT := insL (top3 (B0 P) P 11) 26 n11
noncomputable def a11 (P : Params) (os : OsState) : SharedT := shr (t11 P) 70 917 os
noncomputable def b11 (P : Params) (os : OsState) : SharedT := shr (insL (t11 P) 70 [rg 918, rit 0 8]) 72 920 os
def n12 : List Obj := n11 ++ [(rg 918), ri, tup0, (se 72)]
noncomputable def t12 (P : Params) : BT := insL (top3 (B0 P) P 12) 26 n12
noncomputable def a12 (P : Params) (os : OsState) : SharedT := shr (t12 P) 74 984 os
noncomputable def b12 (P : Params) (os : OsState) : SharedT := shr (insL (t12 P) 74 [rg 985, rit 0 8]) 76 987 os
def n13 : List Obj := n12 ++ [(rg 985), ri, tup0, (se 76)]
noncomputable def t13 (P : Params) : BT := insL (top3 (B0 P) P 13) 26 n13
noncomputable def a13 (P : Params) (os : OsState) : SharedT := shr (t13 P) 78 1048 os
noncomputable def b13 (P : Params) (os : OsState) : SharedT := shr (insL (t13 P) 78 [rg 1049, rit 0 8]) 80 1051 os
def n14 : List Obj := n13 ++ [(rg 1049), ri, tup0, (se 80)]
noncomputable def t14 (P : Params) : BT := insL (top3 (B0 P) P 14) 26 n14
noncomputable def a14 (P : Params) (os : OsState) : SharedT := shr (t14 P) 82 1114 os
noncomputable def b14 (P : Params) (os : OsState) : SharedT := shr (insL (t14 P) 82 [rg 1115, rit 0 8]) 84 1117 os
def n15 : List Obj := n14 ++ [(rg 1115), ri, tup0, (se 84)]
noncomputable def t15 (P : Params) : BT := insL (top3 (B0 P) P 15) 26 n15
noncomputable def a15 (P : Params) (os : OsState) : SharedT := shr (t15 P) 86 1180 os
noncomputable def b15 (P : Params) (os : OsState) : SharedT := shr (insL (t15 P) 86 [rg 1181, rit 0 8]) 88 1183 os
def n16 : List Obj := []
noncomputable def t16 (P : Params) : BT := B1 P
noncomputable def a16 (P : Params) (os : OsState) : SharedT := shr (t16 P) 90 1248 os
noncomputable def b16 (P : Params) (os : OsState) : SharedT := shr (insL (t16 P) 90 [rg 1249, rit 0 8]) 92 1251 os
def n17 : List Obj := n16 ++ [(rg 1249), ri, tup0, (se 92)]
noncomputable def t17 (P : Params) : BT := insL (top3 (B1 P) P 17) 90 n17
noncomputable def a17 (P : Params) (os : OsState) : SharedT := shr (t17 P) 94 1311 os
noncomputable def b17 (P : Params) (os : OsState) : SharedT := shr (insL (t17 P) 94 [rg 1312, rit 0 8]) 96 1314 os
def n18 : List Obj := n17 ++ [(rg 1312), ri, tup0, (se 96)]
noncomputable def t18 (P : Params) : BT := insL (top3 (B1 P) P 18) 90 n18
noncomputable def a18 (P : Params) (os : OsState) : SharedT := shr (t18 P) 98 1376 os
noncomputable def b18 (P : Params) (os : OsState) : SharedT := shr (insL (t18 P) 98 [rg 1377, rit 0 8]) 100 1379 os
def n19 : List Obj := n18 ++ [(rg 1377), ri, tup0, (se 100)]
noncomputable def t19 (P : Params) : BT := insL (top3 (B1 P) P 19) 90 n19
noncomputable def a19 (P : Params) (os : OsState) : SharedT := shr (t19 P) 102 1441 os
noncomputable def b19 (P : Params) (os : OsState) : SharedT := shr (insL (t19 P) 102 [rg 1442, rit 0 8]) 104 1444 os
def n20 : List Obj := n19 ++ [(rg 1442), ri, tup0, (se 104)]
noncomputable def t20 (P : Params) : BT := insL (top3 (B1 P) P 20) 90 n20
noncomputable def a20 (P : Params) (os : OsState) : SharedT := shr (t20 P) 106 1508 os
noncomputable def b20 (P : Params) (os : OsState) : SharedT := shr (insL (t20 P) 106 [rg 1509, rit 0 8]) 108 1511 os
def n21 : List Obj := n20 ++ [(rg 1509), ri, tup0, (se 108)]
noncomputable def t21 (P : Params) : BT := insL (top3 (B1 P) P 21) 90 n21
noncomputable def a21 (P : Params) (os : OsState) : SharedT := shr (t21 P) 110 1572 os
noncomputable def b21 (P : Params) (os : OsState) : SharedT := shr (insL (t21 P) 110 [rg 1573, rit 0 8]) 112 1575 os
def n22 : List Obj := n21 ++ [(rg 1573), ri, tup0, (se 112)]
noncomputable def t22 (P : Params) : BT := insL (top3 (B1 P) P 22) 90 n22
noncomputable def a22 (P : Params) (os : OsState) : SharedT := shr (t22 P) 114 1638 os
noncomputable def b22 (P : Params) (os : OsState) : SharedT := shr (insL (t22 P) 114 [rg 1639, rit 0 8]) 116 1641 os
def n23 : List Obj := n22 ++ [(rg 1639), ri, tup0, (se 116)]
noncomputable def t23 (P : Params) : BT := insL (top3 (B1 P) P 23) 90 n23
noncomputable def a23 (P : Params) (os : OsState) : SharedT := shr (t23 P) 118 1704 os
noncomputable def b23 (P : Params) (os : OsState) : SharedT := shr (insL (t23 P) 118 [rg 1705, rit 0 8]) 120 1707 os
def n24 : List Obj := n23 ++ [(rg 1705), ri, tup0, (se 120)]
noncomputable def t24 (P : Params) : BT := insL (top3 (B1 P) P 24) 90 n24
noncomputable def a24 (P : Params) (os : OsState) : SharedT := shr (t24 P) 122 1772 os
noncomputable def b24 (P : Params) (os : OsState) : SharedT := shr (insL (t24 P) 122 [rg 1773, rit 0 8]) 124 1775 os
def n25 : List Obj := n24 ++ [(rg 1773), ri, tup0, (se 124)]
noncomputable def t25 (P : Params) : BT := insL (top3 (B1 P) P 25) 90 n25
noncomputable def a25 (P : Params) (os : OsState) : SharedT := shr (t25 P) 126 1836 os
noncomputable def b25 (P : Params) (os : OsState) : SharedT := shr (insL (t25 P) 126 [rg 1837, rit 0 8]) 128 1839 os
def n26 : List Obj := n25 ++ [(rg 1837), ri, tup0, (se 128)]
noncomputable def t26 (P : Params) : BT := insL (top3 (B1 P) P 26) 90 n26
noncomputable def a26 (P : Params) (os : OsState) : SharedT := shr (t26 P) 130 1902 os
noncomputable def b26 (P : Params) (os : OsState) : SharedT := shr (insL (t26 P) 130 [rg 1903, rit 0 8]) 132 1905 os
def n27 : List Obj := n26 ++ [(rg 1903), ri, tup0, (se 132)]
noncomputable def t27 (P : Params) : BT := insL (top3 (B1 P) P 27) 90 n27
noncomputable def a27 (P : Params) (os : OsState) : SharedT := shr (t27 P) 134 1968 os
noncomputable def b27 (P : Params) (os : OsState) : SharedT := shr (insL (t27 P) 134 [rg 1969, rit 0 8]) 136 1971 os
def n28 : List Obj := n27 ++ [(rg 1969), ri, tup0, (se 136)]
noncomputable def t28 (P : Params) : BT := insL (top3 (B1 P) P 28) 90 n28
noncomputable def a28 (P : Params) (os : OsState) : SharedT := shr (t28 P) 138 2036 os
noncomputable def b28 (P : Params) (os : OsState) : SharedT := shr (insL (t28 P) 138 [rg 2037, rit 0 8]) 140 2039 os
def n29 : List Obj := n28 ++ [(rg 2037), ri, tup0, (se 140)]
noncomputable def t29 (P : Params) : BT := insL (top3 (B1 P) P 29) 90 n29
noncomputable def a29 (P : Params) (os : OsState) : SharedT := shr (t29 P) 142 2101 os
noncomputable def b29 (P : Params) (os : OsState) : SharedT := shr (insL (t29 P) 142 [rg 2102, rit 0 8]) 144 2104 os
def n30 : List Obj := n29 ++ [(rg 2102), ri, tup0, (se 144)]
noncomputable def t30 (P : Params) : BT := insL (top3 (B1 P) P 30) 90 n30
noncomputable def a30 (P : Params) (os : OsState) : SharedT := shr (t30 P) 146 2168 os
noncomputable def b30 (P : Params) (os : OsState) : SharedT := shr (insL (t30 P) 146 [rg 2169, rit 0 8]) 148 2171 os
def n31 : List Obj := n30 ++ [(rg 2169), ri, tup0, (se 148)]
noncomputable def t31 (P : Params) : BT := insL (top3 (B1 P) P 31) 90 n31
noncomputable def a31 (P : Params) (os : OsState) : SharedT := shr (t31 P) 150 2235 os
noncomputable def b31 (P : Params) (os : OsState) : SharedT := shr (insL (t31 P) 150 [rg 2236, rit 0 8]) 152 2238 os
def n32 : List Obj := []
noncomputable def t32 (P : Params) : BT := B2 P
noncomputable def a32 (P : Params) (os : OsState) : SharedT := shr (t32 P) 154 2304 os
noncomputable def b32 (P : Params) (os : OsState) : SharedT := shr (insL (t32 P) 154 [rg 2305, rit 0 8]) 156 2307 os
def n33 : List Obj := n32 ++ [(rg 2305), ri, tup0, (se 156)]
noncomputable def t33 (P : Params) : BT := insL (top3 (B2 P) P 33) 154 n33
noncomputable def a33 (P : Params) (os : OsState) : SharedT := shr (t33 P) 158 2367 os
noncomputable def b33 (P : Params) (os : OsState) : SharedT := shr (insL (t33 P) 158 [rg 2368, rit 0 8]) 160 2370 os
def n34 : List Obj := n33 ++ [(rg 2368), ri, tup0, (se 160)]
noncomputable def t34 (P : Params) : BT := insL (top3 (B2 P) P 34) 154 n34
noncomputable def a34 (P : Params) (os : OsState) : SharedT := shr (t34 P) 162 2432 os
noncomputable def b34 (P : Params) (os : OsState) : SharedT := shr (insL (t34 P) 162 [rg 2433, rit 0 8]) 164 2435 os
def n35 : List Obj := n34 ++ [(rg 2433), ri, tup0, (se 164)]
noncomputable def t35 (P : Params) : BT := insL (top3 (B2 P) P 35) 154 n35
noncomputable def a35 (P : Params) (os : OsState) : SharedT := shr (t35 P) 166 2497 os
noncomputable def b35 (P : Params) (os : OsState) : SharedT := shr (insL (t35 P) 166 [rg 2498, rit 0 8]) 168 2500 os
def n36 : List Obj := n35 ++ [(rg 2498), ri, tup0, (se 168)]
noncomputable def t36 (P : Params) : BT := insL (top3 (B2 P) P 36) 154 n36
noncomputable def a36 (P : Params) (os : OsState) : SharedT := shr (t36 P) 170 2564 os
noncomputable def b36 (P : Params) (os : OsState) : SharedT := shr (insL (t36 P) 170 [rg 2565, rit 0 8]) 172 2567 os
def n37 : List Obj := n36 ++ [(rg 2565), ri, tup0, (se 172)]
noncomputable def t37 (P : Params) : BT := insL (top3 (B2 P) P 37) 154 n37
noncomputable def a37 (P : Params) (os : OsState) : SharedT := shr (t37 P) 174 2628 os
noncomputable def b37 (P : Params) (os : OsState) : SharedT := shr (insL (t37 P) 174 [rg 2629, rit 0 8]) 176 2631 os
def n38 : List Obj := n37 ++ [(rg 2629), ri, tup0, (se 176)]
noncomputable def t38 (P : Params) : BT := insL (top3 (B2 P) P 38) 154 n38
noncomputable def a38 (P : Params) (os : OsState) : SharedT := shr (t38 P) 178 2694 os
noncomputable def b38 (P : Params) (os : OsState) : SharedT := shr (insL (t38 P) 178 [rg 2695, rit 0 8]) 180 2697 os
def n39 : List Obj := n38 ++ [(rg 2695), ri, tup0, (se 180)]
noncomputable def t39 (P : Params) : BT := insL (top3 (B2 P) P 39) 154 n39
noncomputable def a39 (P : Params) (os : OsState) : SharedT := shr (t39 P) 182 2760 os
noncomputable def b39 (P : Params) (os : OsState) : SharedT := shr (insL (t39 P) 182 [rg 2761, rit 0 8]) 184 2763 os
def n40 : List Obj := n39 ++ [(rg 2761), ri, tup0, (se 184)]
noncomputable def t40 (P : Params) : BT := insL (top3 (B2 P) P 40) 154 n40
noncomputable def a40 (P : Params) (os : OsState) : SharedT := shr (t40 P) 186 2828 os
noncomputable def b40 (P : Params) (os : OsState) : SharedT := shr (insL (t40 P) 186 [rg 2829, rit 0 8]) 188 2831 os
def n41 : List Obj := n40 ++ [(rg 2829), ri, tup0, (se 188)]
noncomputable def t41 (P : Params) : BT := insL (top3 (B2 P) P 41) 154 n41
noncomputable def a41 (P : Params) (os : OsState) : SharedT := shr (t41 P) 190 2892 os
noncomputable def b41 (P : Params) (os : OsState) : SharedT := shr (insL (t41 P) 190 [rg 2893, rit 0 8]) 192 2895 os
def n42 : List Obj := n41 ++ [(rg 2893), ri, tup0, (se 192)]
noncomputable def t42 (P : Params) : BT := insL (top3 (B2 P) P 42) 154 n42
noncomputable def a42 (P : Params) (os : OsState) : SharedT := shr (t42 P) 194 2958 os
noncomputable def b42 (P : Params) (os : OsState) : SharedT := shr (insL (t42 P) 194 [rg 2959, rit 0 8]) 196 2961 os
def n43 : List Obj := n42 ++ [(rg 2959), ri, tup0, (se 196)]
noncomputable def t43 (P : Params) : BT := insL (top3 (B2 P) P 43) 154 n43
noncomputable def a43 (P : Params) (os : OsState) : SharedT := shr (t43 P) 198 3024 os
noncomputable def b43 (P : Params) (os : OsState) : SharedT := shr (insL (t43 P) 198 [rg 3025, rit 0 8]) 200 3027 os
def n44 : List Obj := n43 ++ [(rg 3025), ri, tup0, (se 200)]
noncomputable def t44 (P : Params) : BT := insL (top3 (B2 P) P 44) 154 n44
noncomputable def a44 (P : Params) (os : OsState) : SharedT := shr (t44 P) 202 3092 os
noncomputable def b44 (P : Params) (os : OsState) : SharedT := shr (insL (t44 P) 202 [rg 3093, rit 0 8]) 204 3095 os
def n45 : List Obj := n44 ++ [(rg 3093), ri, tup0, (se 204)]
noncomputable def t45 (P : Params) : BT := insL (top3 (B2 P) P 45) 154 n45
noncomputable def a45 (P : Params) (os : OsState) : SharedT := shr (t45 P) 206 3157 os
noncomputable def b45 (P : Params) (os : OsState) : SharedT := shr (insL (t45 P) 206 [rg 3158, rit 0 8]) 208 3160 os
def n46 : List Obj := n45 ++ [(rg 3158), ri, tup0, (se 208)]
noncomputable def t46 (P : Params) : BT := insL (top3 (B2 P) P 46) 154 n46
noncomputable def a46 (P : Params) (os : OsState) : SharedT := shr (t46 P) 210 3224 os
noncomputable def b46 (P : Params) (os : OsState) : SharedT := shr (insL (t46 P) 210 [rg 3225, rit 0 8]) 212 3227 os
def n47 : List Obj := n46 ++ [(rg 3225), ri, tup0, (se 212)]
noncomputable def t47 (P : Params) : BT := insL (top3 (B2 P) P 47) 154 n47
noncomputable def a47 (P : Params) (os : OsState) : SharedT := shr (t47 P) 214 3291 os
noncomputable def b47 (P : Params) (os : OsState) : SharedT := shr (insL (t47 P) 214 [rg 3292, rit 0 8]) 216 3294 os
def n48 : List Obj := []
noncomputable def t48 (P : Params) : BT := B3 P
noncomputable def a48 (P : Params) (os : OsState) : SharedT := shr (t48 P) 218 3360 os
noncomputable def b48 (P : Params) (os : OsState) : SharedT := shr (insL (t48 P) 218 [rg 3361, rit 0 8]) 220 3363 os
def n49 : List Obj := n48 ++ [(rg 3361), ri, tup0, (se 220)]
noncomputable def t49 (P : Params) : BT := insL (top3 (B3 P) P 49) 218 n49
noncomputable def a49 (P : Params) (os : OsState) : SharedT := shr (t49 P) 222 3424 os
noncomputable def b49 (P : Params) (os : OsState) : SharedT := shr (insL (t49 P) 222 [rg 3425, rit 0 8]) 224 3427 os
def n50 : List Obj := n49 ++ [(rg 3425), ri, tup0, (se 224)]
noncomputable def t50 (P : Params) : BT := insL (top3 (B3 P) P 50) 218 n50
noncomputable def a50 (P : Params) (os : OsState) : SharedT := shr (t50 P) 226 3490 os
noncomputable def b50 (P : Params) (os : OsState) : SharedT := shr (insL (t50 P) 226 [rg 3491, rit 0 8]) 228 3493 os
def n51 : List Obj := n50 ++ [(rg 3491), ri, tup0, (se 228)]
noncomputable def t51 (P : Params) : BT := insL (top3 (B3 P) P 51) 218 n51
noncomputable def a51 (P : Params) (os : OsState) : SharedT := shr (t51 P) 230 3556 os
noncomputable def b51 (P : Params) (os : OsState) : SharedT := shr (insL (t51 P) 230 [rg 3557, rit 0 8]) 232 3559 os
def n52 : List Obj := n51 ++ [(rg 3557), ri, tup0, (se 232)]
noncomputable def t52 (P : Params) : BT := insL (top3 (B3 P) P 52) 218 n52
noncomputable def a52 (P : Params) (os : OsState) : SharedT := shr (t52 P) 234 3624 os
noncomputable def b52 (P : Params) (os : OsState) : SharedT := shr (insL (t52 P) 234 [rg 3625, rit 0 8]) 236 3627 os
def n53 : List Obj := n52 ++ [(rg 3625), ri, tup0, (se 236)]
noncomputable def t53 (P : Params) : BT := insL (top3 (B3 P) P 53) 218 n53
noncomputable def a53 (P : Params) (os : OsState) : SharedT := shr (t53 P) 238 3689 os
noncomputable def b53 (P : Params) (os : OsState) : SharedT := shr (insL (t53 P) 238 [rg 3690, rit 0 8]) 240 3692 os
def n54 : List Obj := n53 ++ [(rg 3690), ri, tup0, (se 240)]
noncomputable def t54 (P : Params) : BT := insL (top3 (B3 P) P 54) 218 n54
noncomputable def a54 (P : Params) (os : OsState) : SharedT := shr (t54 P) 242 3756 os
noncomputable def b54 (P : Params) (os : OsState) : SharedT := shr (insL (t54 P) 242 [rg 3757, rit 0 8]) 244 3759 os
def n55 : List Obj := n54 ++ [(rg 3757), ri, tup0, (se 244)]
noncomputable def t55 (P : Params) : BT := insL (top3 (B3 P) P 55) 218 n55
noncomputable def a55 (P : Params) (os : OsState) : SharedT := shr (t55 P) 246 3823 os
noncomputable def b55 (P : Params) (os : OsState) : SharedT := shr (insL (t55 P) 246 [rg 3824, rit 0 8]) 248 3826 os
def n56 : List Obj := n55 ++ [(rg 3824), ri, tup0, (se 248)]
noncomputable def t56 (P : Params) : BT := insL (top3 (B3 P) P 56) 218 n56
noncomputable def a56 (P : Params) (os : OsState) : SharedT := shr (t56 P) 250 3892 os
noncomputable def b56 (P : Params) (os : OsState) : SharedT := shr (insL (t56 P) 250 [rg 3893, rit 0 8]) 252 3895 os
def n57 : List Obj := n56 ++ [(rg 3893), ri, tup0, (se 252)]
noncomputable def t57 (P : Params) : BT := insL (top3 (B3 P) P 57) 218 n57
noncomputable def a57 (P : Params) (os : OsState) : SharedT := shr (t57 P) 254 3957 os
noncomputable def b57 (P : Params) (os : OsState) : SharedT := shr (insL (t57 P) 254 [rg 3958, rit 0 8]) 256 3960 os
def n58 : List Obj := n57 ++ [(rg 3958), ri, tup0, (se 256)]
noncomputable def t58 (P : Params) : BT := insL (top3 (B3 P) P 58) 218 n58
noncomputable def a58 (P : Params) (os : OsState) : SharedT := shr (t58 P) 258 4024 os
noncomputable def b58 (P : Params) (os : OsState) : SharedT := shr (insL (t58 P) 258 [rg 4025, rit 0 8]) 260 4027 os
def n59 : List Obj := n58 ++ [(rg 4025), ri, tup0, (se 260)]
noncomputable def t59 (P : Params) : BT := insL (top3 (B3 P) P 59) 218 n59
noncomputable def a59 (P : Params) (os : OsState) : SharedT := shr (t59 P) 262 4091 os
noncomputable def b59 (P : Params) (os : OsState) : SharedT := shr (insL (t59 P) 262 [rg 4092, rit 0 8]) 264 4094 os
def n60 : List Obj := n59 ++ [(rg 4092), ri, tup0, (se 264)]
noncomputable def t60 (P : Params) : BT := insL (top3 (B3 P) P 60) 218 n60
noncomputable def a60 (P : Params) (os : OsState) : SharedT := shr (t60 P) 266 4160 os
noncomputable def b60 (P : Params) (os : OsState) : SharedT := shr (insL (t60 P) 266 [rg 4161, rit 0 8]) 268 4163 os
def n61 : List Obj := n60 ++ [(rg 4161), ri, tup0, (se 268)]
noncomputable def t61 (P : Params) : BT := insL (top3 (B3 P) P 61) 218 n61
noncomputable def a61 (P : Params) (os : OsState) : SharedT := shr (t61 P) 270 4226 os
noncomputable def b61 (P : Params) (os : OsState) : SharedT := shr (insL (t61 P) 270 [rg 4227, rit 0 8]) 272 4229 os
def n62 : List Obj := n61 ++ [(rg 4227), ri, tup0, (se 272)]
noncomputable def t62 (P : Params) : BT := insL (top3 (B3 P) P 62) 218 n62
noncomputable def a62 (P : Params) (os : OsState) : SharedT := shr (t62 P) 274 4294 os
noncomputable def b62 (P : Params) (os : OsState) : SharedT := shr (insL (t62 P) 274 [rg 4295, rit 0 8]) 276 4297 os
def n63 : List Obj := n62 ++ [(rg 4295), ri, tup0, (se 276)]
noncomputable def t63 (P : Params) : BT := insL (top3 (B3 P) P 63) 218 n63
noncomputable def a63 (P : Params) (os : OsState) : SharedT := shr (t63 P) 278 4362 os
noncomputable def b63 (P : Params) (os : OsState) : SharedT := shr (insL (t63 P) 278 [rg 4363, rit 0 8]) 280 4365 os
def n64 : List Obj := []
noncomputable def t64 (P : Params) : BT := B4 P
noncomputable def a64 (P : Params) (os : OsState) : SharedT := shr (t64 P) 282 4432 os
noncomputable def b64 (P : Params) (os : OsState) : SharedT := shr (insL (t64 P) 282 [rg 4433, rit 0 8]) 284 4435 os
def n65 : List Obj := n64 ++ [(rg 4433), ri, tup0, (se 284)]
noncomputable def t65 (P : Params) : BT := insL (top3 (B4 P) P 65) 282 n65
noncomputable def a65 (P : Params) (os : OsState) : SharedT := shr (t65 P) 286 4495 os
noncomputable def b65 (P : Params) (os : OsState) : SharedT := shr (insL (t65 P) 286 [rg 4496, rit 0 8]) 288 4498 os
def n66 : List Obj := n65 ++ [(rg 4496), ri, tup0, (se 288)]
noncomputable def t66 (P : Params) : BT := insL (top3 (B4 P) P 66) 282 n66
noncomputable def a66 (P : Params) (os : OsState) : SharedT := shr (t66 P) 290 4558 os
noncomputable def b66 (P : Params) (os : OsState) : SharedT := shr (insL (t66 P) 290 [rg 4559, rit 0 8]) 292 4561 os
def n67 : List Obj := n66 ++ [(rg 4559), ri, tup0, (se 292)]
noncomputable def t67 (P : Params) : BT := insL (top3 (B4 P) P 67) 282 n67
noncomputable def a67 (P : Params) (os : OsState) : SharedT := shr (t67 P) 294 4623 os
noncomputable def b67 (P : Params) (os : OsState) : SharedT := shr (insL (t67 P) 294 [rg 4624, rit 0 8]) 296 4626 os
def n68 : List Obj := n67 ++ [(rg 4624), ri, tup0, (se 296)]
noncomputable def t68 (P : Params) : BT := insL (top3 (B4 P) P 68) 282 n68
noncomputable def a68 (P : Params) (os : OsState) : SharedT := shr (t68 P) 298 4688 os
noncomputable def b68 (P : Params) (os : OsState) : SharedT := shr (insL (t68 P) 298 [rg 4689, rit 0 8]) 300 4691 os
def n69 : List Obj := n68 ++ [(rg 4689), ri, tup0, (se 300)]
noncomputable def t69 (P : Params) : BT := insL (top3 (B4 P) P 69) 282 n69
noncomputable def a69 (P : Params) (os : OsState) : SharedT := shr (t69 P) 302 4752 os
noncomputable def b69 (P : Params) (os : OsState) : SharedT := shr (insL (t69 P) 302 [rg 4753, rit 0 8]) 304 4755 os
def n70 : List Obj := n69 ++ [(rg 4753), ri, tup0, (se 304)]
noncomputable def t70 (P : Params) : BT := insL (top3 (B4 P) P 70) 282 n70
noncomputable def a70 (P : Params) (os : OsState) : SharedT := shr (t70 P) 306 4816 os
noncomputable def b70 (P : Params) (os : OsState) : SharedT := shr (insL (t70 P) 306 [rg 4817, rit 0 8]) 308 4819 os
def n71 : List Obj := n70 ++ [(rg 4817), ri, tup0, (se 308)]
noncomputable def t71 (P : Params) : BT := insL (top3 (B4 P) P 71) 282 n71
noncomputable def a71 (P : Params) (os : OsState) : SharedT := shr (t71 P) 310 4882 os
noncomputable def b71 (P : Params) (os : OsState) : SharedT := shr (insL (t71 P) 310 [rg 4883, rit 0 8]) 312 4885 os
def n72 : List Obj := n71 ++ [(rg 4883), ri, tup0, (se 312)]
noncomputable def t72 (P : Params) : BT := insL (top3 (B4 P) P 72) 282 n72
noncomputable def a72 (P : Params) (os : OsState) : SharedT := shr (t72 P) 314 4948 os
noncomputable def b72 (P : Params) (os : OsState) : SharedT := shr (insL (t72 P) 314 [rg 4949, rit 0 8]) 316 4951 os
def n73 : List Obj := n72 ++ [(rg 4949), ri, tup0, (se 316)]
noncomputable def t73 (P : Params) : BT := insL (top3 (B4 P) P 73) 282 n73
noncomputable def a73 (P : Params) (os : OsState) : SharedT := shr (t73 P) 318 5012 os
noncomputable def b73 (P : Params) (os : OsState) : SharedT := shr (insL (t73 P) 318 [rg 5013, rit 0 8]) 320 5015 os
def n74 : List Obj := n73 ++ [(rg 5013), ri, tup0, (se 320)]
noncomputable def t74 (P : Params) : BT := insL (top3 (B4 P) P 74) 282 n74
noncomputable def a74 (P : Params) (os : OsState) : SharedT := shr (t74 P) 322 5076 os
noncomputable def b74 (P : Params) (os : OsState) : SharedT := shr (insL (t74 P) 322 [rg 5077, rit 0 8]) 324 5079 os
def n75 : List Obj := n74 ++ [(rg 5077), ri, tup0, (se 324)]
noncomputable def t75 (P : Params) : BT := insL (top3 (B4 P) P 75) 282 n75
noncomputable def a75 (P : Params) (os : OsState) : SharedT := shr (t75 P) 326 5142 os
noncomputable def b75 (P : Params) (os : OsState) : SharedT := shr (insL (t75 P) 326 [rg 5143, rit 0 8]) 328 5145 os
def n76 : List Obj := n75 ++ [(rg 5143), ri, tup0, (se 328)]
noncomputable def t76 (P : Params) : BT := insL (top3 (B4 P) P 76) 282 n76
noncomputable def a76 (P : Params) (os : OsState) : SharedT := shr (t76 P) 330 5208 os
noncomputable def b76 (P : Params) (os : OsState) : SharedT := shr (insL (t76 P) 330 [rg 5209, rit 0 8]) 332 5211 os
def n77 : List Obj := n76 ++ [(rg 5209), ri, tup0, (se 332)]
noncomputable def t77 (P : Params) : BT := insL (top3 (B4 P) P 77) 282 n77
noncomputable def a77 (P : Params) (os : OsState) : SharedT := shr (t77 P) 334 5273 os
noncomputable def b77 (P : Params) (os : OsState) : SharedT := shr (insL (t77 P) 334 [rg 5274, rit 0 8]) 336 5276 os
def n78 : List Obj := n77 ++ [(rg 5274), ri, tup0, (se 336)]
noncomputable def t78 (P : Params) : BT := insL (top3 (B4 P) P 78) 282 n78
noncomputable def a78 (P : Params) (os : OsState) : SharedT := shr (t78 P) 338 5338 os
noncomputable def b78 (P : Params) (os : OsState) : SharedT := shr (insL (t78 P) 338 [rg 5339, rit 0 8]) 340 5341 os
def n79 : List Obj := n78 ++ [(rg 5339), ri, tup0, (se 340)]
noncomputable def t79 (P : Params) : BT := insL (top3 (B4 P) P 79) 282 n79
noncomputable def a79 (P : Params) (os : OsState) : SharedT := shr (t79 P) 342 5405 os
noncomputable def b79 (P : Params) (os : OsState) : SharedT := shr (insL (t79 P) 342 [rg 5406, rit 0 8]) 344 5408 os
def n80 : List Obj := []
noncomputable def t80 (P : Params) : BT := B5 P
noncomputable def a80 (P : Params) (os : OsState) : SharedT := shr (t80 P) 346 5472 os
noncomputable def b80 (P : Params) (os : OsState) : SharedT := shr (insL (t80 P) 346 [rg 5473, rit 0 8]) 348 5475 os
def n81 : List Obj := n80 ++ [(rg 5473), ri, tup0, (se 348)]
noncomputable def t81 (P : Params) : BT := insL (top3 (B5 P) P 81) 346 n81
noncomputable def a81 (P : Params) (os : OsState) : SharedT := shr (t81 P) 350 5536 os
noncomputable def b81 (P : Params) (os : OsState) : SharedT := shr (insL (t81 P) 350 [rg 5537, rit 0 8]) 352 5539 os
def n82 : List Obj := n81 ++ [(rg 5537), ri, tup0, (se 352)]
noncomputable def t82 (P : Params) : BT := insL (top3 (B5 P) P 82) 346 n82
noncomputable def a82 (P : Params) (os : OsState) : SharedT := shr (t82 P) 354 5600 os
noncomputable def b82 (P : Params) (os : OsState) : SharedT := shr (insL (t82 P) 354 [rg 5601, rit 0 8]) 356 5603 os
def n83 : List Obj := n82 ++ [(rg 5601), ri, tup0, (se 356)]
noncomputable def t83 (P : Params) : BT := insL (top3 (B5 P) P 83) 346 n83
noncomputable def a83 (P : Params) (os : OsState) : SharedT := shr (t83 P) 358 5666 os
noncomputable def b83 (P : Params) (os : OsState) : SharedT := shr (insL (t83 P) 358 [rg 5667, rit 0 8]) 360 5669 os
def n84 : List Obj := n83 ++ [(rg 5667), ri, tup0, (se 360)]
noncomputable def t84 (P : Params) : BT := insL (top3 (B5 P) P 84) 346 n84
noncomputable def a84 (P : Params) (os : OsState) : SharedT := shr (t84 P) 362 5732 os
noncomputable def b84 (P : Params) (os : OsState) : SharedT := shr (insL (t84 P) 362 [rg 5733, rit 0 8]) 364 5735 os
def n85 : List Obj := n84 ++ [(rg 5733), ri, tup0, (se 364)]
noncomputable def t85 (P : Params) : BT := insL (top3 (B5 P) P 85) 346 n85
noncomputable def a85 (P : Params) (os : OsState) : SharedT := shr (t85 P) 366 5797 os
noncomputable def b85 (P : Params) (os : OsState) : SharedT := shr (insL (t85 P) 366 [rg 5798, rit 0 8]) 368 5800 os
def n86 : List Obj := n85 ++ [(rg 5798), ri, tup0, (se 368)]
noncomputable def t86 (P : Params) : BT := insL (top3 (B5 P) P 86) 346 n86
noncomputable def a86 (P : Params) (os : OsState) : SharedT := shr (t86 P) 370 5862 os
noncomputable def b86 (P : Params) (os : OsState) : SharedT := shr (insL (t86 P) 370 [rg 5863, rit 0 8]) 372 5865 os
def n87 : List Obj := n86 ++ [(rg 5863), ri, tup0, (se 372)]
noncomputable def t87 (P : Params) : BT := insL (top3 (B5 P) P 87) 346 n87
noncomputable def a87 (P : Params) (os : OsState) : SharedT := shr (t87 P) 374 5929 os
noncomputable def b87 (P : Params) (os : OsState) : SharedT := shr (insL (t87 P) 374 [rg 5930, rit 0 8]) 376 5932 os
def n88 : List Obj := n87 ++ [(rg 5930), ri, tup0, (se 376)]
noncomputable def t88 (P : Params) : BT := insL (top3 (B5 P) P 88) 346 n88
noncomputable def a88 (P : Params) (os : OsState) : SharedT := shr (t88 P) 378 5996 os
noncomputable def b88 (P : Params) (os : OsState) : SharedT := shr (insL (t88 P) 378 [rg 5997, rit 0 8]) 380 5999 os
def n89 : List Obj := n88 ++ [(rg 5997), ri, tup0, (se 380)]
noncomputable def t89 (P : Params) : BT := insL (top3 (B5 P) P 89) 346 n89
noncomputable def a89 (P : Params) (os : OsState) : SharedT := shr (t89 P) 382 6061 os
noncomputable def b89 (P : Params) (os : OsState) : SharedT := shr (insL (t89 P) 382 [rg 6062, rit 0 8]) 384 6064 os
def n90 : List Obj := n89 ++ [(rg 6062), ri, tup0, (se 384)]
noncomputable def t90 (P : Params) : BT := insL (top3 (B5 P) P 90) 346 n90
noncomputable def a90 (P : Params) (os : OsState) : SharedT := shr (t90 P) 386 6126 os
noncomputable def b90 (P : Params) (os : OsState) : SharedT := shr (insL (t90 P) 386 [rg 6127, rit 0 8]) 388 6129 os
def n91 : List Obj := n90 ++ [(rg 6127), ri, tup0, (se 388)]
noncomputable def t91 (P : Params) : BT := insL (top3 (B5 P) P 91) 346 n91
noncomputable def a91 (P : Params) (os : OsState) : SharedT := shr (t91 P) 390 6193 os
noncomputable def b91 (P : Params) (os : OsState) : SharedT := shr (insL (t91 P) 390 [rg 6194, rit 0 8]) 392 6196 os
def n92 : List Obj := n91 ++ [(rg 6194), ri, tup0, (se 392)]
noncomputable def t92 (P : Params) : BT := insL (top3 (B5 P) P 92) 346 n92
noncomputable def a92 (P : Params) (os : OsState) : SharedT := shr (t92 P) 394 6260 os
noncomputable def b92 (P : Params) (os : OsState) : SharedT := shr (insL (t92 P) 394 [rg 6261, rit 0 8]) 396 6263 os
def n93 : List Obj := n92 ++ [(rg 6261), ri, tup0, (se 396)]
noncomputable def t93 (P : Params) : BT := insL (top3 (B5 P) P 93) 346 n93
noncomputable def a93 (P : Params) (os : OsState) : SharedT := shr (t93 P) 398 6326 os
noncomputable def b93 (P : Params) (os : OsState) : SharedT := shr (insL (t93 P) 398 [rg 6327, rit 0 8]) 400 6329 os
def n94 : List Obj := n93 ++ [(rg 6327), ri, tup0, (se 400)]
noncomputable def t94 (P : Params) : BT := insL (top3 (B5 P) P 94) 346 n94
noncomputable def a94 (P : Params) (os : OsState) : SharedT := shr (t94 P) 402 6392 os
noncomputable def b94 (P : Params) (os : OsState) : SharedT := shr (insL (t94 P) 402 [rg 6393, rit 0 8]) 404 6395 os
def n95 : List Obj := n94 ++ [(rg 6393), ri, tup0, (se 404)]
noncomputable def t95 (P : Params) : BT := insL (top3 (B5 P) P 95) 346 n95
noncomputable def a95 (P : Params) (os : OsState) : SharedT := shr (t95 P) 406 6460 os
noncomputable def b95 (P : Params) (os : OsState) : SharedT := shr (insL (t95 P) 406 [rg 6461, rit 0 8]) 408 6463 os
def n96 : List Obj := []
noncomputable def t96 (P : Params) : BT := B6 P
noncomputable def a96 (P : Params) (os : OsState) : SharedT := shr (t96 P) 410 6528 os
noncomputable def b96 (P : Params) (os : OsState) : SharedT := shr (insL (t96 P) 410 [rg 6529, rit 0 8]) 412 6531 os
def n97 : List Obj := n96 ++ [(rg 6529), ri, tup0, (se 412)]
noncomputable def t97 (P : Params) : BT := insL (top3 (B6 P) P 97) 410 n97
noncomputable def a97 (P : Params) (os : OsState) : SharedT := shr (t97 P) 414 6592 os
noncomputable def b97 (P : Params) (os : OsState) : SharedT := shr (insL (t97 P) 414 [rg 6593, rit 0 8]) 416 6595 os
def n98 : List Obj := n97 ++ [(rg 6593), ri, tup0, (se 416)]
noncomputable def t98 (P : Params) : BT := insL (top3 (B6 P) P 98) 410 n98
noncomputable def a98 (P : Params) (os : OsState) : SharedT := shr (t98 P) 418 6656 os
noncomputable def b98 (P : Params) (os : OsState) : SharedT := shr (insL (t98 P) 418 [rg 6657, rit 0 8]) 420 6659 os
def n99 : List Obj := n98 ++ [(rg 6657), ri, tup0, (se 420)]
noncomputable def t99 (P : Params) : BT := insL (top3 (B6 P) P 99) 410 n99
noncomputable def a99 (P : Params) (os : OsState) : SharedT := shr (t99 P) 422 6722 os
noncomputable def b99 (P : Params) (os : OsState) : SharedT := shr (insL (t99 P) 422 [rg 6723, rit 0 8]) 424 6725 os
def n100 : List Obj := n99 ++ [(rg 6723), ri, tup0, (se 424)]
noncomputable def t100 (P : Params) : BT := insL (top3 (B6 P) P 100) 410 n100
noncomputable def a100 (P : Params) (os : OsState) : SharedT := shr (t100 P) 426 6788 os
noncomputable def b100 (P : Params) (os : OsState) : SharedT := shr (insL (t100 P) 426 [rg 6789, rit 0 8]) 428 6791 os
def n101 : List Obj := n100 ++ [(rg 6789), ri, tup0, (se 428)]
noncomputable def t101 (P : Params) : BT := insL (top3 (B6 P) P 101) 410 n101
noncomputable def a101 (P : Params) (os : OsState) : SharedT := shr (t101 P) 430 6853 os
noncomputable def b101 (P : Params) (os : OsState) : SharedT := shr (insL (t101 P) 430 [rg 6854, rit 0 8]) 432 6856 os
def n102 : List Obj := n101 ++ [(rg 6854), ri, tup0, (se 432)]
noncomputable def t102 (P : Params) : BT := insL (top3 (B6 P) P 102) 410 n102
noncomputable def a102 (P : Params) (os : OsState) : SharedT := shr (t102 P) 434 6918 os
noncomputable def b102 (P : Params) (os : OsState) : SharedT := shr (insL (t102 P) 434 [rg 6919, rit 0 8]) 436 6921 os
def n103 : List Obj := n102 ++ [(rg 6919), ri, tup0, (se 436)]
noncomputable def t103 (P : Params) : BT := insL (top3 (B6 P) P 103) 410 n103
noncomputable def a103 (P : Params) (os : OsState) : SharedT := shr (t103 P) 438 6985 os
noncomputable def b103 (P : Params) (os : OsState) : SharedT := shr (insL (t103 P) 438 [rg 6986, rit 0 8]) 440 6988 os
def n104 : List Obj := n103 ++ [(rg 6986), ri, tup0, (se 440)]
noncomputable def t104 (P : Params) : BT := insL (top3 (B6 P) P 104) 410 n104
noncomputable def a104 (P : Params) (os : OsState) : SharedT := shr (t104 P) 442 7052 os
noncomputable def b104 (P : Params) (os : OsState) : SharedT := shr (insL (t104 P) 442 [rg 7053, rit 0 8]) 444 7055 os
def n105 : List Obj := n104 ++ [(rg 7053), ri, tup0, (se 444)]
noncomputable def t105 (P : Params) : BT := insL (top3 (B6 P) P 105) 410 n105
noncomputable def a105 (P : Params) (os : OsState) : SharedT := shr (t105 P) 446 7117 os
noncomputable def b105 (P : Params) (os : OsState) : SharedT := shr (insL (t105 P) 446 [rg 7118, rit 0 8]) 448 7120 os
def n106 : List Obj := n105 ++ [(rg 7118), ri, tup0, (se 448)]
noncomputable def t106 (P : Params) : BT := insL (top3 (B6 P) P 106) 410 n106
noncomputable def a106 (P : Params) (os : OsState) : SharedT := shr (t106 P) 450 7182 os
noncomputable def b106 (P : Params) (os : OsState) : SharedT := shr (insL (t106 P) 450 [rg 7183, rit 0 8]) 452 7185 os
def n107 : List Obj := n106 ++ [(rg 7183), ri, tup0, (se 452)]
noncomputable def t107 (P : Params) : BT := insL (top3 (B6 P) P 107) 410 n107
noncomputable def a107 (P : Params) (os : OsState) : SharedT := shr (t107 P) 454 7249 os
noncomputable def b107 (P : Params) (os : OsState) : SharedT := shr (insL (t107 P) 454 [rg 7250, rit 0 8]) 456 7252 os
def n108 : List Obj := n107 ++ [(rg 7250), ri, tup0, (se 456)]
noncomputable def t108 (P : Params) : BT := insL (top3 (B6 P) P 108) 410 n108
noncomputable def a108 (P : Params) (os : OsState) : SharedT := shr (t108 P) 458 7316 os
noncomputable def b108 (P : Params) (os : OsState) : SharedT := shr (insL (t108 P) 458 [rg 7317, rit 0 8]) 460 7319 os
def n109 : List Obj := n108 ++ [(rg 7317), ri, tup0, (se 460)]
noncomputable def t109 (P : Params) : BT := insL (top3 (B6 P) P 109) 410 n109
noncomputable def a109 (P : Params) (os : OsState) : SharedT := shr (t109 P) 462 7382 os
noncomputable def b109 (P : Params) (os : OsState) : SharedT := shr (insL (t109 P) 462 [rg 7383, rit 0 8]) 464 7385 os
def n110 : List Obj := n109 ++ [(rg 7383), ri, tup0, (se 464)]
noncomputable def t110 (P : Params) : BT := insL (top3 (B6 P) P 110) 410 n110
noncomputable def a110 (P : Params) (os : OsState) : SharedT := shr (t110 P) 466 7448 os
noncomputable def b110 (P : Params) (os : OsState) : SharedT := shr (insL (t110 P) 466 [rg 7449, rit 0 8]) 468 7451 os
def n111 : List Obj := n110 ++ [(rg 7449), ri, tup0, (se 468)]
noncomputable def t111 (P : Params) : BT := insL (top3 (B6 P) P 111) 410 n111
noncomputable def a111 (P : Params) (os : OsState) : SharedT := shr (t111 P) 470 7516 os
noncomputable def b111 (P : Params) (os : OsState) : SharedT := shr (insL (t111 P) 470 [rg 7517, rit 0 8]) 472 7519 os
def n112 : List Obj := []
noncomputable def t112 (P : Params) : BT := B7 P
noncomputable def a112 (P : Params) (os : OsState) : SharedT := shr (t112 P) 474 7584 os
noncomputable def b112 (P : Params) (os : OsState) : SharedT := shr (insL (t112 P) 474 [rg 7585, rit 0 8]) 476 7587 os
def n113 : List Obj := n112 ++ [(rg 7585), ri, tup0, (se 476)]
noncomputable def t113 (P : Params) : BT := insL (top3 (B7 P) P 113) 474 n113
noncomputable def a113 (P : Params) (os : OsState) : SharedT := shr (t113 P) 478 7649 os
noncomputable def b113 (P : Params) (os : OsState) : SharedT := shr (insL (t113 P) 478 [rg 7650, rit 0 8]) 480 7652 os
def n114 : List Obj := n113 ++ [(rg 7650), ri, tup0, (se 480)]
noncomputable def t114 (P : Params) : BT := insL (top3 (B7 P) P 114) 474 n114
noncomputable def a114 (P : Params) (os : OsState) : SharedT := shr (t114 P) 482 7714 os
noncomputable def b114 (P : Params) (os : OsState) : SharedT := shr (insL (t114 P) 482 [rg 7715, rit 0 8]) 484 7717 os
def n115 : List Obj := n114 ++ [(rg 7715), ri, tup0, (se 484)]
noncomputable def t115 (P : Params) : BT := insL (top3 (B7 P) P 115) 474 n115
noncomputable def a115 (P : Params) (os : OsState) : SharedT := shr (t115 P) 486 7781 os
noncomputable def b115 (P : Params) (os : OsState) : SharedT := shr (insL (t115 P) 486 [rg 7782, rit 0 8]) 488 7784 os
def n116 : List Obj := n115 ++ [(rg 7782), ri, tup0, (se 488)]
noncomputable def t116 (P : Params) : BT := insL (top3 (B7 P) P 116) 474 n116
noncomputable def a116 (P : Params) (os : OsState) : SharedT := shr (t116 P) 490 7848 os
noncomputable def b116 (P : Params) (os : OsState) : SharedT := shr (insL (t116 P) 490 [rg 7849, rit 0 8]) 492 7851 os
def n117 : List Obj := n116 ++ [(rg 7849), ri, tup0, (se 492)]
noncomputable def t117 (P : Params) : BT := insL (top3 (B7 P) P 117) 474 n117
noncomputable def a117 (P : Params) (os : OsState) : SharedT := shr (t117 P) 494 7914 os
noncomputable def b117 (P : Params) (os : OsState) : SharedT := shr (insL (t117 P) 494 [rg 7915, rit 0 8]) 496 7917 os
def n118 : List Obj := n117 ++ [(rg 7915), ri, tup0, (se 496)]
noncomputable def t118 (P : Params) : BT := insL (top3 (B7 P) P 118) 474 n118
noncomputable def a118 (P : Params) (os : OsState) : SharedT := shr (t118 P) 498 7980 os
noncomputable def b118 (P : Params) (os : OsState) : SharedT := shr (insL (t118 P) 498 [rg 7981, rit 0 8]) 500 7983 os
def n119 : List Obj := n118 ++ [(rg 7981), ri, tup0, (se 500)]
noncomputable def t119 (P : Params) : BT := insL (top3 (B7 P) P 119) 474 n119
noncomputable def a119 (P : Params) (os : OsState) : SharedT := shr (t119 P) 502 8048 os
noncomputable def b119 (P : Params) (os : OsState) : SharedT := shr (insL (t119 P) 502 [rg 8049, rit 0 8]) 504 8051 os
def n120 : List Obj := n119 ++ [(rg 8049), ri, tup0, (se 504)]
noncomputable def t120 (P : Params) : BT := insL (top3 (B7 P) P 120) 474 n120
noncomputable def a120 (P : Params) (os : OsState) : SharedT := shr (t120 P) 506 8116 os
noncomputable def b120 (P : Params) (os : OsState) : SharedT := shr (insL (t120 P) 506 [rg 8117, rit 0 8]) 508 8119 os
def n121 : List Obj := n120 ++ [(rg 8117), ri, tup0, (se 508)]
noncomputable def t121 (P : Params) : BT := insL (top3 (B7 P) P 121) 474 n121
noncomputable def a121 (P : Params) (os : OsState) : SharedT := shr (t121 P) 510 8182 os
noncomputable def b121 (P : Params) (os : OsState) : SharedT := shr (insL (t121 P) 510 [rg 8183, rit 0 8]) 512 8185 os
def n122 : List Obj := n121 ++ [(rg 8183), ri, tup0, (se 512)]
noncomputable def t122 (P : Params) : BT := insL (top3 (B7 P) P 122) 474 n122
noncomputable def a122 (P : Params) (os : OsState) : SharedT := shr (t122 P) 514 8248 os
noncomputable def b122 (P : Params) (os : OsState) : SharedT := shr (insL (t122 P) 514 [rg 8249, rit 0 8]) 516 8251 os
def n123 : List Obj := n122 ++ [(rg 8249), ri, tup0, (se 516)]
noncomputable def t123 (P : Params) : BT := insL (top3 (B7 P) P 123) 474 n123
noncomputable def a123 (P : Params) (os : OsState) : SharedT := shr (t123 P) 518 8316 os
noncomputable def b123 (P : Params) (os : OsState) : SharedT := shr (insL (t123 P) 518 [rg 8317, rit 0 8]) 520 8319 os
def n124 : List Obj := n123 ++ [(rg 8317), ri, tup0, (se 520)]
noncomputable def t124 (P : Params) : BT := insL (top3 (B7 P) P 124) 474 n124
noncomputable def a124 (P : Params) (os : OsState) : SharedT := shr (t124 P) 522 8384 os
noncomputable def b124 (P : Params) (os : OsState) : SharedT := shr (insL (t124 P) 522 [rg 8385, rit 0 8]) 524 8387 os
def n125 : List Obj := n124 ++ [(rg 8385), ri, tup0, (se 524)]
noncomputable def t125 (P : Params) : BT := insL (top3 (B7 P) P 125) 474 n125
noncomputable def a125 (P : Params) (os : OsState) : SharedT := shr (t125 P) 526 8451 os
noncomputable def b125 (P : Params) (os : OsState) : SharedT := shr (insL (t125 P) 526 [rg 8452, rit 0 8]) 528 8454 os
def n126 : List Obj := n125 ++ [(rg 8452), ri, tup0, (se 528)]
noncomputable def t126 (P : Params) : BT := insL (top3 (B7 P) P 126) 474 n126
noncomputable def a126 (P : Params) (os : OsState) : SharedT := shr (t126 P) 530 8518 os
noncomputable def b126 (P : Params) (os : OsState) : SharedT := shr (insL (t126 P) 530 [rg 8519, rit 0 8]) 532 8521 os
def n127 : List Obj := n126 ++ [(rg 8519), ri, tup0, (se 532)]
noncomputable def t127 (P : Params) : BT := insL (top3 (B7 P) P 127) 474 n127
noncomputable def a127 (P : Params) (os : OsState) : SharedT := shr (t127 P) 534 8587 os
noncomputable def b127 (P : Params) (os : OsState) : SharedT := shr (insL (t127 P) 534 [rg 8588, rit 0 8]) 536 8590 os
def n128 : List Obj := []
noncomputable def t128 (P : Params) : BT := B8 P
noncomputable def a128 (P : Params) (os : OsState) : SharedT := shr (t128 P) 538 8656 os
noncomputable def b128 (P : Params) (os : OsState) : SharedT := shr (insL (t128 P) 538 [rg 8657, rit 0 8]) 540 8659 os
def n129 : List Obj := n128 ++ [(rg 8657), ri, tup0, (se 540)]
noncomputable def t129 (P : Params) : BT := insL (top3 (B8 P) P 129) 538 n129
noncomputable def a129 (P : Params) (os : OsState) : SharedT := shr (t129 P) 542 8719 os
noncomputable def b129 (P : Params) (os : OsState) : SharedT := shr (insL (t129 P) 542 [rg 8720, rit 0 8]) 544 8722 os
def n130 : List Obj := n129 ++ [(rg 8720), ri, tup0, (se 544)]
noncomputable def t130 (P : Params) : BT := insL (top3 (B8 P) P 130) 538 n130
noncomputable def a130 (P : Params) (os : OsState) : SharedT := shr (t130 P) 546 8784 os
noncomputable def b130 (P : Params) (os : OsState) : SharedT := shr (insL (t130 P) 546 [rg 8785, rit 0 8]) 548 8787 os
def n131 : List Obj := n130 ++ [(rg 8785), ri, tup0, (se 548)]
noncomputable def t131 (P : Params) : BT := insL (top3 (B8 P) P 131) 538 n131
noncomputable def a131 (P : Params) (os : OsState) : SharedT := shr (t131 P) 550 8847 os
noncomputable def b131 (P : Params) (os : OsState) : SharedT := shr (insL (t131 P) 550 [rg 8848, rit 0 8]) 552 8850 os
def n132 : List Obj := n131 ++ [(rg 8848), ri, tup0, (se 552)]
noncomputable def t132 (P : Params) : BT := insL (top3 (B8 P) P 132) 538 n132
noncomputable def a132 (P : Params) (os : OsState) : SharedT := shr (t132 P) 554 8912 os
noncomputable def b132 (P : Params) (os : OsState) : SharedT := shr (insL (t132 P) 554 [rg 8913, rit 0 8]) 556 8915 os
def n133 : List Obj := n132 ++ [(rg 8913), ri, tup0, (se 556)]
noncomputable def t133 (P : Params) : BT := insL (top3 (B8 P) P 133) 538 n133
noncomputable def a133 (P : Params) (os : OsState) : SharedT := shr (t133 P) 558 8976 os
noncomputable def b133 (P : Params) (os : OsState) : SharedT := shr (insL (t133 P) 558 [rg 8977, rit 0 8]) 560 8979 os
def n134 : List Obj := n133 ++ [(rg 8977), ri, tup0, (se 560)]
noncomputable def t134 (P : Params) : BT := insL (top3 (B8 P) P 134) 538 n134
noncomputable def a134 (P : Params) (os : OsState) : SharedT := shr (t134 P) 562 9042 os
noncomputable def b134 (P : Params) (os : OsState) : SharedT := shr (insL (t134 P) 562 [rg 9043, rit 0 8]) 564 9045 os
def n135 : List Obj := n134 ++ [(rg 9043), ri, tup0, (se 564)]
noncomputable def t135 (P : Params) : BT := insL (top3 (B8 P) P 135) 538 n135
noncomputable def a135 (P : Params) (os : OsState) : SharedT := shr (t135 P) 566 9106 os
noncomputable def b135 (P : Params) (os : OsState) : SharedT := shr (insL (t135 P) 566 [rg 9107, rit 0 8]) 568 9109 os
def n136 : List Obj := n135 ++ [(rg 9107), ri, tup0, (se 568)]
noncomputable def t136 (P : Params) : BT := insL (top3 (B8 P) P 136) 538 n136
noncomputable def a136 (P : Params) (os : OsState) : SharedT := shr (t136 P) 570 9172 os
noncomputable def b136 (P : Params) (os : OsState) : SharedT := shr (insL (t136 P) 570 [rg 9173, rit 0 8]) 572 9175 os
def n137 : List Obj := n136 ++ [(rg 9173), ri, tup0, (se 572)]
noncomputable def t137 (P : Params) : BT := insL (top3 (B8 P) P 137) 538 n137
noncomputable def a137 (P : Params) (os : OsState) : SharedT := shr (t137 P) 574 9236 os
noncomputable def b137 (P : Params) (os : OsState) : SharedT := shr (insL (t137 P) 574 [rg 9237, rit 0 8]) 576 9239 os
def n138 : List Obj := n137 ++ [(rg 9237), ri, tup0, (se 576)]
noncomputable def t138 (P : Params) : BT := insL (top3 (B8 P) P 138) 538 n138
noncomputable def a138 (P : Params) (os : OsState) : SharedT := shr (t138 P) 578 9302 os
noncomputable def b138 (P : Params) (os : OsState) : SharedT := shr (insL (t138 P) 578 [rg 9303, rit 0 8]) 580 9305 os
def n139 : List Obj := n138 ++ [(rg 9303), ri, tup0, (se 580)]
noncomputable def t139 (P : Params) : BT := insL (top3 (B8 P) P 139) 538 n139
noncomputable def a139 (P : Params) (os : OsState) : SharedT := shr (t139 P) 582 9366 os
noncomputable def b139 (P : Params) (os : OsState) : SharedT := shr (insL (t139 P) 582 [rg 9367, rit 0 8]) 584 9369 os
def n140 : List Obj := n139 ++ [(rg 9367), ri, tup0, (se 584)]
noncomputable def t140 (P : Params) : BT := insL (top3 (B8 P) P 140) 538 n140
noncomputable def a140 (P : Params) (os : OsState) : SharedT := shr (t140 P) 586 9432 os
noncomputable def b140 (P : Params) (os : OsState) : SharedT := shr (insL (t140 P) 586 [rg 9433, rit 0 8]) 588 9435 os
def n141 : List Obj := n140 ++ [(rg 9433), ri, tup0, (se 588)]
noncomputable def t141 (P : Params) : BT := insL (top3 (B8 P) P 141) 538 n141
noncomputable def a141 (P : Params) (os : OsState) : SharedT := shr (t141 P) 590 9497 os
noncomputable def b141 (P : Params) (os : OsState) : SharedT := shr (insL (t141 P) 590 [rg 9498, rit 0 8]) 592 9500 os
def n142 : List Obj := n141 ++ [(rg 9498), ri, tup0, (se 592)]
noncomputable def t142 (P : Params) : BT := insL (top3 (B8 P) P 142) 538 n142
noncomputable def a142 (P : Params) (os : OsState) : SharedT := shr (t142 P) 594 9564 os
noncomputable def b142 (P : Params) (os : OsState) : SharedT := shr (insL (t142 P) 594 [rg 9565, rit 0 8]) 596 9567 os
def n143 : List Obj := n142 ++ [(rg 9565), ri, tup0, (se 596)]
noncomputable def t143 (P : Params) : BT := insL (top3 (B8 P) P 143) 538 n143
noncomputable def a143 (P : Params) (os : OsState) : SharedT := shr (t143 P) 598 9629 os
noncomputable def b143 (P : Params) (os : OsState) : SharedT := shr (insL (t143 P) 598 [rg 9630, rit 0 8]) 600 9632 os
def n144 : List Obj := []
noncomputable def t144 (P : Params) : BT := B9 P
noncomputable def a144 (P : Params) (os : OsState) : SharedT := shr (t144 P) 602 9696 os
noncomputable def b144 (P : Params) (os : OsState) : SharedT := shr (insL (t144 P) 602 [rg 9697, rit 0 8]) 604 9699 os
def n145 : List Obj := n144 ++ [(rg 9697), ri, tup0, (se 604)]
noncomputable def t145 (P : Params) : BT := insL (top3 (B9 P) P 145) 602 n145
noncomputable def a145 (P : Params) (os : OsState) : SharedT := shr (t145 P) 606 9760 os
noncomputable def b145 (P : Params) (os : OsState) : SharedT := shr (insL (t145 P) 606 [rg 9761, rit 0 8]) 608 9763 os
def n146 : List Obj := n145 ++ [(rg 9761), ri, tup0, (se 608)]
noncomputable def t146 (P : Params) : BT := insL (top3 (B9 P) P 146) 602 n146
noncomputable def a146 (P : Params) (os : OsState) : SharedT := shr (t146 P) 610 9826 os
noncomputable def b146 (P : Params) (os : OsState) : SharedT := shr (insL (t146 P) 610 [rg 9827, rit 0 8]) 612 9829 os
def n147 : List Obj := n146 ++ [(rg 9827), ri, tup0, (se 612)]
noncomputable def t147 (P : Params) : BT := insL (top3 (B9 P) P 147) 602 n147
noncomputable def a147 (P : Params) (os : OsState) : SharedT := shr (t147 P) 614 9890 os
noncomputable def b147 (P : Params) (os : OsState) : SharedT := shr (insL (t147 P) 614 [rg 9891, rit 0 8]) 616 9893 os
def n148 : List Obj := n147 ++ [(rg 9891), ri, tup0, (se 616)]
noncomputable def t148 (P : Params) : BT := insL (top3 (B9 P) P 148) 602 n148
noncomputable def a148 (P : Params) (os : OsState) : SharedT := shr (t148 P) 618 9956 os
noncomputable def b148 (P : Params) (os : OsState) : SharedT := shr (insL (t148 P) 618 [rg 9957, rit 0 8]) 620 9959 os
def n149 : List Obj := n148 ++ [(rg 9957), ri, tup0, (se 620)]
noncomputable def t149 (P : Params) : BT := insL (top3 (B9 P) P 149) 602 n149
noncomputable def a149 (P : Params) (os : OsState) : SharedT := shr (t149 P) 622 10021 os
noncomputable def b149 (P : Params) (os : OsState) : SharedT := shr (insL (t149 P) 622 [rg 10022, rit 0 8]) 624 10024 os
def n150 : List Obj := n149 ++ [(rg 10022), ri, tup0, (se 624)]
noncomputable def t150 (P : Params) : BT := insL (top3 (B9 P) P 150) 602 n150
noncomputable def a150 (P : Params) (os : OsState) : SharedT := shr (t150 P) 626 10088 os
noncomputable def b150 (P : Params) (os : OsState) : SharedT := shr (insL (t150 P) 626 [rg 10089, rit 0 8]) 628 10091 os
def n151 : List Obj := n150 ++ [(rg 10089), ri, tup0, (se 628)]
noncomputable def t151 (P : Params) : BT := insL (top3 (B9 P) P 151) 602 n151
noncomputable def a151 (P : Params) (os : OsState) : SharedT := shr (t151 P) 630 10153 os
noncomputable def b151 (P : Params) (os : OsState) : SharedT := shr (insL (t151 P) 630 [rg 10154, rit 0 8]) 632 10156 os
def n152 : List Obj := n151 ++ [(rg 10154), ri, tup0, (se 632)]
noncomputable def t152 (P : Params) : BT := insL (top3 (B9 P) P 152) 602 n152
noncomputable def a152 (P : Params) (os : OsState) : SharedT := shr (t152 P) 634 10220 os
noncomputable def b152 (P : Params) (os : OsState) : SharedT := shr (insL (t152 P) 634 [rg 10221, rit 0 8]) 636 10223 os
def n153 : List Obj := n152 ++ [(rg 10221), ri, tup0, (se 636)]
noncomputable def t153 (P : Params) : BT := insL (top3 (B9 P) P 153) 602 n153
noncomputable def a153 (P : Params) (os : OsState) : SharedT := shr (t153 P) 638 10285 os
noncomputable def b153 (P : Params) (os : OsState) : SharedT := shr (insL (t153 P) 638 [rg 10286, rit 0 8]) 640 10288 os
def n154 : List Obj := n153 ++ [(rg 10286), ri, tup0, (se 640)]
noncomputable def t154 (P : Params) : BT := insL (top3 (B9 P) P 154) 602 n154
noncomputable def a154 (P : Params) (os : OsState) : SharedT := shr (t154 P) 642 10352 os
noncomputable def b154 (P : Params) (os : OsState) : SharedT := shr (insL (t154 P) 642 [rg 10353, rit 0 8]) 644 10355 os
def n155 : List Obj := n154 ++ [(rg 10353), ri, tup0, (se 644)]
noncomputable def t155 (P : Params) : BT := insL (top3 (B9 P) P 155) 602 n155
noncomputable def a155 (P : Params) (os : OsState) : SharedT := shr (t155 P) 646 10417 os
noncomputable def b155 (P : Params) (os : OsState) : SharedT := shr (insL (t155 P) 646 [rg 10418, rit 0 8]) 648 10420 os
def n156 : List Obj := n155 ++ [(rg 10418), ri, tup0, (se 648)]
noncomputable def t156 (P : Params) : BT := insL (top3 (B9 P) P 156) 602 n156
noncomputable def a156 (P : Params) (os : OsState) : SharedT := shr (t156 P) 650 10484 os
noncomputable def b156 (P : Params) (os : OsState) : SharedT := shr (insL (t156 P) 650 [rg 10485, rit 0 8]) 652 10487 os
def n157 : List Obj := n156 ++ [(rg 10485), ri, tup0, (se 652)]
noncomputable def t157 (P : Params) : BT := insL (top3 (B9 P) P 157) 602 n157
noncomputable def a157 (P : Params) (os : OsState) : SharedT := shr (t157 P) 654 10550 os
noncomputable def b157 (P : Params) (os : OsState) : SharedT := shr (insL (t157 P) 654 [rg 10551, rit 0 8]) 656 10553 os
def n158 : List Obj := n157 ++ [(rg 10551), ri, tup0, (se 656)]
noncomputable def t158 (P : Params) : BT := insL (top3 (B9 P) P 158) 602 n158
noncomputable def a158 (P : Params) (os : OsState) : SharedT := shr (t158 P) 658 10618 os
noncomputable def b158 (P : Params) (os : OsState) : SharedT := shr (insL (t158 P) 658 [rg 10619, rit 0 8]) 660 10621 os
def n159 : List Obj := n158 ++ [(rg 10619), ri, tup0, (se 660)]
noncomputable def t159 (P : Params) : BT := insL (top3 (B9 P) P 159) 602 n159
noncomputable def a159 (P : Params) (os : OsState) : SharedT := shr (t159 P) 662 10684 os
noncomputable def b159 (P : Params) (os : OsState) : SharedT := shr (insL (t159 P) 662 [rg 10685, rit 0 8]) 664 10687 os
def n160 : List Obj := []
noncomputable def t160 (P : Params) : BT := B10 P
noncomputable def a160 (P : Params) (os : OsState) : SharedT := shr (t160 P) 666 10752 os
noncomputable def b160 (P : Params) (os : OsState) : SharedT := shr (insL (t160 P) 666 [rg 10753, rit 0 8]) 668 10755 os
def n161 : List Obj := n160 ++ [(rg 10753), ri, tup0, (se 668)]
noncomputable def t161 (P : Params) : BT := insL (top3 (B10 P) P 161) 666 n161
noncomputable def a161 (P : Params) (os : OsState) : SharedT := shr (t161 P) 670 10816 os
noncomputable def b161 (P : Params) (os : OsState) : SharedT := shr (insL (t161 P) 670 [rg 10817, rit 0 8]) 672 10819 os
def n162 : List Obj := n161 ++ [(rg 10817), ri, tup0, (se 672)]
noncomputable def t162 (P : Params) : BT := insL (top3 (B10 P) P 162) 666 n162
noncomputable def a162 (P : Params) (os : OsState) : SharedT := shr (t162 P) 674 10882 os
noncomputable def b162 (P : Params) (os : OsState) : SharedT := shr (insL (t162 P) 674 [rg 10883, rit 0 8]) 676 10885 os
def n163 : List Obj := n162 ++ [(rg 10883), ri, tup0, (se 676)]
noncomputable def t163 (P : Params) : BT := insL (top3 (B10 P) P 163) 666 n163
noncomputable def a163 (P : Params) (os : OsState) : SharedT := shr (t163 P) 678 10946 os
noncomputable def b163 (P : Params) (os : OsState) : SharedT := shr (insL (t163 P) 678 [rg 10947, rit 0 8]) 680 10949 os
def n164 : List Obj := n163 ++ [(rg 10947), ri, tup0, (se 680)]
noncomputable def t164 (P : Params) : BT := insL (top3 (B10 P) P 164) 666 n164
noncomputable def a164 (P : Params) (os : OsState) : SharedT := shr (t164 P) 682 11012 os
noncomputable def b164 (P : Params) (os : OsState) : SharedT := shr (insL (t164 P) 682 [rg 11013, rit 0 8]) 684 11015 os
def n165 : List Obj := n164 ++ [(rg 11013), ri, tup0, (se 684)]
noncomputable def t165 (P : Params) : BT := insL (top3 (B10 P) P 165) 666 n165
noncomputable def a165 (P : Params) (os : OsState) : SharedT := shr (t165 P) 686 11077 os
noncomputable def b165 (P : Params) (os : OsState) : SharedT := shr (insL (t165 P) 686 [rg 11078, rit 0 8]) 688 11080 os
def n166 : List Obj := n165 ++ [(rg 11078), ri, tup0, (se 688)]
noncomputable def t166 (P : Params) : BT := insL (top3 (B10 P) P 166) 666 n166
noncomputable def a166 (P : Params) (os : OsState) : SharedT := shr (t166 P) 690 11144 os
noncomputable def b166 (P : Params) (os : OsState) : SharedT := shr (insL (t166 P) 690 [rg 11145, rit 0 8]) 692 11147 os
def n167 : List Obj := n166 ++ [(rg 11145), ri, tup0, (se 692)]
noncomputable def t167 (P : Params) : BT := insL (top3 (B10 P) P 167) 666 n167
noncomputable def a167 (P : Params) (os : OsState) : SharedT := shr (t167 P) 694 11209 os
noncomputable def b167 (P : Params) (os : OsState) : SharedT := shr (insL (t167 P) 694 [rg 11210, rit 0 8]) 696 11212 os
def n168 : List Obj := n167 ++ [(rg 11210), ri, tup0, (se 696)]
noncomputable def t168 (P : Params) : BT := insL (top3 (B10 P) P 168) 666 n168
noncomputable def a168 (P : Params) (os : OsState) : SharedT := shr (t168 P) 698 11276 os
noncomputable def b168 (P : Params) (os : OsState) : SharedT := shr (insL (t168 P) 698 [rg 11277, rit 0 8]) 700 11279 os
def n169 : List Obj := n168 ++ [(rg 11277), ri, tup0, (se 700)]
noncomputable def t169 (P : Params) : BT := insL (top3 (B10 P) P 169) 666 n169
noncomputable def a169 (P : Params) (os : OsState) : SharedT := shr (t169 P) 702 11341 os
noncomputable def b169 (P : Params) (os : OsState) : SharedT := shr (insL (t169 P) 702 [rg 11342, rit 0 8]) 704 11344 os
def n170 : List Obj := n169 ++ [(rg 11342), ri, tup0, (se 704)]
noncomputable def t170 (P : Params) : BT := insL (top3 (B10 P) P 170) 666 n170
noncomputable def a170 (P : Params) (os : OsState) : SharedT := shr (t170 P) 706 11408 os
noncomputable def b170 (P : Params) (os : OsState) : SharedT := shr (insL (t170 P) 706 [rg 11409, rit 0 8]) 708 11411 os
def n171 : List Obj := n170 ++ [(rg 11409), ri, tup0, (se 708)]
noncomputable def t171 (P : Params) : BT := insL (top3 (B10 P) P 171) 666 n171
noncomputable def a171 (P : Params) (os : OsState) : SharedT := shr (t171 P) 710 11473 os
noncomputable def b171 (P : Params) (os : OsState) : SharedT := shr (insL (t171 P) 710 [rg 11474, rit 0 8]) 712 11476 os
def n172 : List Obj := n171 ++ [(rg 11474), ri, tup0, (se 712)]
noncomputable def t172 (P : Params) : BT := insL (top3 (B10 P) P 172) 666 n172
noncomputable def a172 (P : Params) (os : OsState) : SharedT := shr (t172 P) 714 11540 os
noncomputable def b172 (P : Params) (os : OsState) : SharedT := shr (insL (t172 P) 714 [rg 11541, rit 0 8]) 716 11543 os
def n173 : List Obj := n172 ++ [(rg 11541), ri, tup0, (se 716)]
noncomputable def t173 (P : Params) : BT := insL (top3 (B10 P) P 173) 666 n173
noncomputable def a173 (P : Params) (os : OsState) : SharedT := shr (t173 P) 718 11606 os
noncomputable def b173 (P : Params) (os : OsState) : SharedT := shr (insL (t173 P) 718 [rg 11607, rit 0 8]) 720 11609 os
def n174 : List Obj := n173 ++ [(rg 11607), ri, tup0, (se 720)]
noncomputable def t174 (P : Params) : BT := insL (top3 (B10 P) P 174) 666 n174
noncomputable def a174 (P : Params) (os : OsState) : SharedT := shr (t174 P) 722 11674 os
noncomputable def b174 (P : Params) (os : OsState) : SharedT := shr (insL (t174 P) 722 [rg 11675, rit 0 8]) 724 11677 os
def n175 : List Obj := n174 ++ [(rg 11675), ri, tup0, (se 724)]
noncomputable def t175 (P : Params) : BT := insL (top3 (B10 P) P 175) 666 n175
noncomputable def a175 (P : Params) (os : OsState) : SharedT := shr (t175 P) 726 11740 os
noncomputable def b175 (P : Params) (os : OsState) : SharedT := shr (insL (t175 P) 726 [rg 11741, rit 0 8]) 728 11743 os
def n176 : List Obj := []
noncomputable def t176 (P : Params) : BT := B11 P
noncomputable def a176 (P : Params) (os : OsState) : SharedT := shr (t176 P) 730 11808 os
noncomputable def b176 (P : Params) (os : OsState) : SharedT := shr (insL (t176 P) 730 [rg 11809, rit 0 8]) 732 11811 os
def n177 : List Obj := n176 ++ [(rg 11809), ri, tup0, (se 732)]
noncomputable def t177 (P : Params) : BT := insL (top3 (B11 P) P 177) 730 n177
noncomputable def a177 (P : Params) (os : OsState) : SharedT := shr (t177 P) 734 11873 os
noncomputable def b177 (P : Params) (os : OsState) : SharedT := shr (insL (t177 P) 734 [rg 11874, rit 0 8]) 736 11876 os
def n178 : List Obj := n177 ++ [(rg 11874), ri, tup0, (se 736)]
noncomputable def t178 (P : Params) : BT := insL (top3 (B11 P) P 178) 730 n178
noncomputable def a178 (P : Params) (os : OsState) : SharedT := shr (t178 P) 738 11940 os
noncomputable def b178 (P : Params) (os : OsState) : SharedT := shr (insL (t178 P) 738 [rg 11941, rit 0 8]) 740 11943 os
def n179 : List Obj := n178 ++ [(rg 11941), ri, tup0, (se 740)]
noncomputable def t179 (P : Params) : BT := insL (top3 (B11 P) P 179) 730 n179
noncomputable def a179 (P : Params) (os : OsState) : SharedT := shr (t179 P) 742 12005 os
noncomputable def b179 (P : Params) (os : OsState) : SharedT := shr (insL (t179 P) 742 [rg 12006, rit 0 8]) 744 12008 os
def n180 : List Obj := n179 ++ [(rg 12006), ri, tup0, (se 744)]
noncomputable def t180 (P : Params) : BT := insL (top3 (B11 P) P 180) 730 n180
noncomputable def a180 (P : Params) (os : OsState) : SharedT := shr (t180 P) 746 12072 os
noncomputable def b180 (P : Params) (os : OsState) : SharedT := shr (insL (t180 P) 746 [rg 12073, rit 0 8]) 748 12075 os
def n181 : List Obj := n180 ++ [(rg 12073), ri, tup0, (se 748)]
noncomputable def t181 (P : Params) : BT := insL (top3 (B11 P) P 181) 730 n181
noncomputable def a181 (P : Params) (os : OsState) : SharedT := shr (t181 P) 750 12138 os
noncomputable def b181 (P : Params) (os : OsState) : SharedT := shr (insL (t181 P) 750 [rg 12139, rit 0 8]) 752 12141 os
def n182 : List Obj := n181 ++ [(rg 12139), ri, tup0, (se 752)]
noncomputable def t182 (P : Params) : BT := insL (top3 (B11 P) P 182) 730 n182
noncomputable def a182 (P : Params) (os : OsState) : SharedT := shr (t182 P) 754 12206 os
noncomputable def b182 (P : Params) (os : OsState) : SharedT := shr (insL (t182 P) 754 [rg 12207, rit 0 8]) 756 12209 os
def n183 : List Obj := n182 ++ [(rg 12207), ri, tup0, (se 756)]
noncomputable def t183 (P : Params) : BT := insL (top3 (B11 P) P 183) 730 n183
noncomputable def a183 (P : Params) (os : OsState) : SharedT := shr (t183 P) 758 12272 os
noncomputable def b183 (P : Params) (os : OsState) : SharedT := shr (insL (t183 P) 758 [rg 12273, rit 0 8]) 760 12275 os
def n184 : List Obj := n183 ++ [(rg 12273), ri, tup0, (se 760)]
noncomputable def t184 (P : Params) : BT := insL (top3 (B11 P) P 184) 730 n184
noncomputable def a184 (P : Params) (os : OsState) : SharedT := shr (t184 P) 762 12340 os
noncomputable def b184 (P : Params) (os : OsState) : SharedT := shr (insL (t184 P) 762 [rg 12341, rit 0 8]) 764 12343 os
def n185 : List Obj := n184 ++ [(rg 12341), ri, tup0, (se 764)]
noncomputable def t185 (P : Params) : BT := insL (top3 (B11 P) P 185) 730 n185
noncomputable def a185 (P : Params) (os : OsState) : SharedT := shr (t185 P) 766 12406 os
noncomputable def b185 (P : Params) (os : OsState) : SharedT := shr (insL (t185 P) 766 [rg 12407, rit 0 8]) 768 12409 os
def n186 : List Obj := n185 ++ [(rg 12407), ri, tup0, (se 768)]
noncomputable def t186 (P : Params) : BT := insL (top3 (B11 P) P 186) 730 n186
noncomputable def a186 (P : Params) (os : OsState) : SharedT := shr (t186 P) 770 12474 os
noncomputable def b186 (P : Params) (os : OsState) : SharedT := shr (insL (t186 P) 770 [rg 12475, rit 0 8]) 772 12477 os
def n187 : List Obj := n186 ++ [(rg 12475), ri, tup0, (se 772)]
noncomputable def t187 (P : Params) : BT := insL (top3 (B11 P) P 187) 730 n187
noncomputable def a187 (P : Params) (os : OsState) : SharedT := shr (t187 P) 774 12540 os
noncomputable def b187 (P : Params) (os : OsState) : SharedT := shr (insL (t187 P) 774 [rg 12541, rit 0 8]) 776 12543 os
def n188 : List Obj := n187 ++ [(rg 12541), ri, tup0, (se 776)]
noncomputable def t188 (P : Params) : BT := insL (top3 (B11 P) P 188) 730 n188
noncomputable def a188 (P : Params) (os : OsState) : SharedT := shr (t188 P) 778 12608 os
noncomputable def b188 (P : Params) (os : OsState) : SharedT := shr (insL (t188 P) 778 [rg 12609, rit 0 8]) 780 12611 os
def n189 : List Obj := n188 ++ [(rg 12609), ri, tup0, (se 780)]
noncomputable def t189 (P : Params) : BT := insL (top3 (B11 P) P 189) 730 n189
noncomputable def a189 (P : Params) (os : OsState) : SharedT := shr (t189 P) 782 12675 os
noncomputable def b189 (P : Params) (os : OsState) : SharedT := shr (insL (t189 P) 782 [rg 12676, rit 0 8]) 784 12678 os
def n190 : List Obj := n189 ++ [(rg 12676), ri, tup0, (se 784)]
noncomputable def t190 (P : Params) : BT := insL (top3 (B11 P) P 190) 730 n190
noncomputable def a190 (P : Params) (os : OsState) : SharedT := shr (t190 P) 786 12744 os
noncomputable def b190 (P : Params) (os : OsState) : SharedT := shr (insL (t190 P) 786 [rg 12745, rit 0 8]) 788 12747 os
def n191 : List Obj := n190 ++ [(rg 12745), ri, tup0, (se 788)]
noncomputable def t191 (P : Params) : BT := insL (top3 (B11 P) P 191) 730 n191
noncomputable def a191 (P : Params) (os : OsState) : SharedT := shr (t191 P) 790 12811 os
noncomputable def b191 (P : Params) (os : OsState) : SharedT := shr (insL (t191 P) 790 [rg 12812, rit 0 8]) 792 12814 os
def n192 : List Obj := []
noncomputable def t192 (P : Params) : BT := B12 P
noncomputable def a192 (P : Params) (os : OsState) : SharedT := shr (t192 P) 794 12880 os
noncomputable def b192 (P : Params) (os : OsState) : SharedT := shr (insL (t192 P) 794 [rg 12881, rit 0 8]) 796 12883 os
def n193 : List Obj := n192 ++ [(rg 12881), ri, tup0, (se 796)]
noncomputable def t193 (P : Params) : BT := insL (top3 (B12 P) P 193) 794 n193
noncomputable def a193 (P : Params) (os : OsState) : SharedT := shr (t193 P) 798 12944 os
noncomputable def b193 (P : Params) (os : OsState) : SharedT := shr (insL (t193 P) 798 [rg 12945, rit 0 8]) 800 12947 os
def n194 : List Obj := n193 ++ [(rg 12945), ri, tup0, (se 800)]
noncomputable def t194 (P : Params) : BT := insL (top3 (B12 P) P 194) 794 n194
noncomputable def a194 (P : Params) (os : OsState) : SharedT := shr (t194 P) 802 13008 os
noncomputable def b194 (P : Params) (os : OsState) : SharedT := shr (insL (t194 P) 802 [rg 13009, rit 0 8]) 804 13011 os
def n195 : List Obj := n194 ++ [(rg 13009), ri, tup0, (se 804)]
noncomputable def t195 (P : Params) : BT := insL (top3 (B12 P) P 195) 794 n195
noncomputable def a195 (P : Params) (os : OsState) : SharedT := shr (t195 P) 806 13072 os
noncomputable def b195 (P : Params) (os : OsState) : SharedT := shr (insL (t195 P) 806 [rg 13073, rit 0 8]) 808 13075 os
def n196 : List Obj := n195 ++ [(rg 13073), ri, tup0, (se 808)]
noncomputable def t196 (P : Params) : BT := insL (top3 (B12 P) P 196) 794 n196
noncomputable def a196 (P : Params) (os : OsState) : SharedT := shr (t196 P) 810 13136 os
noncomputable def b196 (P : Params) (os : OsState) : SharedT := shr (insL (t196 P) 810 [rg 13137, rit 0 8]) 812 13139 os
def n197 : List Obj := n196 ++ [(rg 13137), ri, tup0, (se 812)]
noncomputable def t197 (P : Params) : BT := insL (top3 (B12 P) P 197) 794 n197
noncomputable def a197 (P : Params) (os : OsState) : SharedT := shr (t197 P) 814 13201 os
noncomputable def b197 (P : Params) (os : OsState) : SharedT := shr (insL (t197 P) 814 [rg 13202, rit 0 8]) 816 13204 os
def n198 : List Obj := n197 ++ [(rg 13202), ri, tup0, (se 816)]
noncomputable def t198 (P : Params) : BT := insL (top3 (B12 P) P 198) 794 n198
noncomputable def a198 (P : Params) (os : OsState) : SharedT := shr (t198 P) 818 13266 os
noncomputable def b198 (P : Params) (os : OsState) : SharedT := shr (insL (t198 P) 818 [rg 13267, rit 0 8]) 820 13269 os
def n199 : List Obj := n198 ++ [(rg 13267), ri, tup0, (se 820)]
noncomputable def t199 (P : Params) : BT := insL (top3 (B12 P) P 199) 794 n199
noncomputable def a199 (P : Params) (os : OsState) : SharedT := shr (t199 P) 822 13331 os
noncomputable def b199 (P : Params) (os : OsState) : SharedT := shr (insL (t199 P) 822 [rg 13332, rit 0 8]) 824 13334 os
def n200 : List Obj := n199 ++ [(rg 13332), ri, tup0, (se 824)]
noncomputable def t200 (P : Params) : BT := insL (top3 (B12 P) P 200) 794 n200
noncomputable def a200 (P : Params) (os : OsState) : SharedT := shr (t200 P) 826 13396 os
noncomputable def b200 (P : Params) (os : OsState) : SharedT := shr (insL (t200 P) 826 [rg 13397, rit 0 8]) 828 13399 os
def n201 : List Obj := n200 ++ [(rg 13397), ri, tup0, (se 828)]
noncomputable def t201 (P : Params) : BT := insL (top3 (B12 P) P 201) 794 n201
noncomputable def a201 (P : Params) (os : OsState) : SharedT := shr (t201 P) 830 13461 os
noncomputable def b201 (P : Params) (os : OsState) : SharedT := shr (insL (t201 P) 830 [rg 13462, rit 0 8]) 832 13464 os
def n202 : List Obj := n201 ++ [(rg 13462), ri, tup0, (se 832)]
noncomputable def t202 (P : Params) : BT := insL (top3 (B12 P) P 202) 794 n202
noncomputable def a202 (P : Params) (os : OsState) : SharedT := shr (t202 P) 834 13526 os
noncomputable def b202 (P : Params) (os : OsState) : SharedT := shr (insL (t202 P) 834 [rg 13527, rit 0 8]) 836 13529 os
def n203 : List Obj := n202 ++ [(rg 13527), ri, tup0, (se 836)]
noncomputable def t203 (P : Params) : BT := insL (top3 (B12 P) P 203) 794 n203
noncomputable def a203 (P : Params) (os : OsState) : SharedT := shr (t203 P) 838 13591 os
noncomputable def b203 (P : Params) (os : OsState) : SharedT := shr (insL (t203 P) 838 [rg 13592, rit 0 8]) 840 13594 os
def n204 : List Obj := n203 ++ [(rg 13592), ri, tup0, (se 840)]
noncomputable def t204 (P : Params) : BT := insL (top3 (B12 P) P 204) 794 n204
noncomputable def a204 (P : Params) (os : OsState) : SharedT := shr (t204 P) 842 13656 os
noncomputable def b204 (P : Params) (os : OsState) : SharedT := shr (insL (t204 P) 842 [rg 13657, rit 0 8]) 844 13659 os
def n205 : List Obj := n204 ++ [(rg 13657), ri, tup0, (se 844)]
noncomputable def t205 (P : Params) : BT := insL (top3 (B12 P) P 205) 794 n205
noncomputable def a205 (P : Params) (os : OsState) : SharedT := shr (t205 P) 846 13722 os
noncomputable def b205 (P : Params) (os : OsState) : SharedT := shr (insL (t205 P) 846 [rg 13723, rit 0 8]) 848 13725 os
def n206 : List Obj := n205 ++ [(rg 13723), ri, tup0, (se 848)]
noncomputable def t206 (P : Params) : BT := insL (top3 (B12 P) P 206) 794 n206
noncomputable def a206 (P : Params) (os : OsState) : SharedT := shr (t206 P) 850 13788 os
noncomputable def b206 (P : Params) (os : OsState) : SharedT := shr (insL (t206 P) 850 [rg 13789, rit 0 8]) 852 13791 os
def n207 : List Obj := n206 ++ [(rg 13789), ri, tup0, (se 852)]
noncomputable def t207 (P : Params) : BT := insL (top3 (B12 P) P 207) 794 n207
noncomputable def a207 (P : Params) (os : OsState) : SharedT := shr (t207 P) 854 13854 os
noncomputable def b207 (P : Params) (os : OsState) : SharedT := shr (insL (t207 P) 854 [rg 13855, rit 0 8]) 856 13857 os
def n208 : List Obj := []
noncomputable def t208 (P : Params) : BT := B13 P
noncomputable def a208 (P : Params) (os : OsState) : SharedT := shr (t208 P) 858 13920 os
noncomputable def b208 (P : Params) (os : OsState) : SharedT := shr (insL (t208 P) 858 [rg 13921, rit 0 8]) 860 13923 os
def n209 : List Obj := n208 ++ [(rg 13921), ri, tup0, (se 860)]
noncomputable def t209 (P : Params) : BT := insL (top3 (B13 P) P 209) 858 n209
noncomputable def a209 (P : Params) (os : OsState) : SharedT := shr (t209 P) 862 13985 os
noncomputable def b209 (P : Params) (os : OsState) : SharedT := shr (insL (t209 P) 862 [rg 13986, rit 0 8]) 864 13988 os
def n210 : List Obj := n209 ++ [(rg 13986), ri, tup0, (se 864)]
noncomputable def t210 (P : Params) : BT := insL (top3 (B13 P) P 210) 858 n210
noncomputable def a210 (P : Params) (os : OsState) : SharedT := shr (t210 P) 866 14050 os
noncomputable def b210 (P : Params) (os : OsState) : SharedT := shr (insL (t210 P) 866 [rg 14051, rit 0 8]) 868 14053 os
def n211 : List Obj := n210 ++ [(rg 14051), ri, tup0, (se 868)]
noncomputable def t211 (P : Params) : BT := insL (top3 (B13 P) P 211) 858 n211
noncomputable def a211 (P : Params) (os : OsState) : SharedT := shr (t211 P) 870 14115 os
noncomputable def b211 (P : Params) (os : OsState) : SharedT := shr (insL (t211 P) 870 [rg 14116, rit 0 8]) 872 14118 os
def n212 : List Obj := n211 ++ [(rg 14116), ri, tup0, (se 872)]
noncomputable def t212 (P : Params) : BT := insL (top3 (B13 P) P 212) 858 n212
noncomputable def a212 (P : Params) (os : OsState) : SharedT := shr (t212 P) 874 14180 os
noncomputable def b212 (P : Params) (os : OsState) : SharedT := shr (insL (t212 P) 874 [rg 14181, rit 0 8]) 876 14183 os
def n213 : List Obj := n212 ++ [(rg 14181), ri, tup0, (se 876)]
noncomputable def t213 (P : Params) : BT := insL (top3 (B13 P) P 213) 858 n213
noncomputable def a213 (P : Params) (os : OsState) : SharedT := shr (t213 P) 878 14246 os
noncomputable def b213 (P : Params) (os : OsState) : SharedT := shr (insL (t213 P) 878 [rg 14247, rit 0 8]) 880 14249 os
def n214 : List Obj := n213 ++ [(rg 14247), ri, tup0, (se 880)]
noncomputable def t214 (P : Params) : BT := insL (top3 (B13 P) P 214) 858 n214
noncomputable def a214 (P : Params) (os : OsState) : SharedT := shr (t214 P) 882 14312 os
noncomputable def b214 (P : Params) (os : OsState) : SharedT := shr (insL (t214 P) 882 [rg 14313, rit 0 8]) 884 14315 os
def n215 : List Obj := n214 ++ [(rg 14313), ri, tup0, (se 884)]
noncomputable def t215 (P : Params) : BT := insL (top3 (B13 P) P 215) 858 n215
noncomputable def a215 (P : Params) (os : OsState) : SharedT := shr (t215 P) 886 14378 os
noncomputable def b215 (P : Params) (os : OsState) : SharedT := shr (insL (t215 P) 886 [rg 14379, rit 0 8]) 888 14381 os
def n216 : List Obj := n215 ++ [(rg 14379), ri, tup0, (se 888)]
noncomputable def t216 (P : Params) : BT := insL (top3 (B13 P) P 216) 858 n216
noncomputable def a216 (P : Params) (os : OsState) : SharedT := shr (t216 P) 890 14444 os
noncomputable def b216 (P : Params) (os : OsState) : SharedT := shr (insL (t216 P) 890 [rg 14445, rit 0 8]) 892 14447 os
def n217 : List Obj := n216 ++ [(rg 14445), ri, tup0, (se 892)]
noncomputable def t217 (P : Params) : BT := insL (top3 (B13 P) P 217) 858 n217
noncomputable def a217 (P : Params) (os : OsState) : SharedT := shr (t217 P) 894 14510 os
noncomputable def b217 (P : Params) (os : OsState) : SharedT := shr (insL (t217 P) 894 [rg 14511, rit 0 8]) 896 14513 os
def n218 : List Obj := n217 ++ [(rg 14511), ri, tup0, (se 896)]
noncomputable def t218 (P : Params) : BT := insL (top3 (B13 P) P 218) 858 n218
noncomputable def a218 (P : Params) (os : OsState) : SharedT := shr (t218 P) 898 14576 os
noncomputable def b218 (P : Params) (os : OsState) : SharedT := shr (insL (t218 P) 898 [rg 14577, rit 0 8]) 900 14579 os
def n219 : List Obj := n218 ++ [(rg 14577), ri, tup0, (se 900)]
noncomputable def t219 (P : Params) : BT := insL (top3 (B13 P) P 219) 858 n219
noncomputable def a219 (P : Params) (os : OsState) : SharedT := shr (t219 P) 902 14642 os
noncomputable def b219 (P : Params) (os : OsState) : SharedT := shr (insL (t219 P) 902 [rg 14643, rit 0 8]) 904 14645 os
def n220 : List Obj := n219 ++ [(rg 14643), ri, tup0, (se 904)]
noncomputable def t220 (P : Params) : BT := insL (top3 (B13 P) P 220) 858 n220
noncomputable def a220 (P : Params) (os : OsState) : SharedT := shr (t220 P) 906 14708 os
noncomputable def b220 (P : Params) (os : OsState) : SharedT := shr (insL (t220 P) 906 [rg 14709, rit 0 8]) 908 14711 os
def n221 : List Obj := n220 ++ [(rg 14709), ri, tup0, (se 908)]
noncomputable def t221 (P : Params) : BT := insL (top3 (B13 P) P 221) 858 n221
noncomputable def a221 (P : Params) (os : OsState) : SharedT := shr (t221 P) 910 14775 os
noncomputable def b221 (P : Params) (os : OsState) : SharedT := shr (insL (t221 P) 910 [rg 14776, rit 0 8]) 912 14778 os
def n222 : List Obj := n221 ++ [(rg 14776), ri, tup0, (se 912)]
noncomputable def t222 (P : Params) : BT := insL (top3 (B13 P) P 222) 858 n222
noncomputable def a222 (P : Params) (os : OsState) : SharedT := shr (t222 P) 914 14842 os
noncomputable def b222 (P : Params) (os : OsState) : SharedT := shr (insL (t222 P) 914 [rg 14843, rit 0 8]) 916 14845 os
def n223 : List Obj := n222 ++ [(rg 14843), ri, tup0, (se 916)]
noncomputable def t223 (P : Params) : BT := insL (top3 (B13 P) P 223) 858 n223
noncomputable def a223 (P : Params) (os : OsState) : SharedT := shr (t223 P) 918 14909 os
noncomputable def b223 (P : Params) (os : OsState) : SharedT := shr (insL (t223 P) 918 [rg 14910, rit 0 8]) 920 14912 os
def n224 : List Obj := []
noncomputable def t224 (P : Params) : BT := B14 P
noncomputable def a224 (P : Params) (os : OsState) : SharedT := shr (t224 P) 922 14976 os
noncomputable def b224 (P : Params) (os : OsState) : SharedT := shr (insL (t224 P) 922 [rg 14977, rit 0 8]) 924 14979 os
def n225 : List Obj := n224 ++ [(rg 14977), ri, tup0, (se 924)]
noncomputable def t225 (P : Params) : BT := insL (top3 (B14 P) P 225) 922 n225
noncomputable def a225 (P : Params) (os : OsState) : SharedT := shr (t225 P) 926 15041 os
noncomputable def b225 (P : Params) (os : OsState) : SharedT := shr (insL (t225 P) 926 [rg 15042, rit 0 8]) 928 15044 os
def n226 : List Obj := n225 ++ [(rg 15042), ri, tup0, (se 928)]
noncomputable def t226 (P : Params) : BT := insL (top3 (B14 P) P 226) 922 n226
noncomputable def a226 (P : Params) (os : OsState) : SharedT := shr (t226 P) 930 15106 os
noncomputable def b226 (P : Params) (os : OsState) : SharedT := shr (insL (t226 P) 930 [rg 15107, rit 0 8]) 932 15109 os
def n227 : List Obj := n226 ++ [(rg 15107), ri, tup0, (se 932)]
noncomputable def t227 (P : Params) : BT := insL (top3 (B14 P) P 227) 922 n227
noncomputable def a227 (P : Params) (os : OsState) : SharedT := shr (t227 P) 934 15171 os
noncomputable def b227 (P : Params) (os : OsState) : SharedT := shr (insL (t227 P) 934 [rg 15172, rit 0 8]) 936 15174 os
def n228 : List Obj := n227 ++ [(rg 15172), ri, tup0, (se 936)]
noncomputable def t228 (P : Params) : BT := insL (top3 (B14 P) P 228) 922 n228
noncomputable def a228 (P : Params) (os : OsState) : SharedT := shr (t228 P) 938 15236 os
noncomputable def b228 (P : Params) (os : OsState) : SharedT := shr (insL (t228 P) 938 [rg 15237, rit 0 8]) 940 15239 os
def n229 : List Obj := n228 ++ [(rg 15237), ri, tup0, (se 940)]
noncomputable def t229 (P : Params) : BT := insL (top3 (B14 P) P 229) 922 n229
noncomputable def a229 (P : Params) (os : OsState) : SharedT := shr (t229 P) 942 15302 os
noncomputable def b229 (P : Params) (os : OsState) : SharedT := shr (insL (t229 P) 942 [rg 15303, rit 0 8]) 944 15305 os
def n230 : List Obj := n229 ++ [(rg 15303), ri, tup0, (se 944)]
noncomputable def t230 (P : Params) : BT := insL (top3 (B14 P) P 230) 922 n230
noncomputable def a230 (P : Params) (os : OsState) : SharedT := shr (t230 P) 946 15368 os
noncomputable def b230 (P : Params) (os : OsState) : SharedT := shr (insL (t230 P) 946 [rg 15369, rit 0 8]) 948 15371 os
def n231 : List Obj := n230 ++ [(rg 15369), ri, tup0, (se 948)]
noncomputable def t231 (P : Params) : BT := insL (top3 (B14 P) P 231) 922 n231
noncomputable def a231 (P : Params) (os : OsState) : SharedT := shr (t231 P) 950 15434 os
noncomputable def b231 (P : Params) (os : OsState) : SharedT := shr (insL (t231 P) 950 [rg 15435, rit 0 8]) 952 15437 os
def n232 : List Obj := n231 ++ [(rg 15435), ri, tup0, (se 952)]
noncomputable def t232 (P : Params) : BT := insL (top3 (B14 P) P 232) 922 n232
noncomputable def a232 (P : Params) (os : OsState) : SharedT := shr (t232 P) 954 15500 os
noncomputable def b232 (P : Params) (os : OsState) : SharedT := shr (insL (t232 P) 954 [rg 15501, rit 0 8]) 956 15503 os
def n233 : List Obj := n232 ++ [(rg 15501), ri, tup0, (se 956)]
noncomputable def t233 (P : Params) : BT := insL (top3 (B14 P) P 233) 922 n233
noncomputable def a233 (P : Params) (os : OsState) : SharedT := shr (t233 P) 958 15566 os
noncomputable def b233 (P : Params) (os : OsState) : SharedT := shr (insL (t233 P) 958 [rg 15567, rit 0 8]) 960 15569 os
def n234 : List Obj := n233 ++ [(rg 15567), ri, tup0, (se 960)]
noncomputable def t234 (P : Params) : BT := insL (top3 (B14 P) P 234) 922 n234
noncomputable def a234 (P : Params) (os : OsState) : SharedT := shr (t234 P) 962 15632 os
noncomputable def b234 (P : Params) (os : OsState) : SharedT := shr (insL (t234 P) 962 [rg 15633, rit 0 8]) 964 15635 os
def n235 : List Obj := n234 ++ [(rg 15633), ri, tup0, (se 964)]
noncomputable def t235 (P : Params) : BT := insL (top3 (B14 P) P 235) 922 n235
noncomputable def a235 (P : Params) (os : OsState) : SharedT := shr (t235 P) 966 15698 os
noncomputable def b235 (P : Params) (os : OsState) : SharedT := shr (insL (t235 P) 966 [rg 15699, rit 0 8]) 968 15701 os
def n236 : List Obj := n235 ++ [(rg 15699), ri, tup0, (se 968)]
noncomputable def t236 (P : Params) : BT := insL (top3 (B14 P) P 236) 922 n236
noncomputable def a236 (P : Params) (os : OsState) : SharedT := shr (t236 P) 970 15764 os
noncomputable def b236 (P : Params) (os : OsState) : SharedT := shr (insL (t236 P) 970 [rg 15765, rit 0 8]) 972 15767 os
def n237 : List Obj := n236 ++ [(rg 15765), ri, tup0, (se 972)]
noncomputable def t237 (P : Params) : BT := insL (top3 (B14 P) P 237) 922 n237
noncomputable def a237 (P : Params) (os : OsState) : SharedT := shr (t237 P) 974 15831 os
noncomputable def b237 (P : Params) (os : OsState) : SharedT := shr (insL (t237 P) 974 [rg 15832, rit 0 8]) 976 15834 os
def n238 : List Obj := n237 ++ [(rg 15832), ri, tup0, (se 976)]
noncomputable def t238 (P : Params) : BT := insL (top3 (B14 P) P 238) 922 n238
noncomputable def a238 (P : Params) (os : OsState) : SharedT := shr (t238 P) 978 15898 os
noncomputable def b238 (P : Params) (os : OsState) : SharedT := shr (insL (t238 P) 978 [rg 15899, rit 0 8]) 980 15901 os
def n239 : List Obj := n238 ++ [(rg 15899), ri, tup0, (se 980)]
noncomputable def t239 (P : Params) : BT := insL (top3 (B14 P) P 239) 922 n239
noncomputable def a239 (P : Params) (os : OsState) : SharedT := shr (t239 P) 982 15965 os
noncomputable def b239 (P : Params) (os : OsState) : SharedT := shr (insL (t239 P) 982 [rg 15966, rit 0 8]) 984 15968 os
def n240 : List Obj := []
noncomputable def t240 (P : Params) : BT := B15 P
noncomputable def a240 (P : Params) (os : OsState) : SharedT := shr (t240 P) 986 16032 os
noncomputable def b240 (P : Params) (os : OsState) : SharedT := shr (insL (t240 P) 986 [rg 16033, rit 0 8]) 988 16035 os
def n241 : List Obj := n240 ++ [(rg 16033), ri, tup0, (se 988)]
noncomputable def t241 (P : Params) : BT := insL (top3 (B15 P) P 241) 986 n241
noncomputable def a241 (P : Params) (os : OsState) : SharedT := shr (t241 P) 990 16098 os
noncomputable def b241 (P : Params) (os : OsState) : SharedT := shr (insL (t241 P) 990 [rg 16099, rit 0 8]) 992 16101 os
def n242 : List Obj := n241 ++ [(rg 16099), ri, tup0, (se 992)]
noncomputable def t242 (P : Params) : BT := insL (top3 (B15 P) P 242) 986 n242
noncomputable def a242 (P : Params) (os : OsState) : SharedT := shr (t242 P) 994 16164 os
noncomputable def b242 (P : Params) (os : OsState) : SharedT := shr (insL (t242 P) 994 [rg 16165, rit 0 8]) 996 16167 os
def n243 : List Obj := n242 ++ [(rg 16165), ri, tup0, (se 996)]
noncomputable def t243 (P : Params) : BT := insL (top3 (B15 P) P 243) 986 n243
noncomputable def a243 (P : Params) (os : OsState) : SharedT := shr (t243 P) 998 16230 os
noncomputable def b243 (P : Params) (os : OsState) : SharedT := shr (insL (t243 P) 998 [rg 16231, rit 0 8]) 1000 16233 os
def n244 : List Obj := n243 ++ [(rg 16231), ri, tup0, (se 1000)]
noncomputable def t244 (P : Params) : BT := insL (top3 (B15 P) P 244) 986 n244
noncomputable def a244 (P : Params) (os : OsState) : SharedT := shr (t244 P) 1002 16296 os
noncomputable def b244 (P : Params) (os : OsState) : SharedT := shr (insL (t244 P) 1002 [rg 16297, rit 0 8]) 1004 16299 os
def n245 : List Obj := n244 ++ [(rg 16297), ri, tup0, (se 1004)]
noncomputable def t245 (P : Params) : BT := insL (top3 (B15 P) P 245) 986 n245
noncomputable def a245 (P : Params) (os : OsState) : SharedT := shr (t245 P) 1006 16363 os
noncomputable def b245 (P : Params) (os : OsState) : SharedT := shr (insL (t245 P) 1006 [rg 16364, rit 0 8]) 1008 16366 os
def n246 : List Obj := n245 ++ [(rg 16364), ri, tup0, (se 1008)]
noncomputable def t246 (P : Params) : BT := insL (top3 (B15 P) P 246) 986 n246
noncomputable def a246 (P : Params) (os : OsState) : SharedT := shr (t246 P) 1010 16430 os
noncomputable def b246 (P : Params) (os : OsState) : SharedT := shr (insL (t246 P) 1010 [rg 16431, rit 0 8]) 1012 16433 os
def n247 : List Obj := n246 ++ [(rg 16431), ri, tup0, (se 1012)]
noncomputable def t247 (P : Params) : BT := insL (top3 (B15 P) P 247) 986 n247
noncomputable def a247 (P : Params) (os : OsState) : SharedT := shr (t247 P) 1014 16497 os
noncomputable def b247 (P : Params) (os : OsState) : SharedT := shr (insL (t247 P) 1014 [rg 16498, rit 0 8]) 1016 16500 os
def n248 : List Obj := n247 ++ [(rg 16498), ri, tup0, (se 1016)]
noncomputable def t248 (P : Params) : BT := insL (top3 (B15 P) P 248) 986 n248
noncomputable def a248 (P : Params) (os : OsState) : SharedT := shr (t248 P) 1018 16564 os
noncomputable def b248 (P : Params) (os : OsState) : SharedT := shr (insL (t248 P) 1018 [rg 16565, rit 0 8]) 1020 16567 os
def n249 : List Obj := n248 ++ [(rg 16565), ri, tup0, (se 1020)]
noncomputable def t249 (P : Params) : BT := insL (top3 (B15 P) P 249) 986 n249
noncomputable def a249 (P : Params) (os : OsState) : SharedT := shr (t249 P) 1022 16631 os
noncomputable def b249 (P : Params) (os : OsState) : SharedT := shr (insL (t249 P) 1022 [rg 16632, rit 0 8]) 1024 16634 os
def n250 : List Obj := n249 ++ [(rg 16632), ri, tup0, (se 1024)]
noncomputable def t250 (P : Params) : BT := insL (top3 (B15 P) P 250) 986 n250
noncomputable def a250 (P : Params) (os : OsState) : SharedT := shr (t250 P) 1026 16698 os
noncomputable def b250 (P : Params) (os : OsState) : SharedT := shr (insL (t250 P) 1026 [rg 16699, rit 0 8]) 1028 16701 os
def n251 : List Obj := n250 ++ [(rg 16699), ri, tup0, (se 1028)]
noncomputable def t251 (P : Params) : BT := insL (top3 (B15 P) P 251) 986 n251
noncomputable def a251 (P : Params) (os : OsState) : SharedT := shr (t251 P) 1030 16765 os
noncomputable def b251 (P : Params) (os : OsState) : SharedT := shr (insL (t251 P) 1030 [rg 16766, rit 0 8]) 1032 16768 os
def n252 : List Obj := n251 ++ [(rg 16766), ri, tup0, (se 1032)]
noncomputable def t252 (P : Params) : BT := insL (top3 (B15 P) P 252) 986 n252
noncomputable def a252 (P : Params) (os : OsState) : SharedT := shr (t252 P) 1034 16832 os
noncomputable def b252 (P : Params) (os : OsState) : SharedT := shr (insL (t252 P) 1034 [rg 16833, rit 0 8]) 1036 16835 os
def n253 : List Obj := n252 ++ [(rg 16833), ri, tup0, (se 1036)]
noncomputable def t253 (P : Params) : BT := insL (top3 (B15 P) P 253) 986 n253
noncomputable def a253 (P : Params) (os : OsState) : SharedT := shr (t253 P) 1038 16900 os
noncomputable def b253 (P : Params) (os : OsState) : SharedT := shr (insL (t253 P) 1038 [rg 16901, rit 0 8]) 1040 16903 os
def n254 : List Obj := n253 ++ [(rg 16901), ri, tup0, (se 1040)]
noncomputable def t254 (P : Params) : BT := insL (top3 (B15 P) P 254) 986 n254
noncomputable def a254 (P : Params) (os : OsState) : SharedT := shr (t254 P) 1042 16968 os
noncomputable def b254 (P : Params) (os : OsState) : SharedT := shr (insL (t254 P) 1042 [rg 16969, rit 0 8]) 1044 16971 os
def n255 : List Obj := n254 ++ [(rg 16969), ri, tup0, (se 1044)]
noncomputable def t255 (P : Params) : BT := insL (top3 (B15 P) P 255) 986 n255
noncomputable def a255 (P : Params) (os : OsState) : SharedT := shr (t255 P) 1046 17036 os
noncomputable def b255 (P : Params) (os : OsState) : SharedT := shr (insL (t255 P) 1046 [rg 17037, rit 0 8]) 1048 17039 os

noncomputable def st3 : List Stmt := [(PySem.Challenge.pw_ui0507_06.main.body)[3]!]
noncomputable def st0 (P : Params) (os : OsState) : SharedT := shr (Pre.tree_13 P) 22 201 os
noncomputable def thr0 (b : List Stmt) : Thread := piecesOf st3 Pre.env_1 (Code.body b Pre.env_1) { line := 3, col := 0, endLine := 13, endCol := 16 } [topFrame { line := 0, col := 0, endLine := 0, endCol := 0 }]
noncomputable def goW (p : Program) (w : World) (n : Nat) (s : SharedT) (t : Thread) : Option (SharedT × Thread) := PySem.W.Fast.tw10295753902157049106 PySem.W.Fast.tw14364793385576792824 p w 11 (some (Value.ref 6)) 1 n s t
theorem goW_eq {p : Program} {w : World} {n : Nat} {s : SharedT} {t : Thread} : segGoT treeTable p w 11 (some (Value.ref 6)) 1 n s t = goW p w n s t := by
  unfold goW
  rw [← PySem.W.Fast.te10295753902157049106, ← PySem.W.Fast.te14364793385576792824]
noncomputable def wF (w : World) : World := w.withFollow "special-get-raises" false
noncomputable def wT (w : World) : World := w.withFollow "special-get-raises" true
noncomputable def thrA (p : Program) (w : World) (b : List Stmt) (os : OsState) : Thread := match goW p (wF w) 92 (st0 w.params os) (thr0 b) with | some r => r.2 | none => thr0 b
noncomputable def thrB (p : Program) (w : World) (b : List Stmt) (os : OsState) (s : SharedT) : Thread := match goW p (wF w) 37 s (thrA p w b os) with | some r => r.2 | none => thr0 b
theorem g0 (p : Program) (w : World) (b : List Stmt) (os : OsState) :
    goW p (wF w) 37 (a0 w.params os) (thrA p w b os) = some (b0 w.params os, thrB p w b os (a0 w.params os)) ∧
    goW p (wT w) 37 (a0 w.params os) (thrA p w b os) = some (b0 w.params os, thrB p w b os (a0 w.params os)) ∧
    goW p w 485 (b0 w.params os) (thrB p w b os (a0 w.params os)) = some (a1 w.params os, thrA p w b os) ∧
    goW p (wF w) 37 (a1 w.params os) (thrA p w b os) = some (b1 w.params os, thrB p w b os (a1 w.params os)) ∧
    goW p (wT w) 37 (a1 w.params os) (thrA p w b os) = some (b1 w.params os, thrB p w b os (a1 w.params os)) ∧
    goW p w 492 (b1 w.params os) (thrB p w b os (a1 w.params os)) = some (a2 w.params os, thrA p w b os) ∧
    goW p (wF w) 37 (a2 w.params os) (thrA p w b os) = some (b2 w.params os, thrB p w b os (a2 w.params os)) ∧
    goW p (wT w) 37 (a2 w.params os) (thrA p w b os) = some (b2 w.params os, thrB p w b os (a2 w.params os)) ∧
    goW p w 492 (b2 w.params os) (thrB p w b os (a2 w.params os)) = some (a3 w.params os, thrA p w b os) ∧
    goW p (wF w) 37 (a3 w.params os) (thrA p w b os) = some (b3 w.params os, thrB p w b os (a3 w.params os)) ∧
    goW p (wT w) 37 (a3 w.params os) (thrA p w b os) = some (b3 w.params os, thrB p w b os (a3 w.params os)) ∧
    goW p w 505 (b3 w.params os) (thrB p w b os (a3 w.params os)) = some (a4 w.params os, thrA p w b os) ∧
    goW p (wF w) 37 (a4 w.params os) (thrA p w b os) = some (b4 w.params os, thrB p w b os (a4 w.params os)) ∧
    goW p (wT w) 37 (a4 w.params os) (thrA p w b os) = some (b4 w.params os, thrB p w b os (a4 w.params os)) ∧
    goW p w 485 (b4 w.params os) (thrB p w b os (a4 w.params os)) = some (a5 w.params os, thrA p w b os) ∧
    goW p (wF w) 37 (a5 w.params os) (thrA p w b os) = some (b5 w.params os, thrB p w b os (a5 w.params os)) ∧
    goW p (wT w) 37 (a5 w.params os) (thrA p w b os) = some (b5 w.params os, thrB p w b os (a5 w.params os)) ∧
    goW p w 498 (b5 w.params os) (thrB p w b os (a5 w.params os)) = some (a6 w.params os, thrA p w b os) ∧
    goW p (wF w) 37 (a6 w.params os) (thrA p w b os) = some (b6 w.params os, thrB p w b os (a6 w.params os)) ∧
    goW p (wT w) 37 (a6 w.params os) (thrA p w b os) = some (b6 w.params os, thrB p w b os (a6 w.params os)) ∧
    goW p w 498 (b6 w.params os) (thrB p w b os (a6 w.params os)) = some (a7 w.params os, thrA p w b os) ∧
    goW p (wF w) 37 (a7 w.params os) (thrA p w b os) = some (b7 w.params os, thrB p w b os (a7 w.params os)) ∧
    goW p (wT w) 37 (a7 w.params os) (thrA p w b os) = some (b7 w.params os, thrB p w b os (a7 w.params os)) ∧
    goW p w 512 (b7 w.params os) (thrB p w b os (a7 w.params os)) = some (a8 w.params os, thrA p w b os) :=
  ⟨by kernel_rfl, by kernel_rfl, by kernel_rfl, by kernel_rfl, by kernel_rfl, by kernel_rfl, by kernel_rfl, by kernel_rfl, by kernel_rfl, by kernel_rfl, by kernel_rfl, by kernel_rfl, by kernel_rfl, by kernel_rfl, by kernel_rfl, by kernel_rfl, by kernel_rfl, by kernel_rfl, by kernel_rfl, by kernel_rfl, by kernel_rfl, by kernel_rfl, by kernel_rfl, by kernel_rfl⟩
theorem g8 (p : Program) (w : World) (b : List Stmt) (os : OsState) :
    goW p (wF w) 37 (a8 w.params os) (thrA p w b os) = some (b8 w.params os, thrB p w b os (a8 w.params os)) ∧
    goW p (wT w) 37 (a8 w.params os) (thrA p w b os) = some (b8 w.params os, thrB p w b os (a8 w.params os)) ∧
    goW p w 485 (b8 w.params os) (thrB p w b os (a8 w.params os)) = some (a9 w.params os, thrA p w b os) ∧
    goW p (wF w) 37 (a9 w.params os) (thrA p w b os) = some (b9 w.params os, thrB p w b os (a9 w.params os)) ∧
    goW p (wT w) 37 (a9 w.params os) (thrA p w b os) = some (b9 w.params os, thrB p w b os (a9 w.params os)) ∧
    goW p w 498 (b9 w.params os) (thrB p w b os (a9 w.params os)) = some (a10 w.params os, thrA p w b os) ∧
    goW p (wF w) 37 (a10 w.params os) (thrA p w b os) = some (b10 w.params os, thrB p w b os (a10 w.params os)) ∧
    goW p (wT w) 37 (a10 w.params os) (thrA p w b os) = some (b10 w.params os, thrB p w b os (a10 w.params os)) ∧
    goW p w 498 (b10 w.params os) (thrB p w b os (a10 w.params os)) = some (a11 w.params os, thrA p w b os) ∧
    goW p (wF w) 37 (a11 w.params os) (thrA p w b os) = some (b11 w.params os, thrB p w b os (a11 w.params os)) ∧
    goW p (wT w) 37 (a11 w.params os) (thrA p w b os) = some (b11 w.params os, thrB p w b os (a11 w.params os)) ∧
    goW p w 512 (b11 w.params os) (thrB p w b os (a11 w.params os)) = some (a12 w.params os, thrA p w b os) ∧
    goW p (wF w) 37 (a12 w.params os) (thrA p w b os) = some (b12 w.params os, thrB p w b os (a12 w.params os)) ∧
    goW p (wT w) 37 (a12 w.params os) (thrA p w b os) = some (b12 w.params os, thrB p w b os (a12 w.params os)) ∧
    goW p w 491 (b12 w.params os) (thrB p w b os (a12 w.params os)) = some (a13 w.params os, thrA p w b os) ∧
    goW p (wF w) 37 (a13 w.params os) (thrA p w b os) = some (b13 w.params os, thrB p w b os (a13 w.params os)) ∧
    goW p (wT w) 37 (a13 w.params os) (thrA p w b os) = some (b13 w.params os, thrB p w b os (a13 w.params os)) ∧
    goW p w 505 (b13 w.params os) (thrB p w b os (a13 w.params os)) = some (a14 w.params os, thrA p w b os) ∧
    goW p (wF w) 37 (a14 w.params os) (thrA p w b os) = some (b14 w.params os, thrB p w b os (a14 w.params os)) ∧
    goW p (wT w) 37 (a14 w.params os) (thrA p w b os) = some (b14 w.params os, thrB p w b os (a14 w.params os)) ∧
    goW p w 505 (b14 w.params os) (thrB p w b os (a14 w.params os)) = some (a15 w.params os, thrA p w b os) ∧
    goW p (wF w) 37 (a15 w.params os) (thrA p w b os) = some (b15 w.params os, thrB p w b os (a15 w.params os)) ∧
    goW p (wT w) 37 (a15 w.params os) (thrA p w b os) = some (b15 w.params os, thrB p w b os (a15 w.params os)) ∧
    goW p w 519 (b15 w.params os) (thrB p w b os (a15 w.params os)) = some (a16 w.params os, thrA p w b os) :=
  ⟨by kernel_rfl, by kernel_rfl, by kernel_rfl, by kernel_rfl, by kernel_rfl, by kernel_rfl, by kernel_rfl, by kernel_rfl, by kernel_rfl, by kernel_rfl, by kernel_rfl, by kernel_rfl, by kernel_rfl, by kernel_rfl, by kernel_rfl, by kernel_rfl, by kernel_rfl, by kernel_rfl, by kernel_rfl, by kernel_rfl, by kernel_rfl, by kernel_rfl, by kernel_rfl, by kernel_rfl⟩
theorem g16 (p : Program) (w : World) (b : List Stmt) (os : OsState) :
    goW p (wF w) 37 (a16 w.params os) (thrA p w b os) = some (b16 w.params os, thrB p w b os (a16 w.params os)) ∧
    goW p (wT w) 37 (a16 w.params os) (thrA p w b os) = some (b16 w.params os, thrB p w b os (a16 w.params os)) ∧
    goW p w 485 (b16 w.params os) (thrB p w b os (a16 w.params os)) = some (a17 w.params os, thrA p w b os) ∧
    goW p (wF w) 37 (a17 w.params os) (thrA p w b os) = some (b17 w.params os, thrB p w b os (a17 w.params os)) ∧
    goW p (wT w) 37 (a17 w.params os) (thrA p w b os) = some (b17 w.params os, thrB p w b os (a17 w.params os)) ∧
    goW p w 498 (b17 w.params os) (thrB p w b os (a17 w.params os)) = some (a18 w.params os, thrA p w b os) ∧
    goW p (wF w) 37 (a18 w.params os) (thrA p w b os) = some (b18 w.params os, thrB p w b os (a18 w.params os)) ∧
    goW p (wT w) 37 (a18 w.params os) (thrA p w b os) = some (b18 w.params os, thrB p w b os (a18 w.params os)) ∧
    goW p w 498 (b18 w.params os) (thrB p w b os (a18 w.params os)) = some (a19 w.params os, thrA p w b os) ∧
    goW p (wF w) 37 (a19 w.params os) (thrA p w b os) = some (b19 w.params os, thrB p w b os (a19 w.params os)) ∧
    goW p (wT w) 37 (a19 w.params os) (thrA p w b os) = some (b19 w.params os, thrB p w b os (a19 w.params os)) ∧
    goW p w 512 (b19 w.params os) (thrB p w b os (a19 w.params os)) = some (a20 w.params os, thrA p w b os) ∧
    goW p (wF w) 37 (a20 w.params os) (thrA p w b os) = some (b20 w.params os, thrB p w b os (a20 w.params os)) ∧
    goW p (wT w) 37 (a20 w.params os) (thrA p w b os) = some (b20 w.params os, thrB p w b os (a20 w.params os)) ∧
    goW p w 491 (b20 w.params os) (thrB p w b os (a20 w.params os)) = some (a21 w.params os, thrA p w b os) ∧
    goW p (wF w) 37 (a21 w.params os) (thrA p w b os) = some (b21 w.params os, thrB p w b os (a21 w.params os)) ∧
    goW p (wT w) 37 (a21 w.params os) (thrA p w b os) = some (b21 w.params os, thrB p w b os (a21 w.params os)) ∧
    goW p w 505 (b21 w.params os) (thrB p w b os (a21 w.params os)) = some (a22 w.params os, thrA p w b os) ∧
    goW p (wF w) 37 (a22 w.params os) (thrA p w b os) = some (b22 w.params os, thrB p w b os (a22 w.params os)) ∧
    goW p (wT w) 37 (a22 w.params os) (thrA p w b os) = some (b22 w.params os, thrB p w b os (a22 w.params os)) ∧
    goW p w 505 (b22 w.params os) (thrB p w b os (a22 w.params os)) = some (a23 w.params os, thrA p w b os) ∧
    goW p (wF w) 37 (a23 w.params os) (thrA p w b os) = some (b23 w.params os, thrB p w b os (a23 w.params os)) ∧
    goW p (wT w) 37 (a23 w.params os) (thrA p w b os) = some (b23 w.params os, thrB p w b os (a23 w.params os)) ∧
    goW p w 519 (b23 w.params os) (thrB p w b os (a23 w.params os)) = some (a24 w.params os, thrA p w b os) :=
  ⟨by kernel_rfl, by kernel_rfl, by kernel_rfl, by kernel_rfl, by kernel_rfl, by kernel_rfl, by kernel_rfl, by kernel_rfl, by kernel_rfl, by kernel_rfl, by kernel_rfl, by kernel_rfl, by kernel_rfl, by kernel_rfl, by kernel_rfl, by kernel_rfl, by kernel_rfl, by kernel_rfl, by kernel_rfl, by kernel_rfl, by kernel_rfl, by kernel_rfl, by kernel_rfl, by kernel_rfl⟩
theorem g24 (p : Program) (w : World) (b : List Stmt) (os : OsState) :
    goW p (wF w) 37 (a24 w.params os) (thrA p w b os) = some (b24 w.params os, thrB p w b os (a24 w.params os)) ∧
    goW p (wT w) 37 (a24 w.params os) (thrA p w b os) = some (b24 w.params os, thrB p w b os (a24 w.params os)) ∧
    goW p w 491 (b24 w.params os) (thrB p w b os (a24 w.params os)) = some (a25 w.params os, thrA p w b os) ∧
    goW p (wF w) 37 (a25 w.params os) (thrA p w b os) = some (b25 w.params os, thrB p w b os (a25 w.params os)) ∧
    goW p (wT w) 37 (a25 w.params os) (thrA p w b os) = some (b25 w.params os, thrB p w b os (a25 w.params os)) ∧
    goW p w 505 (b25 w.params os) (thrB p w b os (a25 w.params os)) = some (a26 w.params os, thrA p w b os) ∧
    goW p (wF w) 37 (a26 w.params os) (thrA p w b os) = some (b26 w.params os, thrB p w b os (a26 w.params os)) ∧
    goW p (wT w) 37 (a26 w.params os) (thrA p w b os) = some (b26 w.params os, thrB p w b os (a26 w.params os)) ∧
    goW p w 505 (b26 w.params os) (thrB p w b os (a26 w.params os)) = some (a27 w.params os, thrA p w b os) ∧
    goW p (wF w) 37 (a27 w.params os) (thrA p w b os) = some (b27 w.params os, thrB p w b os (a27 w.params os)) ∧
    goW p (wT w) 37 (a27 w.params os) (thrA p w b os) = some (b27 w.params os, thrB p w b os (a27 w.params os)) ∧
    goW p w 519 (b27 w.params os) (thrB p w b os (a27 w.params os)) = some (a28 w.params os, thrA p w b os) ∧
    goW p (wF w) 37 (a28 w.params os) (thrA p w b os) = some (b28 w.params os, thrB p w b os (a28 w.params os)) ∧
    goW p (wT w) 37 (a28 w.params os) (thrA p w b os) = some (b28 w.params os, thrB p w b os (a28 w.params os)) ∧
    goW p w 498 (b28 w.params os) (thrB p w b os (a28 w.params os)) = some (a29 w.params os, thrA p w b os) ∧
    goW p (wF w) 37 (a29 w.params os) (thrA p w b os) = some (b29 w.params os, thrB p w b os (a29 w.params os)) ∧
    goW p (wT w) 37 (a29 w.params os) (thrA p w b os) = some (b29 w.params os, thrB p w b os (a29 w.params os)) ∧
    goW p w 512 (b29 w.params os) (thrB p w b os (a29 w.params os)) = some (a30 w.params os, thrA p w b os) ∧
    goW p (wF w) 37 (a30 w.params os) (thrA p w b os) = some (b30 w.params os, thrB p w b os (a30 w.params os)) ∧
    goW p (wT w) 37 (a30 w.params os) (thrA p w b os) = some (b30 w.params os, thrB p w b os (a30 w.params os)) ∧
    goW p w 512 (b30 w.params os) (thrB p w b os (a30 w.params os)) = some (a31 w.params os, thrA p w b os) ∧
    goW p (wF w) 37 (a31 w.params os) (thrA p w b os) = some (b31 w.params os, thrB p w b os (a31 w.params os)) ∧
    goW p (wT w) 37 (a31 w.params os) (thrA p w b os) = some (b31 w.params os, thrB p w b os (a31 w.params os)) ∧
    goW p w 526 (b31 w.params os) (thrB p w b os (a31 w.params os)) = some (a32 w.params os, thrA p w b os) :=
  ⟨by kernel_rfl, by kernel_rfl, by kernel_rfl, by kernel_rfl, by kernel_rfl, by kernel_rfl, by kernel_rfl, by kernel_rfl, by kernel_rfl, by kernel_rfl, by kernel_rfl, by kernel_rfl, by kernel_rfl, by kernel_rfl, by kernel_rfl, by kernel_rfl, by kernel_rfl, by kernel_rfl, by kernel_rfl, by kernel_rfl, by kernel_rfl, by kernel_rfl, by kernel_rfl, by kernel_rfl⟩
theorem g32 (p : Program) (w : World) (b : List Stmt) (os : OsState) :
    goW p (wF w) 37 (a32 w.params os) (thrA p w b os) = some (b32 w.params os, thrB p w b os (a32 w.params os)) ∧
    goW p (wT w) 37 (a32 w.params os) (thrA p w b os) = some (b32 w.params os, thrB p w b os (a32 w.params os)) ∧
    goW p w 485 (b32 w.params os) (thrB p w b os (a32 w.params os)) = some (a33 w.params os, thrA p w b os) ∧
    goW p (wF w) 37 (a33 w.params os) (thrA p w b os) = some (b33 w.params os, thrB p w b os (a33 w.params os)) ∧
    goW p (wT w) 37 (a33 w.params os) (thrA p w b os) = some (b33 w.params os, thrB p w b os (a33 w.params os)) ∧
    goW p w 498 (b33 w.params os) (thrB p w b os (a33 w.params os)) = some (a34 w.params os, thrA p w b os) ∧
    goW p (wF w) 37 (a34 w.params os) (thrA p w b os) = some (b34 w.params os, thrB p w b os (a34 w.params os)) ∧
    goW p (wT w) 37 (a34 w.params os) (thrA p w b os) = some (b34 w.params os, thrB p w b os (a34 w.params os)) ∧
    goW p w 498 (b34 w.params os) (thrB p w b os (a34 w.params os)) = some (a35 w.params os, thrA p w b os) ∧
    goW p (wF w) 37 (a35 w.params os) (thrA p w b os) = some (b35 w.params os, thrB p w b os (a35 w.params os)) ∧
    goW p (wT w) 37 (a35 w.params os) (thrA p w b os) = some (b35 w.params os, thrB p w b os (a35 w.params os)) ∧
    goW p w 512 (b35 w.params os) (thrB p w b os (a35 w.params os)) = some (a36 w.params os, thrA p w b os) ∧
    goW p (wF w) 37 (a36 w.params os) (thrA p w b os) = some (b36 w.params os, thrB p w b os (a36 w.params os)) ∧
    goW p (wT w) 37 (a36 w.params os) (thrA p w b os) = some (b36 w.params os, thrB p w b os (a36 w.params os)) ∧
    goW p w 491 (b36 w.params os) (thrB p w b os (a36 w.params os)) = some (a37 w.params os, thrA p w b os) ∧
    goW p (wF w) 37 (a37 w.params os) (thrA p w b os) = some (b37 w.params os, thrB p w b os (a37 w.params os)) ∧
    goW p (wT w) 37 (a37 w.params os) (thrA p w b os) = some (b37 w.params os, thrB p w b os (a37 w.params os)) ∧
    goW p w 505 (b37 w.params os) (thrB p w b os (a37 w.params os)) = some (a38 w.params os, thrA p w b os) ∧
    goW p (wF w) 37 (a38 w.params os) (thrA p w b os) = some (b38 w.params os, thrB p w b os (a38 w.params os)) ∧
    goW p (wT w) 37 (a38 w.params os) (thrA p w b os) = some (b38 w.params os, thrB p w b os (a38 w.params os)) ∧
    goW p w 505 (b38 w.params os) (thrB p w b os (a38 w.params os)) = some (a39 w.params os, thrA p w b os) ∧
    goW p (wF w) 37 (a39 w.params os) (thrA p w b os) = some (b39 w.params os, thrB p w b os (a39 w.params os)) ∧
    goW p (wT w) 37 (a39 w.params os) (thrA p w b os) = some (b39 w.params os, thrB p w b os (a39 w.params os)) ∧
    goW p w 519 (b39 w.params os) (thrB p w b os (a39 w.params os)) = some (a40 w.params os, thrA p w b os) :=
  ⟨by kernel_rfl, by kernel_rfl, by kernel_rfl, by kernel_rfl, by kernel_rfl, by kernel_rfl, by kernel_rfl, by kernel_rfl, by kernel_rfl, by kernel_rfl, by kernel_rfl, by kernel_rfl, by kernel_rfl, by kernel_rfl, by kernel_rfl, by kernel_rfl, by kernel_rfl, by kernel_rfl, by kernel_rfl, by kernel_rfl, by kernel_rfl, by kernel_rfl, by kernel_rfl, by kernel_rfl⟩
theorem g40 (p : Program) (w : World) (b : List Stmt) (os : OsState) :
    goW p (wF w) 37 (a40 w.params os) (thrA p w b os) = some (b40 w.params os, thrB p w b os (a40 w.params os)) ∧
    goW p (wT w) 37 (a40 w.params os) (thrA p w b os) = some (b40 w.params os, thrB p w b os (a40 w.params os)) ∧
    goW p w 491 (b40 w.params os) (thrB p w b os (a40 w.params os)) = some (a41 w.params os, thrA p w b os) ∧
    goW p (wF w) 37 (a41 w.params os) (thrA p w b os) = some (b41 w.params os, thrB p w b os (a41 w.params os)) ∧
    goW p (wT w) 37 (a41 w.params os) (thrA p w b os) = some (b41 w.params os, thrB p w b os (a41 w.params os)) ∧
    goW p w 505 (b41 w.params os) (thrB p w b os (a41 w.params os)) = some (a42 w.params os, thrA p w b os) ∧
    goW p (wF w) 37 (a42 w.params os) (thrA p w b os) = some (b42 w.params os, thrB p w b os (a42 w.params os)) ∧
    goW p (wT w) 37 (a42 w.params os) (thrA p w b os) = some (b42 w.params os, thrB p w b os (a42 w.params os)) ∧
    goW p w 505 (b42 w.params os) (thrB p w b os (a42 w.params os)) = some (a43 w.params os, thrA p w b os) ∧
    goW p (wF w) 37 (a43 w.params os) (thrA p w b os) = some (b43 w.params os, thrB p w b os (a43 w.params os)) ∧
    goW p (wT w) 37 (a43 w.params os) (thrA p w b os) = some (b43 w.params os, thrB p w b os (a43 w.params os)) ∧
    goW p w 519 (b43 w.params os) (thrB p w b os (a43 w.params os)) = some (a44 w.params os, thrA p w b os) ∧
    goW p (wF w) 37 (a44 w.params os) (thrA p w b os) = some (b44 w.params os, thrB p w b os (a44 w.params os)) ∧
    goW p (wT w) 37 (a44 w.params os) (thrA p w b os) = some (b44 w.params os, thrB p w b os (a44 w.params os)) ∧
    goW p w 498 (b44 w.params os) (thrB p w b os (a44 w.params os)) = some (a45 w.params os, thrA p w b os) ∧
    goW p (wF w) 37 (a45 w.params os) (thrA p w b os) = some (b45 w.params os, thrB p w b os (a45 w.params os)) ∧
    goW p (wT w) 37 (a45 w.params os) (thrA p w b os) = some (b45 w.params os, thrB p w b os (a45 w.params os)) ∧
    goW p w 512 (b45 w.params os) (thrB p w b os (a45 w.params os)) = some (a46 w.params os, thrA p w b os) ∧
    goW p (wF w) 37 (a46 w.params os) (thrA p w b os) = some (b46 w.params os, thrB p w b os (a46 w.params os)) ∧
    goW p (wT w) 37 (a46 w.params os) (thrA p w b os) = some (b46 w.params os, thrB p w b os (a46 w.params os)) ∧
    goW p w 512 (b46 w.params os) (thrB p w b os (a46 w.params os)) = some (a47 w.params os, thrA p w b os) ∧
    goW p (wF w) 37 (a47 w.params os) (thrA p w b os) = some (b47 w.params os, thrB p w b os (a47 w.params os)) ∧
    goW p (wT w) 37 (a47 w.params os) (thrA p w b os) = some (b47 w.params os, thrB p w b os (a47 w.params os)) ∧
    goW p w 526 (b47 w.params os) (thrB p w b os (a47 w.params os)) = some (a48 w.params os, thrA p w b os) :=
  ⟨by kernel_rfl, by kernel_rfl, by kernel_rfl, by kernel_rfl, by kernel_rfl, by kernel_rfl, by kernel_rfl, by kernel_rfl, by kernel_rfl, by kernel_rfl, by kernel_rfl, by kernel_rfl, by kernel_rfl, by kernel_rfl, by kernel_rfl, by kernel_rfl, by kernel_rfl, by kernel_rfl, by kernel_rfl, by kernel_rfl, by kernel_rfl, by kernel_rfl, by kernel_rfl, by kernel_rfl⟩
theorem g48 (p : Program) (w : World) (b : List Stmt) (os : OsState) :
    goW p (wF w) 37 (a48 w.params os) (thrA p w b os) = some (b48 w.params os, thrB p w b os (a48 w.params os)) ∧
    goW p (wT w) 37 (a48 w.params os) (thrA p w b os) = some (b48 w.params os, thrB p w b os (a48 w.params os)) ∧
    goW p w 491 (b48 w.params os) (thrB p w b os (a48 w.params os)) = some (a49 w.params os, thrA p w b os) ∧
    goW p (wF w) 37 (a49 w.params os) (thrA p w b os) = some (b49 w.params os, thrB p w b os (a49 w.params os)) ∧
    goW p (wT w) 37 (a49 w.params os) (thrA p w b os) = some (b49 w.params os, thrB p w b os (a49 w.params os)) ∧
    goW p w 505 (b49 w.params os) (thrB p w b os (a49 w.params os)) = some (a50 w.params os, thrA p w b os) ∧
    goW p (wF w) 37 (a50 w.params os) (thrA p w b os) = some (b50 w.params os, thrB p w b os (a50 w.params os)) ∧
    goW p (wT w) 37 (a50 w.params os) (thrA p w b os) = some (b50 w.params os, thrB p w b os (a50 w.params os)) ∧
    goW p w 505 (b50 w.params os) (thrB p w b os (a50 w.params os)) = some (a51 w.params os, thrA p w b os) ∧
    goW p (wF w) 37 (a51 w.params os) (thrA p w b os) = some (b51 w.params os, thrB p w b os (a51 w.params os)) ∧
    goW p (wT w) 37 (a51 w.params os) (thrA p w b os) = some (b51 w.params os, thrB p w b os (a51 w.params os)) ∧
    goW p w 519 (b51 w.params os) (thrB p w b os (a51 w.params os)) = some (a52 w.params os, thrA p w b os) ∧
    goW p (wF w) 37 (a52 w.params os) (thrA p w b os) = some (b52 w.params os, thrB p w b os (a52 w.params os)) ∧
    goW p (wT w) 37 (a52 w.params os) (thrA p w b os) = some (b52 w.params os, thrB p w b os (a52 w.params os)) ∧
    goW p w 498 (b52 w.params os) (thrB p w b os (a52 w.params os)) = some (a53 w.params os, thrA p w b os) ∧
    goW p (wF w) 37 (a53 w.params os) (thrA p w b os) = some (b53 w.params os, thrB p w b os (a53 w.params os)) ∧
    goW p (wT w) 37 (a53 w.params os) (thrA p w b os) = some (b53 w.params os, thrB p w b os (a53 w.params os)) ∧
    goW p w 512 (b53 w.params os) (thrB p w b os (a53 w.params os)) = some (a54 w.params os, thrA p w b os) ∧
    goW p (wF w) 37 (a54 w.params os) (thrA p w b os) = some (b54 w.params os, thrB p w b os (a54 w.params os)) ∧
    goW p (wT w) 37 (a54 w.params os) (thrA p w b os) = some (b54 w.params os, thrB p w b os (a54 w.params os)) ∧
    goW p w 512 (b54 w.params os) (thrB p w b os (a54 w.params os)) = some (a55 w.params os, thrA p w b os) ∧
    goW p (wF w) 37 (a55 w.params os) (thrA p w b os) = some (b55 w.params os, thrB p w b os (a55 w.params os)) ∧
    goW p (wT w) 37 (a55 w.params os) (thrA p w b os) = some (b55 w.params os, thrB p w b os (a55 w.params os)) ∧
    goW p w 526 (b55 w.params os) (thrB p w b os (a55 w.params os)) = some (a56 w.params os, thrA p w b os) :=
  ⟨by kernel_rfl, by kernel_rfl, by kernel_rfl, by kernel_rfl, by kernel_rfl, by kernel_rfl, by kernel_rfl, by kernel_rfl, by kernel_rfl, by kernel_rfl, by kernel_rfl, by kernel_rfl, by kernel_rfl, by kernel_rfl, by kernel_rfl, by kernel_rfl, by kernel_rfl, by kernel_rfl, by kernel_rfl, by kernel_rfl, by kernel_rfl, by kernel_rfl, by kernel_rfl, by kernel_rfl⟩
theorem g56 (p : Program) (w : World) (b : List Stmt) (os : OsState) :
    goW p (wF w) 37 (a56 w.params os) (thrA p w b os) = some (b56 w.params os, thrB p w b os (a56 w.params os)) ∧
    goW p (wT w) 37 (a56 w.params os) (thrA p w b os) = some (b56 w.params os, thrB p w b os (a56 w.params os)) ∧
    goW p w 498 (b56 w.params os) (thrB p w b os (a56 w.params os)) = some (a57 w.params os, thrA p w b os) ∧
    goW p (wF w) 37 (a57 w.params os) (thrA p w b os) = some (b57 w.params os, thrB p w b os (a57 w.params os)) ∧
    goW p (wT w) 37 (a57 w.params os) (thrA p w b os) = some (b57 w.params os, thrB p w b os (a57 w.params os)) ∧
    goW p w 512 (b57 w.params os) (thrB p w b os (a57 w.params os)) = some (a58 w.params os, thrA p w b os) ∧
    goW p (wF w) 37 (a58 w.params os) (thrA p w b os) = some (b58 w.params os, thrB p w b os (a58 w.params os)) ∧
    goW p (wT w) 37 (a58 w.params os) (thrA p w b os) = some (b58 w.params os, thrB p w b os (a58 w.params os)) ∧
    goW p w 512 (b58 w.params os) (thrB p w b os (a58 w.params os)) = some (a59 w.params os, thrA p w b os) ∧
    goW p (wF w) 37 (a59 w.params os) (thrA p w b os) = some (b59 w.params os, thrB p w b os (a59 w.params os)) ∧
    goW p (wT w) 37 (a59 w.params os) (thrA p w b os) = some (b59 w.params os, thrB p w b os (a59 w.params os)) ∧
    goW p w 526 (b59 w.params os) (thrB p w b os (a59 w.params os)) = some (a60 w.params os, thrA p w b os) ∧
    goW p (wF w) 37 (a60 w.params os) (thrA p w b os) = some (b60 w.params os, thrB p w b os (a60 w.params os)) ∧
    goW p (wT w) 37 (a60 w.params os) (thrA p w b os) = some (b60 w.params os, thrB p w b os (a60 w.params os)) ∧
    goW p w 505 (b60 w.params os) (thrB p w b os (a60 w.params os)) = some (a61 w.params os, thrA p w b os) ∧
    goW p (wF w) 37 (a61 w.params os) (thrA p w b os) = some (b61 w.params os, thrB p w b os (a61 w.params os)) ∧
    goW p (wT w) 37 (a61 w.params os) (thrA p w b os) = some (b61 w.params os, thrB p w b os (a61 w.params os)) ∧
    goW p w 519 (b61 w.params os) (thrB p w b os (a61 w.params os)) = some (a62 w.params os, thrA p w b os) ∧
    goW p (wF w) 37 (a62 w.params os) (thrA p w b os) = some (b62 w.params os, thrB p w b os (a62 w.params os)) ∧
    goW p (wT w) 37 (a62 w.params os) (thrA p w b os) = some (b62 w.params os, thrB p w b os (a62 w.params os)) ∧
    goW p w 519 (b62 w.params os) (thrB p w b os (a62 w.params os)) = some (a63 w.params os, thrA p w b os) ∧
    goW p (wF w) 37 (a63 w.params os) (thrA p w b os) = some (b63 w.params os, thrB p w b os (a63 w.params os)) ∧
    goW p (wT w) 37 (a63 w.params os) (thrA p w b os) = some (b63 w.params os, thrB p w b os (a63 w.params os)) ∧
    goW p w 533 (b63 w.params os) (thrB p w b os (a63 w.params os)) = some (a64 w.params os, thrA p w b os) :=
  ⟨by kernel_rfl, by kernel_rfl, by kernel_rfl, by kernel_rfl, by kernel_rfl, by kernel_rfl, by kernel_rfl, by kernel_rfl, by kernel_rfl, by kernel_rfl, by kernel_rfl, by kernel_rfl, by kernel_rfl, by kernel_rfl, by kernel_rfl, by kernel_rfl, by kernel_rfl, by kernel_rfl, by kernel_rfl, by kernel_rfl, by kernel_rfl, by kernel_rfl, by kernel_rfl, by kernel_rfl⟩
theorem g64 (p : Program) (w : World) (b : List Stmt) (os : OsState) :
    goW p (wF w) 37 (a64 w.params os) (thrA p w b os) = some (b64 w.params os, thrB p w b os (a64 w.params os)) ∧
    goW p (wT w) 37 (a64 w.params os) (thrA p w b os) = some (b64 w.params os, thrB p w b os (a64 w.params os)) ∧
    goW p w 485 (b64 w.params os) (thrB p w b os (a64 w.params os)) = some (a65 w.params os, thrA p w b os) ∧
    goW p (wF w) 37 (a65 w.params os) (thrA p w b os) = some (b65 w.params os, thrB p w b os (a65 w.params os)) ∧
    goW p (wT w) 37 (a65 w.params os) (thrA p w b os) = some (b65 w.params os, thrB p w b os (a65 w.params os)) ∧
    goW p w 484 (b65 w.params os) (thrB p w b os (a65 w.params os)) = some (a66 w.params os, thrA p w b os) ∧
    goW p (wF w) 37 (a66 w.params os) (thrA p w b os) = some (b66 w.params os, thrB p w b os (a66 w.params os)) ∧
    goW p (wT w) 37 (a66 w.params os) (thrA p w b os) = some (b66 w.params os, thrB p w b os (a66 w.params os)) ∧
    goW p w 498 (b66 w.params os) (thrB p w b os (a66 w.params os)) = some (a67 w.params os, thrA p w b os) ∧
    goW p (wF w) 37 (a67 w.params os) (thrA p w b os) = some (b67 w.params os, thrB p w b os (a67 w.params os)) ∧
    goW p (wT w) 37 (a67 w.params os) (thrA p w b os) = some (b67 w.params os, thrB p w b os (a67 w.params os)) ∧
    goW p w 498 (b67 w.params os) (thrB p w b os (a67 w.params os)) = some (a68 w.params os, thrA p w b os) ∧
    goW p (wF w) 37 (a68 w.params os) (thrA p w b os) = some (b68 w.params os, thrB p w b os (a68 w.params os)) ∧
    goW p (wT w) 37 (a68 w.params os) (thrA p w b os) = some (b68 w.params os, thrB p w b os (a68 w.params os)) ∧
    goW p w 491 (b68 w.params os) (thrB p w b os (a68 w.params os)) = some (a69 w.params os, thrA p w b os) ∧
    goW p (wF w) 37 (a69 w.params os) (thrA p w b os) = some (b69 w.params os, thrB p w b os (a69 w.params os)) ∧
    goW p (wT w) 37 (a69 w.params os) (thrA p w b os) = some (b69 w.params os, thrB p w b os (a69 w.params os)) ∧
    goW p w 491 (b69 w.params os) (thrB p w b os (a69 w.params os)) = some (a70 w.params os, thrA p w b os) ∧
    goW p (wF w) 37 (a70 w.params os) (thrA p w b os) = some (b70 w.params os, thrB p w b os (a70 w.params os)) ∧
    goW p (wT w) 37 (a70 w.params os) (thrA p w b os) = some (b70 w.params os, thrB p w b os (a70 w.params os)) ∧
    goW p w 505 (b70 w.params os) (thrB p w b os (a70 w.params os)) = some (a71 w.params os, thrA p w b os) ∧
    goW p (wF w) 37 (a71 w.params os) (thrA p w b os) = some (b71 w.params os, thrB p w b os (a71 w.params os)) ∧
    goW p (wT w) 37 (a71 w.params os) (thrA p w b os) = some (b71 w.params os, thrB p w b os (a71 w.params os)) ∧
    goW p w 505 (b71 w.params os) (thrB p w b os (a71 w.params os)) = some (a72 w.params os, thrA p w b os) :=
  ⟨by kernel_rfl, by kernel_rfl, by kernel_rfl, by kernel_rfl, by kernel_rfl, by kernel_rfl, by kernel_rfl, by kernel_rfl, by kernel_rfl, by kernel_rfl, by kernel_rfl, by kernel_rfl, by kernel_rfl, by kernel_rfl, by kernel_rfl, by kernel_rfl, by kernel_rfl, by kernel_rfl, by kernel_rfl, by kernel_rfl, by kernel_rfl, by kernel_rfl, by kernel_rfl, by kernel_rfl⟩
theorem g72 (p : Program) (w : World) (b : List Stmt) (os : OsState) :
    goW p (wF w) 37 (a72 w.params os) (thrA p w b os) = some (b72 w.params os, thrB p w b os (a72 w.params os)) ∧
    goW p (wT w) 37 (a72 w.params os) (thrA p w b os) = some (b72 w.params os, thrB p w b os (a72 w.params os)) ∧
    goW p w 491 (b72 w.params os) (thrB p w b os (a72 w.params os)) = some (a73 w.params os, thrA p w b os) ∧
    goW p (wF w) 37 (a73 w.params os) (thrA p w b os) = some (b73 w.params os, thrB p w b os (a73 w.params os)) ∧
    goW p (wT w) 37 (a73 w.params os) (thrA p w b os) = some (b73 w.params os, thrB p w b os (a73 w.params os)) ∧
    goW p w 491 (b73 w.params os) (thrB p w b os (a73 w.params os)) = some (a74 w.params os, thrA p w b os) ∧
    goW p (wF w) 37 (a74 w.params os) (thrA p w b os) = some (b74 w.params os, thrB p w b os (a74 w.params os)) ∧
    goW p (wT w) 37 (a74 w.params os) (thrA p w b os) = some (b74 w.params os, thrB p w b os (a74 w.params os)) ∧
    goW p w 505 (b74 w.params os) (thrB p w b os (a74 w.params os)) = some (a75 w.params os, thrA p w b os) ∧
    goW p (wF w) 37 (a75 w.params os) (thrA p w b os) = some (b75 w.params os, thrB p w b os (a75 w.params os)) ∧
    goW p (wT w) 37 (a75 w.params os) (thrA p w b os) = some (b75 w.params os, thrB p w b os (a75 w.params os)) ∧
    goW p w 505 (b75 w.params os) (thrB p w b os (a75 w.params os)) = some (a76 w.params os, thrA p w b os) ∧
    goW p (wF w) 37 (a76 w.params os) (thrA p w b os) = some (b76 w.params os, thrB p w b os (a76 w.params os)) ∧
    goW p (wT w) 37 (a76 w.params os) (thrA p w b os) = some (b76 w.params os, thrB p w b os (a76 w.params os)) ∧
    goW p w 498 (b76 w.params os) (thrB p w b os (a76 w.params os)) = some (a77 w.params os, thrA p w b os) ∧
    goW p (wF w) 37 (a77 w.params os) (thrA p w b os) = some (b77 w.params os, thrB p w b os (a77 w.params os)) ∧
    goW p (wT w) 37 (a77 w.params os) (thrA p w b os) = some (b77 w.params os, thrB p w b os (a77 w.params os)) ∧
    goW p w 498 (b77 w.params os) (thrB p w b os (a77 w.params os)) = some (a78 w.params os, thrA p w b os) ∧
    goW p (wF w) 37 (a78 w.params os) (thrA p w b os) = some (b78 w.params os, thrB p w b os (a78 w.params os)) ∧
    goW p (wT w) 37 (a78 w.params os) (thrA p w b os) = some (b78 w.params os, thrB p w b os (a78 w.params os)) ∧
    goW p w 512 (b78 w.params os) (thrB p w b os (a78 w.params os)) = some (a79 w.params os, thrA p w b os) ∧
    goW p (wF w) 37 (a79 w.params os) (thrA p w b os) = some (b79 w.params os, thrB p w b os (a79 w.params os)) ∧
    goW p (wT w) 37 (a79 w.params os) (thrA p w b os) = some (b79 w.params os, thrB p w b os (a79 w.params os)) ∧
    goW p w 512 (b79 w.params os) (thrB p w b os (a79 w.params os)) = some (a80 w.params os, thrA p w b os) :=
  ⟨by kernel_rfl, by kernel_rfl, by kernel_rfl, by kernel_rfl, by kernel_rfl, by kernel_rfl, by kernel_rfl, by kernel_rfl, by kernel_rfl, by kernel_rfl, by kernel_rfl, by kernel_rfl, by kernel_rfl, by kernel_rfl, by kernel_rfl, by kernel_rfl, by kernel_rfl, by kernel_rfl, by kernel_rfl, by kernel_rfl, by kernel_rfl, by kernel_rfl, by kernel_rfl, by kernel_rfl⟩
theorem g80 (p : Program) (w : World) (b : List Stmt) (os : OsState) :
    goW p (wF w) 37 (a80 w.params os) (thrA p w b os) = some (b80 w.params os, thrB p w b os (a80 w.params os)) ∧
    goW p (wT w) 37 (a80 w.params os) (thrA p w b os) = some (b80 w.params os, thrB p w b os (a80 w.params os)) ∧
    goW p w 491 (b80 w.params os) (thrB p w b os (a80 w.params os)) = some (a81 w.params os, thrA p w b os) ∧
    goW p (wF w) 37 (a81 w.params os) (thrA p w b os) = some (b81 w.params os, thrB p w b os (a81 w.params os)) ∧
    goW p (wT w) 37 (a81 w.params os) (thrA p w b os) = some (b81 w.params os, thrB p w b os (a81 w.params os)) ∧
    goW p w 491 (b81 w.params os) (thrB p w b os (a81 w.params os)) = some (a82 w.params os, thrA p w b os) ∧
    goW p (wF w) 37 (a82 w.params os) (thrA p w b os) = some (b82 w.params os, thrB p w b os (a82 w.params os)) ∧
    goW p (wT w) 37 (a82 w.params os) (thrA p w b os) = some (b82 w.params os, thrB p w b os (a82 w.params os)) ∧
    goW p w 505 (b82 w.params os) (thrB p w b os (a82 w.params os)) = some (a83 w.params os, thrA p w b os) ∧
    goW p (wF w) 37 (a83 w.params os) (thrA p w b os) = some (b83 w.params os, thrB p w b os (a83 w.params os)) ∧
    goW p (wT w) 37 (a83 w.params os) (thrA p w b os) = some (b83 w.params os, thrB p w b os (a83 w.params os)) ∧
    goW p w 505 (b83 w.params os) (thrB p w b os (a83 w.params os)) = some (a84 w.params os, thrA p w b os) ∧
    goW p (wF w) 37 (a84 w.params os) (thrA p w b os) = some (b84 w.params os, thrB p w b os (a84 w.params os)) ∧
    goW p (wT w) 37 (a84 w.params os) (thrA p w b os) = some (b84 w.params os, thrB p w b os (a84 w.params os)) ∧
    goW p w 498 (b84 w.params os) (thrB p w b os (a84 w.params os)) = some (a85 w.params os, thrA p w b os) ∧
    goW p (wF w) 37 (a85 w.params os) (thrA p w b os) = some (b85 w.params os, thrB p w b os (a85 w.params os)) ∧
    goW p (wT w) 37 (a85 w.params os) (thrA p w b os) = some (b85 w.params os, thrB p w b os (a85 w.params os)) ∧
    goW p w 498 (b85 w.params os) (thrB p w b os (a85 w.params os)) = some (a86 w.params os, thrA p w b os) ∧
    goW p (wF w) 37 (a86 w.params os) (thrA p w b os) = some (b86 w.params os, thrB p w b os (a86 w.params os)) ∧
    goW p (wT w) 37 (a86 w.params os) (thrA p w b os) = some (b86 w.params os, thrB p w b os (a86 w.params os)) ∧
    goW p w 512 (b86 w.params os) (thrB p w b os (a86 w.params os)) = some (a87 w.params os, thrA p w b os) ∧
    goW p (wF w) 37 (a87 w.params os) (thrA p w b os) = some (b87 w.params os, thrB p w b os (a87 w.params os)) ∧
    goW p (wT w) 37 (a87 w.params os) (thrA p w b os) = some (b87 w.params os, thrB p w b os (a87 w.params os)) ∧
    goW p w 512 (b87 w.params os) (thrB p w b os (a87 w.params os)) = some (a88 w.params os, thrA p w b os) :=
  ⟨by kernel_rfl, by kernel_rfl, by kernel_rfl, by kernel_rfl, by kernel_rfl, by kernel_rfl, by kernel_rfl, by kernel_rfl, by kernel_rfl, by kernel_rfl, by kernel_rfl, by kernel_rfl, by kernel_rfl, by kernel_rfl, by kernel_rfl, by kernel_rfl, by kernel_rfl, by kernel_rfl, by kernel_rfl, by kernel_rfl, by kernel_rfl, by kernel_rfl, by kernel_rfl, by kernel_rfl⟩
theorem g88 (p : Program) (w : World) (b : List Stmt) (os : OsState) :
    goW p (wF w) 37 (a88 w.params os) (thrA p w b os) = some (b88 w.params os, thrB p w b os (a88 w.params os)) ∧
    goW p (wT w) 37 (a88 w.params os) (thrA p w b os) = some (b88 w.params os, thrB p w b os (a88 w.params os)) ∧
    goW p w 498 (b88 w.params os) (thrB p w b os (a88 w.params os)) = some (a89 w.params os, thrA p w b os) ∧
    goW p (wF w) 37 (a89 w.params os) (thrA p w b os) = some (b89 w.params os, thrB p w b os (a89 w.params os)) ∧
    goW p (wT w) 37 (a89 w.params os) (thrA p w b os) = some (b89 w.params os, thrB p w b os (a89 w.params os)) ∧
    goW p w 498 (b89 w.params os) (thrB p w b os (a89 w.params os)) = some (a90 w.params os, thrA p w b os) ∧
    goW p (wF w) 37 (a90 w.params os) (thrA p w b os) = some (b90 w.params os, thrB p w b os (a90 w.params os)) ∧
    goW p (wT w) 37 (a90 w.params os) (thrA p w b os) = some (b90 w.params os, thrB p w b os (a90 w.params os)) ∧
    goW p w 512 (b90 w.params os) (thrB p w b os (a90 w.params os)) = some (a91 w.params os, thrA p w b os) ∧
    goW p (wF w) 37 (a91 w.params os) (thrA p w b os) = some (b91 w.params os, thrB p w b os (a91 w.params os)) ∧
    goW p (wT w) 37 (a91 w.params os) (thrA p w b os) = some (b91 w.params os, thrB p w b os (a91 w.params os)) ∧
    goW p w 512 (b91 w.params os) (thrB p w b os (a91 w.params os)) = some (a92 w.params os, thrA p w b os) ∧
    goW p (wF w) 37 (a92 w.params os) (thrA p w b os) = some (b92 w.params os, thrB p w b os (a92 w.params os)) ∧
    goW p (wT w) 37 (a92 w.params os) (thrA p w b os) = some (b92 w.params os, thrB p w b os (a92 w.params os)) ∧
    goW p w 505 (b92 w.params os) (thrB p w b os (a92 w.params os)) = some (a93 w.params os, thrA p w b os) ∧
    goW p (wF w) 37 (a93 w.params os) (thrA p w b os) = some (b93 w.params os, thrB p w b os (a93 w.params os)) ∧
    goW p (wT w) 37 (a93 w.params os) (thrA p w b os) = some (b93 w.params os, thrB p w b os (a93 w.params os)) ∧
    goW p w 505 (b93 w.params os) (thrB p w b os (a93 w.params os)) = some (a94 w.params os, thrA p w b os) ∧
    goW p (wF w) 37 (a94 w.params os) (thrA p w b os) = some (b94 w.params os, thrB p w b os (a94 w.params os)) ∧
    goW p (wT w) 37 (a94 w.params os) (thrA p w b os) = some (b94 w.params os, thrB p w b os (a94 w.params os)) ∧
    goW p w 519 (b94 w.params os) (thrB p w b os (a94 w.params os)) = some (a95 w.params os, thrA p w b os) ∧
    goW p (wF w) 37 (a95 w.params os) (thrA p w b os) = some (b95 w.params os, thrB p w b os (a95 w.params os)) ∧
    goW p (wT w) 37 (a95 w.params os) (thrA p w b os) = some (b95 w.params os, thrB p w b os (a95 w.params os)) ∧
    goW p w 519 (b95 w.params os) (thrB p w b os (a95 w.params os)) = some (a96 w.params os, thrA p w b os) :=
  ⟨by kernel_rfl, by kernel_rfl, by kernel_rfl, by kernel_rfl, by kernel_rfl, by kernel_rfl, by kernel_rfl, by kernel_rfl, by kernel_rfl, by kernel_rfl, by kernel_rfl, by kernel_rfl, by kernel_rfl, by kernel_rfl, by kernel_rfl, by kernel_rfl, by kernel_rfl, by kernel_rfl, by kernel_rfl, by kernel_rfl, by kernel_rfl, by kernel_rfl, by kernel_rfl, by kernel_rfl⟩
theorem g96 (p : Program) (w : World) (b : List Stmt) (os : OsState) :
    goW p (wF w) 37 (a96 w.params os) (thrA p w b os) = some (b96 w.params os, thrB p w b os (a96 w.params os)) ∧
    goW p (wT w) 37 (a96 w.params os) (thrA p w b os) = some (b96 w.params os, thrB p w b os (a96 w.params os)) ∧
    goW p w 491 (b96 w.params os) (thrB p w b os (a96 w.params os)) = some (a97 w.params os, thrA p w b os) ∧
    goW p (wF w) 37 (a97 w.params os) (thrA p w b os) = some (b97 w.params os, thrB p w b os (a97 w.params os)) ∧
    goW p (wT w) 37 (a97 w.params os) (thrA p w b os) = some (b97 w.params os, thrB p w b os (a97 w.params os)) ∧
    goW p w 491 (b97 w.params os) (thrB p w b os (a97 w.params os)) = some (a98 w.params os, thrA p w b os) ∧
    goW p (wF w) 37 (a98 w.params os) (thrA p w b os) = some (b98 w.params os, thrB p w b os (a98 w.params os)) ∧
    goW p (wT w) 37 (a98 w.params os) (thrA p w b os) = some (b98 w.params os, thrB p w b os (a98 w.params os)) ∧
    goW p w 505 (b98 w.params os) (thrB p w b os (a98 w.params os)) = some (a99 w.params os, thrA p w b os) ∧
    goW p (wF w) 37 (a99 w.params os) (thrA p w b os) = some (b99 w.params os, thrB p w b os (a99 w.params os)) ∧
    goW p (wT w) 37 (a99 w.params os) (thrA p w b os) = some (b99 w.params os, thrB p w b os (a99 w.params os)) ∧
    goW p w 505 (b99 w.params os) (thrB p w b os (a99 w.params os)) = some (a100 w.params os, thrA p w b os) ∧
    goW p (wF w) 37 (a100 w.params os) (thrA p w b os) = some (b100 w.params os, thrB p w b os (a100 w.params os)) ∧
    goW p (wT w) 37 (a100 w.params os) (thrA p w b os) = some (b100 w.params os, thrB p w b os (a100 w.params os)) ∧
    goW p w 498 (b100 w.params os) (thrB p w b os (a100 w.params os)) = some (a101 w.params os, thrA p w b os) ∧
    goW p (wF w) 37 (a101 w.params os) (thrA p w b os) = some (b101 w.params os, thrB p w b os (a101 w.params os)) ∧
    goW p (wT w) 37 (a101 w.params os) (thrA p w b os) = some (b101 w.params os, thrB p w b os (a101 w.params os)) ∧
    goW p w 498 (b101 w.params os) (thrB p w b os (a101 w.params os)) = some (a102 w.params os, thrA p w b os) ∧
    goW p (wF w) 37 (a102 w.params os) (thrA p w b os) = some (b102 w.params os, thrB p w b os (a102 w.params os)) ∧
    goW p (wT w) 37 (a102 w.params os) (thrA p w b os) = some (b102 w.params os, thrB p w b os (a102 w.params os)) ∧
    goW p w 512 (b102 w.params os) (thrB p w b os (a102 w.params os)) = some (a103 w.params os, thrA p w b os) ∧
    goW p (wF w) 37 (a103 w.params os) (thrA p w b os) = some (b103 w.params os, thrB p w b os (a103 w.params os)) ∧
    goW p (wT w) 37 (a103 w.params os) (thrA p w b os) = some (b103 w.params os, thrB p w b os (a103 w.params os)) ∧
    goW p w 512 (b103 w.params os) (thrB p w b os (a103 w.params os)) = some (a104 w.params os, thrA p w b os) :=
  ⟨by kernel_rfl, by kernel_rfl, by kernel_rfl, by kernel_rfl, by kernel_rfl, by kernel_rfl, by kernel_rfl, by kernel_rfl, by kernel_rfl, by kernel_rfl, by kernel_rfl, by kernel_rfl, by kernel_rfl, by kernel_rfl, by kernel_rfl, by kernel_rfl, by kernel_rfl, by kernel_rfl, by kernel_rfl, by kernel_rfl, by kernel_rfl, by kernel_rfl, by kernel_rfl, by kernel_rfl⟩
theorem g104 (p : Program) (w : World) (b : List Stmt) (os : OsState) :
    goW p (wF w) 37 (a104 w.params os) (thrA p w b os) = some (b104 w.params os, thrB p w b os (a104 w.params os)) ∧
    goW p (wT w) 37 (a104 w.params os) (thrA p w b os) = some (b104 w.params os, thrB p w b os (a104 w.params os)) ∧
    goW p w 498 (b104 w.params os) (thrB p w b os (a104 w.params os)) = some (a105 w.params os, thrA p w b os) ∧
    goW p (wF w) 37 (a105 w.params os) (thrA p w b os) = some (b105 w.params os, thrB p w b os (a105 w.params os)) ∧
    goW p (wT w) 37 (a105 w.params os) (thrA p w b os) = some (b105 w.params os, thrB p w b os (a105 w.params os)) ∧
    goW p w 498 (b105 w.params os) (thrB p w b os (a105 w.params os)) = some (a106 w.params os, thrA p w b os) ∧
    goW p (wF w) 37 (a106 w.params os) (thrA p w b os) = some (b106 w.params os, thrB p w b os (a106 w.params os)) ∧
    goW p (wT w) 37 (a106 w.params os) (thrA p w b os) = some (b106 w.params os, thrB p w b os (a106 w.params os)) ∧
    goW p w 512 (b106 w.params os) (thrB p w b os (a106 w.params os)) = some (a107 w.params os, thrA p w b os) ∧
    goW p (wF w) 37 (a107 w.params os) (thrA p w b os) = some (b107 w.params os, thrB p w b os (a107 w.params os)) ∧
    goW p (wT w) 37 (a107 w.params os) (thrA p w b os) = some (b107 w.params os, thrB p w b os (a107 w.params os)) ∧
    goW p w 512 (b107 w.params os) (thrB p w b os (a107 w.params os)) = some (a108 w.params os, thrA p w b os) ∧
    goW p (wF w) 37 (a108 w.params os) (thrA p w b os) = some (b108 w.params os, thrB p w b os (a108 w.params os)) ∧
    goW p (wT w) 37 (a108 w.params os) (thrA p w b os) = some (b108 w.params os, thrB p w b os (a108 w.params os)) ∧
    goW p w 505 (b108 w.params os) (thrB p w b os (a108 w.params os)) = some (a109 w.params os, thrA p w b os) ∧
    goW p (wF w) 37 (a109 w.params os) (thrA p w b os) = some (b109 w.params os, thrB p w b os (a109 w.params os)) ∧
    goW p (wT w) 37 (a109 w.params os) (thrA p w b os) = some (b109 w.params os, thrB p w b os (a109 w.params os)) ∧
    goW p w 505 (b109 w.params os) (thrB p w b os (a109 w.params os)) = some (a110 w.params os, thrA p w b os) ∧
    goW p (wF w) 37 (a110 w.params os) (thrA p w b os) = some (b110 w.params os, thrB p w b os (a110 w.params os)) ∧
    goW p (wT w) 37 (a110 w.params os) (thrA p w b os) = some (b110 w.params os, thrB p w b os (a110 w.params os)) ∧
    goW p w 519 (b110 w.params os) (thrB p w b os (a110 w.params os)) = some (a111 w.params os, thrA p w b os) ∧
    goW p (wF w) 37 (a111 w.params os) (thrA p w b os) = some (b111 w.params os, thrB p w b os (a111 w.params os)) ∧
    goW p (wT w) 37 (a111 w.params os) (thrA p w b os) = some (b111 w.params os, thrB p w b os (a111 w.params os)) ∧
    goW p w 519 (b111 w.params os) (thrB p w b os (a111 w.params os)) = some (a112 w.params os, thrA p w b os) :=
  ⟨by kernel_rfl, by kernel_rfl, by kernel_rfl, by kernel_rfl, by kernel_rfl, by kernel_rfl, by kernel_rfl, by kernel_rfl, by kernel_rfl, by kernel_rfl, by kernel_rfl, by kernel_rfl, by kernel_rfl, by kernel_rfl, by kernel_rfl, by kernel_rfl, by kernel_rfl, by kernel_rfl, by kernel_rfl, by kernel_rfl, by kernel_rfl, by kernel_rfl, by kernel_rfl, by kernel_rfl⟩
theorem g112 (p : Program) (w : World) (b : List Stmt) (os : OsState) :
    goW p (wF w) 37 (a112 w.params os) (thrA p w b os) = some (b112 w.params os, thrB p w b os (a112 w.params os)) ∧
    goW p (wT w) 37 (a112 w.params os) (thrA p w b os) = some (b112 w.params os, thrB p w b os (a112 w.params os)) ∧
    goW p w 498 (b112 w.params os) (thrB p w b os (a112 w.params os)) = some (a113 w.params os, thrA p w b os) ∧
    goW p (wF w) 37 (a113 w.params os) (thrA p w b os) = some (b113 w.params os, thrB p w b os (a113 w.params os)) ∧
    goW p (wT w) 37 (a113 w.params os) (thrA p w b os) = some (b113 w.params os, thrB p w b os (a113 w.params os)) ∧
    goW p w 498 (b113 w.params os) (thrB p w b os (a113 w.params os)) = some (a114 w.params os, thrA p w b os) ∧
    goW p (wF w) 37 (a114 w.params os) (thrA p w b os) = some (b114 w.params os, thrB p w b os (a114 w.params os)) ∧
    goW p (wT w) 37 (a114 w.params os) (thrA p w b os) = some (b114 w.params os, thrB p w b os (a114 w.params os)) ∧
    goW p w 512 (b114 w.params os) (thrB p w b os (a114 w.params os)) = some (a115 w.params os, thrA p w b os) ∧
    goW p (wF w) 37 (a115 w.params os) (thrA p w b os) = some (b115 w.params os, thrB p w b os (a115 w.params os)) ∧
    goW p (wT w) 37 (a115 w.params os) (thrA p w b os) = some (b115 w.params os, thrB p w b os (a115 w.params os)) ∧
    goW p w 512 (b115 w.params os) (thrB p w b os (a115 w.params os)) = some (a116 w.params os, thrA p w b os) ∧
    goW p (wF w) 37 (a116 w.params os) (thrA p w b os) = some (b116 w.params os, thrB p w b os (a116 w.params os)) ∧
    goW p (wT w) 37 (a116 w.params os) (thrA p w b os) = some (b116 w.params os, thrB p w b os (a116 w.params os)) ∧
    goW p w 505 (b116 w.params os) (thrB p w b os (a116 w.params os)) = some (a117 w.params os, thrA p w b os) ∧
    goW p (wF w) 37 (a117 w.params os) (thrA p w b os) = some (b117 w.params os, thrB p w b os (a117 w.params os)) ∧
    goW p (wT w) 37 (a117 w.params os) (thrA p w b os) = some (b117 w.params os, thrB p w b os (a117 w.params os)) ∧
    goW p w 505 (b117 w.params os) (thrB p w b os (a117 w.params os)) = some (a118 w.params os, thrA p w b os) ∧
    goW p (wF w) 37 (a118 w.params os) (thrA p w b os) = some (b118 w.params os, thrB p w b os (a118 w.params os)) ∧
    goW p (wT w) 37 (a118 w.params os) (thrA p w b os) = some (b118 w.params os, thrB p w b os (a118 w.params os)) ∧
    goW p w 519 (b118 w.params os) (thrB p w b os (a118 w.params os)) = some (a119 w.params os, thrA p w b os) ∧
    goW p (wF w) 37 (a119 w.params os) (thrA p w b os) = some (b119 w.params os, thrB p w b os (a119 w.params os)) ∧
    goW p (wT w) 37 (a119 w.params os) (thrA p w b os) = some (b119 w.params os, thrB p w b os (a119 w.params os)) ∧
    goW p w 519 (b119 w.params os) (thrB p w b os (a119 w.params os)) = some (a120 w.params os, thrA p w b os) :=
  ⟨by kernel_rfl, by kernel_rfl, by kernel_rfl, by kernel_rfl, by kernel_rfl, by kernel_rfl, by kernel_rfl, by kernel_rfl, by kernel_rfl, by kernel_rfl, by kernel_rfl, by kernel_rfl, by kernel_rfl, by kernel_rfl, by kernel_rfl, by kernel_rfl, by kernel_rfl, by kernel_rfl, by kernel_rfl, by kernel_rfl, by kernel_rfl, by kernel_rfl, by kernel_rfl, by kernel_rfl⟩
theorem g120 (p : Program) (w : World) (b : List Stmt) (os : OsState) :
    goW p (wF w) 37 (a120 w.params os) (thrA p w b os) = some (b120 w.params os, thrB p w b os (a120 w.params os)) ∧
    goW p (wT w) 37 (a120 w.params os) (thrA p w b os) = some (b120 w.params os, thrB p w b os (a120 w.params os)) ∧
    goW p w 505 (b120 w.params os) (thrB p w b os (a120 w.params os)) = some (a121 w.params os, thrA p w b os) ∧
    goW p (wF w) 37 (a121 w.params os) (thrA p w b os) = some (b121 w.params os, thrB p w b os (a121 w.params os)) ∧
    goW p (wT w) 37 (a121 w.params os) (thrA p w b os) = some (b121 w.params os, thrB p w b os (a121 w.params os)) ∧
    goW p w 505 (b121 w.params os) (thrB p w b os (a121 w.params os)) = some (a122 w.params os, thrA p w b os) ∧
    goW p (wF w) 37 (a122 w.params os) (thrA p w b os) = some (b122 w.params os, thrB p w b os (a122 w.params os)) ∧
    goW p (wT w) 37 (a122 w.params os) (thrA p w b os) = some (b122 w.params os, thrB p w b os (a122 w.params os)) ∧
    goW p w 519 (b122 w.params os) (thrB p w b os (a122 w.params os)) = some (a123 w.params os, thrA p w b os) ∧
    goW p (wF w) 37 (a123 w.params os) (thrA p w b os) = some (b123 w.params os, thrB p w b os (a123 w.params os)) ∧
    goW p (wT w) 37 (a123 w.params os) (thrA p w b os) = some (b123 w.params os, thrB p w b os (a123 w.params os)) ∧
    goW p w 519 (b123 w.params os) (thrB p w b os (a123 w.params os)) = some (a124 w.params os, thrA p w b os) ∧
    goW p (wF w) 37 (a124 w.params os) (thrA p w b os) = some (b124 w.params os, thrB p w b os (a124 w.params os)) ∧
    goW p (wT w) 37 (a124 w.params os) (thrA p w b os) = some (b124 w.params os, thrB p w b os (a124 w.params os)) ∧
    goW p w 512 (b124 w.params os) (thrB p w b os (a124 w.params os)) = some (a125 w.params os, thrA p w b os) ∧
    goW p (wF w) 37 (a125 w.params os) (thrA p w b os) = some (b125 w.params os, thrB p w b os (a125 w.params os)) ∧
    goW p (wT w) 37 (a125 w.params os) (thrA p w b os) = some (b125 w.params os, thrB p w b os (a125 w.params os)) ∧
    goW p w 512 (b125 w.params os) (thrB p w b os (a125 w.params os)) = some (a126 w.params os, thrA p w b os) ∧
    goW p (wF w) 37 (a126 w.params os) (thrA p w b os) = some (b126 w.params os, thrB p w b os (a126 w.params os)) ∧
    goW p (wT w) 37 (a126 w.params os) (thrA p w b os) = some (b126 w.params os, thrB p w b os (a126 w.params os)) ∧
    goW p w 526 (b126 w.params os) (thrB p w b os (a126 w.params os)) = some (a127 w.params os, thrA p w b os) ∧
    goW p (wF w) 37 (a127 w.params os) (thrA p w b os) = some (b127 w.params os, thrB p w b os (a127 w.params os)) ∧
    goW p (wT w) 37 (a127 w.params os) (thrA p w b os) = some (b127 w.params os, thrB p w b os (a127 w.params os)) ∧
    goW p w 526 (b127 w.params os) (thrB p w b os (a127 w.params os)) = some (a128 w.params os, thrA p w b os) :=
  ⟨by kernel_rfl, by kernel_rfl, by kernel_rfl, by kernel_rfl, by kernel_rfl, by kernel_rfl, by kernel_rfl, by kernel_rfl, by kernel_rfl, by kernel_rfl, by kernel_rfl, by kernel_rfl, by kernel_rfl, by kernel_rfl, by kernel_rfl, by kernel_rfl, by kernel_rfl, by kernel_rfl, by kernel_rfl, by kernel_rfl, by kernel_rfl, by kernel_rfl, by kernel_rfl, by kernel_rfl⟩
theorem g128 (p : Program) (w : World) (b : List Stmt) (os : OsState) :
    goW p (wF w) 37 (a128 w.params os) (thrA p w b os) = some (b128 w.params os, thrB p w b os (a128 w.params os)) ∧
    goW p (wT w) 37 (a128 w.params os) (thrA p w b os) = some (b128 w.params os, thrB p w b os (a128 w.params os)) ∧
    goW p w 485 (b128 w.params os) (thrB p w b os (a128 w.params os)) = some (a129 w.params os, thrA p w b os) ∧
    goW p (wF w) 37 (a129 w.params os) (thrA p w b os) = some (b129 w.params os, thrB p w b os (a129 w.params os)) ∧
    goW p (wT w) 37 (a129 w.params os) (thrA p w b os) = some (b129 w.params os, thrB p w b os (a129 w.params os)) ∧
    goW p w 498 (b129 w.params os) (thrB p w b os (a129 w.params os)) = some (a130 w.params os, thrA p w b os) ∧
    goW p (wF w) 37 (a130 w.params os) (thrA p w b os) = some (b130 w.params os, thrB p w b os (a130 w.params os)) ∧
    goW p (wT w) 37 (a130 w.params os) (thrA p w b os) = some (b130 w.params os, thrB p w b os (a130 w.params os)) ∧
    goW p w 484 (b130 w.params os) (thrB p w b os (a130 w.params os)) = some (a131 w.params os, thrA p w b os) ∧
    goW p (wF w) 37 (a131 w.params os) (thrA p w b os) = some (b131 w.params os, thrB p w b os (a131 w.params os)) ∧
    goW p (wT w) 37 (a131 w.params os) (thrA p w b os) = some (b131 w.params os, thrB p w b os (a131 w.params os)) ∧
    goW p w 498 (b131 w.params os) (thrB p w b os (a131 w.params os)) = some (a132 w.params os, thrA p w b os) ∧
    goW p (wF w) 37 (a132 w.params os) (thrA p w b os) = some (b132 w.params os, thrB p w b os (a132 w.params os)) ∧
    goW p (wT w) 37 (a132 w.params os) (thrA p w b os) = some (b132 w.params os, thrB p w b os (a132 w.params os)) ∧
    goW p w 491 (b132 w.params os) (thrB p w b os (a132 w.params os)) = some (a133 w.params os, thrA p w b os) ∧
    goW p (wF w) 37 (a133 w.params os) (thrA p w b os) = some (b133 w.params os, thrB p w b os (a133 w.params os)) ∧
    goW p (wT w) 37 (a133 w.params os) (thrA p w b os) = some (b133 w.params os, thrB p w b os (a133 w.params os)) ∧
    goW p w 505 (b133 w.params os) (thrB p w b os (a133 w.params os)) = some (a134 w.params os, thrA p w b os) ∧
    goW p (wF w) 37 (a134 w.params os) (thrA p w b os) = some (b134 w.params os, thrB p w b os (a134 w.params os)) ∧
    goW p (wT w) 37 (a134 w.params os) (thrA p w b os) = some (b134 w.params os, thrB p w b os (a134 w.params os)) ∧
    goW p w 491 (b134 w.params os) (thrB p w b os (a134 w.params os)) = some (a135 w.params os, thrA p w b os) ∧
    goW p (wF w) 37 (a135 w.params os) (thrA p w b os) = some (b135 w.params os, thrB p w b os (a135 w.params os)) ∧
    goW p (wT w) 37 (a135 w.params os) (thrA p w b os) = some (b135 w.params os, thrB p w b os (a135 w.params os)) ∧
    goW p w 505 (b135 w.params os) (thrB p w b os (a135 w.params os)) = some (a136 w.params os, thrA p w b os) :=
  ⟨by kernel_rfl, by kernel_rfl, by kernel_rfl, by kernel_rfl, by kernel_rfl, by kernel_rfl, by kernel_rfl, by kernel_rfl, by kernel_rfl, by kernel_rfl, by kernel_rfl, by kernel_rfl, by kernel_rfl, by kernel_rfl, by kernel_rfl, by kernel_rfl, by kernel_rfl, by kernel_rfl, by kernel_rfl, by kernel_rfl, by kernel_rfl, by kernel_rfl, by kernel_rfl, by kernel_rfl⟩
theorem g136 (p : Program) (w : World) (b : List Stmt) (os : OsState) :
    goW p (wF w) 37 (a136 w.params os) (thrA p w b os) = some (b136 w.params os, thrB p w b os (a136 w.params os)) ∧
    goW p (wT w) 37 (a136 w.params os) (thrA p w b os) = some (b136 w.params os, thrB p w b os (a136 w.params os)) ∧
    goW p w 491 (b136 w.params os) (thrB p w b os (a136 w.params os)) = some (a137 w.params os, thrA p w b os) ∧
    goW p (wF w) 37 (a137 w.params os) (thrA p w b os) = some (b137 w.params os, thrB p w b os (a137 w.params os)) ∧
    goW p (wT w) 37 (a137 w.params os) (thrA p w b os) = some (b137 w.params os, thrB p w b os (a137 w.params os)) ∧
    goW p w 505 (b137 w.params os) (thrB p w b os (a137 w.params os)) = some (a138 w.params os, thrA p w b os) ∧
    goW p (wF w) 37 (a138 w.params os) (thrA p w b os) = some (b138 w.params os, thrB p w b os (a138 w.params os)) ∧
    goW p (wT w) 37 (a138 w.params os) (thrA p w b os) = some (b138 w.params os, thrB p w b os (a138 w.params os)) ∧
    goW p w 491 (b138 w.params os) (thrB p w b os (a138 w.params os)) = some (a139 w.params os, thrA p w b os) ∧
    goW p (wF w) 37 (a139 w.params os) (thrA p w b os) = some (b139 w.params os, thrB p w b os (a139 w.params os)) ∧
    goW p (wT w) 37 (a139 w.params os) (thrA p w b os) = some (b139 w.params os, thrB p w b os (a139 w.params os)) ∧
    goW p w 505 (b139 w.params os) (thrB p w b os (a139 w.params os)) = some (a140 w.params os, thrA p w b os) ∧
    goW p (wF w) 37 (a140 w.params os) (thrA p w b os) = some (b140 w.params os, thrB p w b os (a140 w.params os)) ∧
    goW p (wT w) 37 (a140 w.params os) (thrA p w b os) = some (b140 w.params os, thrB p w b os (a140 w.params os)) ∧
    goW p w 498 (b140 w.params os) (thrB p w b os (a140 w.params os)) = some (a141 w.params os, thrA p w b os) ∧
    goW p (wF w) 37 (a141 w.params os) (thrA p w b os) = some (b141 w.params os, thrB p w b os (a141 w.params os)) ∧
    goW p (wT w) 37 (a141 w.params os) (thrA p w b os) = some (b141 w.params os, thrB p w b os (a141 w.params os)) ∧
    goW p w 512 (b141 w.params os) (thrB p w b os (a141 w.params os)) = some (a142 w.params os, thrA p w b os) ∧
    goW p (wF w) 37 (a142 w.params os) (thrA p w b os) = some (b142 w.params os, thrB p w b os (a142 w.params os)) ∧
    goW p (wT w) 37 (a142 w.params os) (thrA p w b os) = some (b142 w.params os, thrB p w b os (a142 w.params os)) ∧
    goW p w 498 (b142 w.params os) (thrB p w b os (a142 w.params os)) = some (a143 w.params os, thrA p w b os) ∧
    goW p (wF w) 37 (a143 w.params os) (thrA p w b os) = some (b143 w.params os, thrB p w b os (a143 w.params os)) ∧
    goW p (wT w) 37 (a143 w.params os) (thrA p w b os) = some (b143 w.params os, thrB p w b os (a143 w.params os)) ∧
    goW p w 512 (b143 w.params os) (thrB p w b os (a143 w.params os)) = some (a144 w.params os, thrA p w b os) :=
  ⟨by kernel_rfl, by kernel_rfl, by kernel_rfl, by kernel_rfl, by kernel_rfl, by kernel_rfl, by kernel_rfl, by kernel_rfl, by kernel_rfl, by kernel_rfl, by kernel_rfl, by kernel_rfl, by kernel_rfl, by kernel_rfl, by kernel_rfl, by kernel_rfl, by kernel_rfl, by kernel_rfl, by kernel_rfl, by kernel_rfl, by kernel_rfl, by kernel_rfl, by kernel_rfl, by kernel_rfl⟩
theorem g144 (p : Program) (w : World) (b : List Stmt) (os : OsState) :
    goW p (wF w) 37 (a144 w.params os) (thrA p w b os) = some (b144 w.params os, thrB p w b os (a144 w.params os)) ∧
    goW p (wT w) 37 (a144 w.params os) (thrA p w b os) = some (b144 w.params os, thrB p w b os (a144 w.params os)) ∧
    goW p w 491 (b144 w.params os) (thrB p w b os (a144 w.params os)) = some (a145 w.params os, thrA p w b os) ∧
    goW p (wF w) 37 (a145 w.params os) (thrA p w b os) = some (b145 w.params os, thrB p w b os (a145 w.params os)) ∧
    goW p (wT w) 37 (a145 w.params os) (thrA p w b os) = some (b145 w.params os, thrB p w b os (a145 w.params os)) ∧
    goW p w 505 (b145 w.params os) (thrB p w b os (a145 w.params os)) = some (a146 w.params os, thrA p w b os) ∧
    goW p (wF w) 37 (a146 w.params os) (thrA p w b os) = some (b146 w.params os, thrB p w b os (a146 w.params os)) ∧
    goW p (wT w) 37 (a146 w.params os) (thrA p w b os) = some (b146 w.params os, thrB p w b os (a146 w.params os)) ∧
    goW p w 491 (b146 w.params os) (thrB p w b os (a146 w.params os)) = some (a147 w.params os, thrA p w b os) ∧
    goW p (wF w) 37 (a147 w.params os) (thrA p w b os) = some (b147 w.params os, thrB p w b os (a147 w.params os)) ∧
    goW p (wT w) 37 (a147 w.params os) (thrA p w b os) = some (b147 w.params os, thrB p w b os (a147 w.params os)) ∧
    goW p w 505 (b147 w.params os) (thrB p w b os (a147 w.params os)) = some (a148 w.params os, thrA p w b os) ∧
    goW p (wF w) 37 (a148 w.params os) (thrA p w b os) = some (b148 w.params os, thrB p w b os (a148 w.params os)) ∧
    goW p (wT w) 37 (a148 w.params os) (thrA p w b os) = some (b148 w.params os, thrB p w b os (a148 w.params os)) ∧
    goW p w 498 (b148 w.params os) (thrB p w b os (a148 w.params os)) = some (a149 w.params os, thrA p w b os) ∧
    goW p (wF w) 37 (a149 w.params os) (thrA p w b os) = some (b149 w.params os, thrB p w b os (a149 w.params os)) ∧
    goW p (wT w) 37 (a149 w.params os) (thrA p w b os) = some (b149 w.params os, thrB p w b os (a149 w.params os)) ∧
    goW p w 512 (b149 w.params os) (thrB p w b os (a149 w.params os)) = some (a150 w.params os, thrA p w b os) ∧
    goW p (wF w) 37 (a150 w.params os) (thrA p w b os) = some (b150 w.params os, thrB p w b os (a150 w.params os)) ∧
    goW p (wT w) 37 (a150 w.params os) (thrA p w b os) = some (b150 w.params os, thrB p w b os (a150 w.params os)) ∧
    goW p w 498 (b150 w.params os) (thrB p w b os (a150 w.params os)) = some (a151 w.params os, thrA p w b os) ∧
    goW p (wF w) 37 (a151 w.params os) (thrA p w b os) = some (b151 w.params os, thrB p w b os (a151 w.params os)) ∧
    goW p (wT w) 37 (a151 w.params os) (thrA p w b os) = some (b151 w.params os, thrB p w b os (a151 w.params os)) ∧
    goW p w 512 (b151 w.params os) (thrB p w b os (a151 w.params os)) = some (a152 w.params os, thrA p w b os) :=
  ⟨by kernel_rfl, by kernel_rfl, by kernel_rfl, by kernel_rfl, by kernel_rfl, by kernel_rfl, by kernel_rfl, by kernel_rfl, by kernel_rfl, by kernel_rfl, by kernel_rfl, by kernel_rfl, by kernel_rfl, by kernel_rfl, by kernel_rfl, by kernel_rfl, by kernel_rfl, by kernel_rfl, by kernel_rfl, by kernel_rfl, by kernel_rfl, by kernel_rfl, by kernel_rfl, by kernel_rfl⟩
theorem g152 (p : Program) (w : World) (b : List Stmt) (os : OsState) :
    goW p (wF w) 37 (a152 w.params os) (thrA p w b os) = some (b152 w.params os, thrB p w b os (a152 w.params os)) ∧
    goW p (wT w) 37 (a152 w.params os) (thrA p w b os) = some (b152 w.params os, thrB p w b os (a152 w.params os)) ∧
    goW p w 498 (b152 w.params os) (thrB p w b os (a152 w.params os)) = some (a153 w.params os, thrA p w b os) ∧
    goW p (wF w) 37 (a153 w.params os) (thrA p w b os) = some (b153 w.params os, thrB p w b os (a153 w.params os)) ∧
    goW p (wT w) 37 (a153 w.params os) (thrA p w b os) = some (b153 w.params os, thrB p w b os (a153 w.params os)) ∧
    goW p w 512 (b153 w.params os) (thrB p w b os (a153 w.params os)) = some (a154 w.params os, thrA p w b os) ∧
    goW p (wF w) 37 (a154 w.params os) (thrA p w b os) = some (b154 w.params os, thrB p w b os (a154 w.params os)) ∧
    goW p (wT w) 37 (a154 w.params os) (thrA p w b os) = some (b154 w.params os, thrB p w b os (a154 w.params os)) ∧
    goW p w 498 (b154 w.params os) (thrB p w b os (a154 w.params os)) = some (a155 w.params os, thrA p w b os) ∧
    goW p (wF w) 37 (a155 w.params os) (thrA p w b os) = some (b155 w.params os, thrB p w b os (a155 w.params os)) ∧
    goW p (wT w) 37 (a155 w.params os) (thrA p w b os) = some (b155 w.params os, thrB p w b os (a155 w.params os)) ∧
    goW p w 512 (b155 w.params os) (thrB p w b os (a155 w.params os)) = some (a156 w.params os, thrA p w b os) ∧
    goW p (wF w) 37 (a156 w.params os) (thrA p w b os) = some (b156 w.params os, thrB p w b os (a156 w.params os)) ∧
    goW p (wT w) 37 (a156 w.params os) (thrA p w b os) = some (b156 w.params os, thrB p w b os (a156 w.params os)) ∧
    goW p w 505 (b156 w.params os) (thrB p w b os (a156 w.params os)) = some (a157 w.params os, thrA p w b os) ∧
    goW p (wF w) 37 (a157 w.params os) (thrA p w b os) = some (b157 w.params os, thrB p w b os (a157 w.params os)) ∧
    goW p (wT w) 37 (a157 w.params os) (thrA p w b os) = some (b157 w.params os, thrB p w b os (a157 w.params os)) ∧
    goW p w 519 (b157 w.params os) (thrB p w b os (a157 w.params os)) = some (a158 w.params os, thrA p w b os) ∧
    goW p (wF w) 37 (a158 w.params os) (thrA p w b os) = some (b158 w.params os, thrB p w b os (a158 w.params os)) ∧
    goW p (wT w) 37 (a158 w.params os) (thrA p w b os) = some (b158 w.params os, thrB p w b os (a158 w.params os)) ∧
    goW p w 505 (b158 w.params os) (thrB p w b os (a158 w.params os)) = some (a159 w.params os, thrA p w b os) ∧
    goW p (wF w) 37 (a159 w.params os) (thrA p w b os) = some (b159 w.params os, thrB p w b os (a159 w.params os)) ∧
    goW p (wT w) 37 (a159 w.params os) (thrA p w b os) = some (b159 w.params os, thrB p w b os (a159 w.params os)) ∧
    goW p w 519 (b159 w.params os) (thrB p w b os (a159 w.params os)) = some (a160 w.params os, thrA p w b os) :=
  ⟨by kernel_rfl, by kernel_rfl, by kernel_rfl, by kernel_rfl, by kernel_rfl, by kernel_rfl, by kernel_rfl, by kernel_rfl, by kernel_rfl, by kernel_rfl, by kernel_rfl, by kernel_rfl, by kernel_rfl, by kernel_rfl, by kernel_rfl, by kernel_rfl, by kernel_rfl, by kernel_rfl, by kernel_rfl, by kernel_rfl, by kernel_rfl, by kernel_rfl, by kernel_rfl, by kernel_rfl⟩
theorem g160 (p : Program) (w : World) (b : List Stmt) (os : OsState) :
    goW p (wF w) 37 (a160 w.params os) (thrA p w b os) = some (b160 w.params os, thrB p w b os (a160 w.params os)) ∧
    goW p (wT w) 37 (a160 w.params os) (thrA p w b os) = some (b160 w.params os, thrB p w b os (a160 w.params os)) ∧
    goW p w 491 (b160 w.params os) (thrB p w b os (a160 w.params os)) = some (a161 w.params os, thrA p w b os) ∧
    goW p (wF w) 37 (a161 w.params os) (thrA p w b os) = some (b161 w.params os, thrB p w b os (a161 w.params os)) ∧
    goW p (wT w) 37 (a161 w.params os) (thrA p w b os) = some (b161 w.params os, thrB p w b os (a161 w.params os)) ∧
    goW p w 505 (b161 w.params os) (thrB p w b os (a161 w.params os)) = some (a162 w.params os, thrA p w b os) ∧
    goW p (wF w) 37 (a162 w.params os) (thrA p w b os) = some (b162 w.params os, thrB p w b os (a162 w.params os)) ∧
    goW p (wT w) 37 (a162 w.params os) (thrA p w b os) = some (b162 w.params os, thrB p w b os (a162 w.params os)) ∧
    goW p w 491 (b162 w.params os) (thrB p w b os (a162 w.params os)) = some (a163 w.params os, thrA p w b os) ∧
    goW p (wF w) 37 (a163 w.params os) (thrA p w b os) = some (b163 w.params os, thrB p w b os (a163 w.params os)) ∧
    goW p (wT w) 37 (a163 w.params os) (thrA p w b os) = some (b163 w.params os, thrB p w b os (a163 w.params os)) ∧
    goW p w 505 (b163 w.params os) (thrB p w b os (a163 w.params os)) = some (a164 w.params os, thrA p w b os) ∧
    goW p (wF w) 37 (a164 w.params os) (thrA p w b os) = some (b164 w.params os, thrB p w b os (a164 w.params os)) ∧
    goW p (wT w) 37 (a164 w.params os) (thrA p w b os) = some (b164 w.params os, thrB p w b os (a164 w.params os)) ∧
    goW p w 498 (b164 w.params os) (thrB p w b os (a164 w.params os)) = some (a165 w.params os, thrA p w b os) ∧
    goW p (wF w) 37 (a165 w.params os) (thrA p w b os) = some (b165 w.params os, thrB p w b os (a165 w.params os)) ∧
    goW p (wT w) 37 (a165 w.params os) (thrA p w b os) = some (b165 w.params os, thrB p w b os (a165 w.params os)) ∧
    goW p w 512 (b165 w.params os) (thrB p w b os (a165 w.params os)) = some (a166 w.params os, thrA p w b os) ∧
    goW p (wF w) 37 (a166 w.params os) (thrA p w b os) = some (b166 w.params os, thrB p w b os (a166 w.params os)) ∧
    goW p (wT w) 37 (a166 w.params os) (thrA p w b os) = some (b166 w.params os, thrB p w b os (a166 w.params os)) ∧
    goW p w 498 (b166 w.params os) (thrB p w b os (a166 w.params os)) = some (a167 w.params os, thrA p w b os) ∧
    goW p (wF w) 37 (a167 w.params os) (thrA p w b os) = some (b167 w.params os, thrB p w b os (a167 w.params os)) ∧
    goW p (wT w) 37 (a167 w.params os) (thrA p w b os) = some (b167 w.params os, thrB p w b os (a167 w.params os)) ∧
    goW p w 512 (b167 w.params os) (thrB p w b os (a167 w.params os)) = some (a168 w.params os, thrA p w b os) :=
  ⟨by kernel_rfl, by kernel_rfl, by kernel_rfl, by kernel_rfl, by kernel_rfl, by kernel_rfl, by kernel_rfl, by kernel_rfl, by kernel_rfl, by kernel_rfl, by kernel_rfl, by kernel_rfl, by kernel_rfl, by kernel_rfl, by kernel_rfl, by kernel_rfl, by kernel_rfl, by kernel_rfl, by kernel_rfl, by kernel_rfl, by kernel_rfl, by kernel_rfl, by kernel_rfl, by kernel_rfl⟩
theorem g168 (p : Program) (w : World) (b : List Stmt) (os : OsState) :
    goW p (wF w) 37 (a168 w.params os) (thrA p w b os) = some (b168 w.params os, thrB p w b os (a168 w.params os)) ∧
    goW p (wT w) 37 (a168 w.params os) (thrA p w b os) = some (b168 w.params os, thrB p w b os (a168 w.params os)) ∧
    goW p w 498 (b168 w.params os) (thrB p w b os (a168 w.params os)) = some (a169 w.params os, thrA p w b os) ∧
    goW p (wF w) 37 (a169 w.params os) (thrA p w b os) = some (b169 w.params os, thrB p w b os (a169 w.params os)) ∧
    goW p (wT w) 37 (a169 w.params os) (thrA p w b os) = some (b169 w.params os, thrB p w b os (a169 w.params os)) ∧
    goW p w 512 (b169 w.params os) (thrB p w b os (a169 w.params os)) = some (a170 w.params os, thrA p w b os) ∧
    goW p (wF w) 37 (a170 w.params os) (thrA p w b os) = some (b170 w.params os, thrB p w b os (a170 w.params os)) ∧
    goW p (wT w) 37 (a170 w.params os) (thrA p w b os) = some (b170 w.params os, thrB p w b os (a170 w.params os)) ∧
    goW p w 498 (b170 w.params os) (thrB p w b os (a170 w.params os)) = some (a171 w.params os, thrA p w b os) ∧
    goW p (wF w) 37 (a171 w.params os) (thrA p w b os) = some (b171 w.params os, thrB p w b os (a171 w.params os)) ∧
    goW p (wT w) 37 (a171 w.params os) (thrA p w b os) = some (b171 w.params os, thrB p w b os (a171 w.params os)) ∧
    goW p w 512 (b171 w.params os) (thrB p w b os (a171 w.params os)) = some (a172 w.params os, thrA p w b os) ∧
    goW p (wF w) 37 (a172 w.params os) (thrA p w b os) = some (b172 w.params os, thrB p w b os (a172 w.params os)) ∧
    goW p (wT w) 37 (a172 w.params os) (thrA p w b os) = some (b172 w.params os, thrB p w b os (a172 w.params os)) ∧
    goW p w 505 (b172 w.params os) (thrB p w b os (a172 w.params os)) = some (a173 w.params os, thrA p w b os) ∧
    goW p (wF w) 37 (a173 w.params os) (thrA p w b os) = some (b173 w.params os, thrB p w b os (a173 w.params os)) ∧
    goW p (wT w) 37 (a173 w.params os) (thrA p w b os) = some (b173 w.params os, thrB p w b os (a173 w.params os)) ∧
    goW p w 519 (b173 w.params os) (thrB p w b os (a173 w.params os)) = some (a174 w.params os, thrA p w b os) ∧
    goW p (wF w) 37 (a174 w.params os) (thrA p w b os) = some (b174 w.params os, thrB p w b os (a174 w.params os)) ∧
    goW p (wT w) 37 (a174 w.params os) (thrA p w b os) = some (b174 w.params os, thrB p w b os (a174 w.params os)) ∧
    goW p w 505 (b174 w.params os) (thrB p w b os (a174 w.params os)) = some (a175 w.params os, thrA p w b os) ∧
    goW p (wF w) 37 (a175 w.params os) (thrA p w b os) = some (b175 w.params os, thrB p w b os (a175 w.params os)) ∧
    goW p (wT w) 37 (a175 w.params os) (thrA p w b os) = some (b175 w.params os, thrB p w b os (a175 w.params os)) ∧
    goW p w 519 (b175 w.params os) (thrB p w b os (a175 w.params os)) = some (a176 w.params os, thrA p w b os) :=
  ⟨by kernel_rfl, by kernel_rfl, by kernel_rfl, by kernel_rfl, by kernel_rfl, by kernel_rfl, by kernel_rfl, by kernel_rfl, by kernel_rfl, by kernel_rfl, by kernel_rfl, by kernel_rfl, by kernel_rfl, by kernel_rfl, by kernel_rfl, by kernel_rfl, by kernel_rfl, by kernel_rfl, by kernel_rfl, by kernel_rfl, by kernel_rfl, by kernel_rfl, by kernel_rfl, by kernel_rfl⟩
theorem g176 (p : Program) (w : World) (b : List Stmt) (os : OsState) :
    goW p (wF w) 37 (a176 w.params os) (thrA p w b os) = some (b176 w.params os, thrB p w b os (a176 w.params os)) ∧
    goW p (wT w) 37 (a176 w.params os) (thrA p w b os) = some (b176 w.params os, thrB p w b os (a176 w.params os)) ∧
    goW p w 498 (b176 w.params os) (thrB p w b os (a176 w.params os)) = some (a177 w.params os, thrA p w b os) ∧
    goW p (wF w) 37 (a177 w.params os) (thrA p w b os) = some (b177 w.params os, thrB p w b os (a177 w.params os)) ∧
    goW p (wT w) 37 (a177 w.params os) (thrA p w b os) = some (b177 w.params os, thrB p w b os (a177 w.params os)) ∧
    goW p w 512 (b177 w.params os) (thrB p w b os (a177 w.params os)) = some (a178 w.params os, thrA p w b os) ∧
    goW p (wF w) 37 (a178 w.params os) (thrA p w b os) = some (b178 w.params os, thrB p w b os (a178 w.params os)) ∧
    goW p (wT w) 37 (a178 w.params os) (thrA p w b os) = some (b178 w.params os, thrB p w b os (a178 w.params os)) ∧
    goW p w 498 (b178 w.params os) (thrB p w b os (a178 w.params os)) = some (a179 w.params os, thrA p w b os) ∧
    goW p (wF w) 37 (a179 w.params os) (thrA p w b os) = some (b179 w.params os, thrB p w b os (a179 w.params os)) ∧
    goW p (wT w) 37 (a179 w.params os) (thrA p w b os) = some (b179 w.params os, thrB p w b os (a179 w.params os)) ∧
    goW p w 512 (b179 w.params os) (thrB p w b os (a179 w.params os)) = some (a180 w.params os, thrA p w b os) ∧
    goW p (wF w) 37 (a180 w.params os) (thrA p w b os) = some (b180 w.params os, thrB p w b os (a180 w.params os)) ∧
    goW p (wT w) 37 (a180 w.params os) (thrA p w b os) = some (b180 w.params os, thrB p w b os (a180 w.params os)) ∧
    goW p w 505 (b180 w.params os) (thrB p w b os (a180 w.params os)) = some (a181 w.params os, thrA p w b os) ∧
    goW p (wF w) 37 (a181 w.params os) (thrA p w b os) = some (b181 w.params os, thrB p w b os (a181 w.params os)) ∧
    goW p (wT w) 37 (a181 w.params os) (thrA p w b os) = some (b181 w.params os, thrB p w b os (a181 w.params os)) ∧
    goW p w 519 (b181 w.params os) (thrB p w b os (a181 w.params os)) = some (a182 w.params os, thrA p w b os) ∧
    goW p (wF w) 37 (a182 w.params os) (thrA p w b os) = some (b182 w.params os, thrB p w b os (a182 w.params os)) ∧
    goW p (wT w) 37 (a182 w.params os) (thrA p w b os) = some (b182 w.params os, thrB p w b os (a182 w.params os)) ∧
    goW p w 505 (b182 w.params os) (thrB p w b os (a182 w.params os)) = some (a183 w.params os, thrA p w b os) ∧
    goW p (wF w) 37 (a183 w.params os) (thrA p w b os) = some (b183 w.params os, thrB p w b os (a183 w.params os)) ∧
    goW p (wT w) 37 (a183 w.params os) (thrA p w b os) = some (b183 w.params os, thrB p w b os (a183 w.params os)) ∧
    goW p w 519 (b183 w.params os) (thrB p w b os (a183 w.params os)) = some (a184 w.params os, thrA p w b os) :=
  ⟨by kernel_rfl, by kernel_rfl, by kernel_rfl, by kernel_rfl, by kernel_rfl, by kernel_rfl, by kernel_rfl, by kernel_rfl, by kernel_rfl, by kernel_rfl, by kernel_rfl, by kernel_rfl, by kernel_rfl, by kernel_rfl, by kernel_rfl, by kernel_rfl, by kernel_rfl, by kernel_rfl, by kernel_rfl, by kernel_rfl, by kernel_rfl, by kernel_rfl, by kernel_rfl, by kernel_rfl⟩
theorem g184 (p : Program) (w : World) (b : List Stmt) (os : OsState) :
    goW p (wF w) 37 (a184 w.params os) (thrA p w b os) = some (b184 w.params os, thrB p w b os (a184 w.params os)) ∧
    goW p (wT w) 37 (a184 w.params os) (thrA p w b os) = some (b184 w.params os, thrB p w b os (a184 w.params os)) ∧
    goW p w 505 (b184 w.params os) (thrB p w b os (a184 w.params os)) = some (a185 w.params os, thrA p w b os) ∧
    goW p (wF w) 37 (a185 w.params os) (thrA p w b os) = some (b185 w.params os, thrB p w b os (a185 w.params os)) ∧
    goW p (wT w) 37 (a185 w.params os) (thrA p w b os) = some (b185 w.params os, thrB p w b os (a185 w.params os)) ∧
    goW p w 519 (b185 w.params os) (thrB p w b os (a185 w.params os)) = some (a186 w.params os, thrA p w b os) ∧
    goW p (wF w) 37 (a186 w.params os) (thrA p w b os) = some (b186 w.params os, thrB p w b os (a186 w.params os)) ∧
    goW p (wT w) 37 (a186 w.params os) (thrA p w b os) = some (b186 w.params os, thrB p w b os (a186 w.params os)) ∧
    goW p w 505 (b186 w.params os) (thrB p w b os (a186 w.params os)) = some (a187 w.params os, thrA p w b os) ∧
    goW p (wF w) 37 (a187 w.params os) (thrA p w b os) = some (b187 w.params os, thrB p w b os (a187 w.params os)) ∧
    goW p (wT w) 37 (a187 w.params os) (thrA p w b os) = some (b187 w.params os, thrB p w b os (a187 w.params os)) ∧
    goW p w 519 (b187 w.params os) (thrB p w b os (a187 w.params os)) = some (a188 w.params os, thrA p w b os) ∧
    goW p (wF w) 37 (a188 w.params os) (thrA p w b os) = some (b188 w.params os, thrB p w b os (a188 w.params os)) ∧
    goW p (wT w) 37 (a188 w.params os) (thrA p w b os) = some (b188 w.params os, thrB p w b os (a188 w.params os)) ∧
    goW p w 512 (b188 w.params os) (thrB p w b os (a188 w.params os)) = some (a189 w.params os, thrA p w b os) ∧
    goW p (wF w) 37 (a189 w.params os) (thrA p w b os) = some (b189 w.params os, thrB p w b os (a189 w.params os)) ∧
    goW p (wT w) 37 (a189 w.params os) (thrA p w b os) = some (b189 w.params os, thrB p w b os (a189 w.params os)) ∧
    goW p w 526 (b189 w.params os) (thrB p w b os (a189 w.params os)) = some (a190 w.params os, thrA p w b os) ∧
    goW p (wF w) 37 (a190 w.params os) (thrA p w b os) = some (b190 w.params os, thrB p w b os (a190 w.params os)) ∧
    goW p (wT w) 37 (a190 w.params os) (thrA p w b os) = some (b190 w.params os, thrB p w b os (a190 w.params os)) ∧
    goW p w 512 (b190 w.params os) (thrB p w b os (a190 w.params os)) = some (a191 w.params os, thrA p w b os) ∧
    goW p (wF w) 37 (a191 w.params os) (thrA p w b os) = some (b191 w.params os, thrB p w b os (a191 w.params os)) ∧
    goW p (wT w) 37 (a191 w.params os) (thrA p w b os) = some (b191 w.params os, thrB p w b os (a191 w.params os)) ∧
    goW p w 526 (b191 w.params os) (thrB p w b os (a191 w.params os)) = some (a192 w.params os, thrA p w b os) :=
  ⟨by kernel_rfl, by kernel_rfl, by kernel_rfl, by kernel_rfl, by kernel_rfl, by kernel_rfl, by kernel_rfl, by kernel_rfl, by kernel_rfl, by kernel_rfl, by kernel_rfl, by kernel_rfl, by kernel_rfl, by kernel_rfl, by kernel_rfl, by kernel_rfl, by kernel_rfl, by kernel_rfl, by kernel_rfl, by kernel_rfl, by kernel_rfl, by kernel_rfl, by kernel_rfl, by kernel_rfl⟩
theorem g192 (p : Program) (w : World) (b : List Stmt) (os : OsState) :
    goW p (wF w) 37 (a192 w.params os) (thrA p w b os) = some (b192 w.params os, thrB p w b os (a192 w.params os)) ∧
    goW p (wT w) 37 (a192 w.params os) (thrA p w b os) = some (b192 w.params os, thrB p w b os (a192 w.params os)) ∧
    goW p w 491 (b192 w.params os) (thrB p w b os (a192 w.params os)) = some (a193 w.params os, thrA p w b os) ∧
    goW p (wF w) 37 (a193 w.params os) (thrA p w b os) = some (b193 w.params os, thrB p w b os (a193 w.params os)) ∧
    goW p (wT w) 37 (a193 w.params os) (thrA p w b os) = some (b193 w.params os, thrB p w b os (a193 w.params os)) ∧
    goW p w 491 (b193 w.params os) (thrB p w b os (a193 w.params os)) = some (a194 w.params os, thrA p w b os) ∧
    goW p (wF w) 37 (a194 w.params os) (thrA p w b os) = some (b194 w.params os, thrB p w b os (a194 w.params os)) ∧
    goW p (wT w) 37 (a194 w.params os) (thrA p w b os) = some (b194 w.params os, thrB p w b os (a194 w.params os)) ∧
    goW p w 491 (b194 w.params os) (thrB p w b os (a194 w.params os)) = some (a195 w.params os, thrA p w b os) ∧
    goW p (wF w) 37 (a195 w.params os) (thrA p w b os) = some (b195 w.params os, thrB p w b os (a195 w.params os)) ∧
    goW p (wT w) 37 (a195 w.params os) (thrA p w b os) = some (b195 w.params os, thrB p w b os (a195 w.params os)) ∧
    goW p w 491 (b195 w.params os) (thrB p w b os (a195 w.params os)) = some (a196 w.params os, thrA p w b os) ∧
    goW p (wF w) 37 (a196 w.params os) (thrA p w b os) = some (b196 w.params os, thrB p w b os (a196 w.params os)) ∧
    goW p (wT w) 37 (a196 w.params os) (thrA p w b os) = some (b196 w.params os, thrB p w b os (a196 w.params os)) ∧
    goW p w 498 (b196 w.params os) (thrB p w b os (a196 w.params os)) = some (a197 w.params os, thrA p w b os) ∧
    goW p (wF w) 37 (a197 w.params os) (thrA p w b os) = some (b197 w.params os, thrB p w b os (a197 w.params os)) ∧
    goW p (wT w) 37 (a197 w.params os) (thrA p w b os) = some (b197 w.params os, thrB p w b os (a197 w.params os)) ∧
    goW p w 498 (b197 w.params os) (thrB p w b os (a197 w.params os)) = some (a198 w.params os, thrA p w b os) ∧
    goW p (wF w) 37 (a198 w.params os) (thrA p w b os) = some (b198 w.params os, thrB p w b os (a198 w.params os)) ∧
    goW p (wT w) 37 (a198 w.params os) (thrA p w b os) = some (b198 w.params os, thrB p w b os (a198 w.params os)) ∧
    goW p w 498 (b198 w.params os) (thrB p w b os (a198 w.params os)) = some (a199 w.params os, thrA p w b os) ∧
    goW p (wF w) 37 (a199 w.params os) (thrA p w b os) = some (b199 w.params os, thrB p w b os (a199 w.params os)) ∧
    goW p (wT w) 37 (a199 w.params os) (thrA p w b os) = some (b199 w.params os, thrB p w b os (a199 w.params os)) ∧
    goW p w 498 (b199 w.params os) (thrB p w b os (a199 w.params os)) = some (a200 w.params os, thrA p w b os) :=
  ⟨by kernel_rfl, by kernel_rfl, by kernel_rfl, by kernel_rfl, by kernel_rfl, by kernel_rfl, by kernel_rfl, by kernel_rfl, by kernel_rfl, by kernel_rfl, by kernel_rfl, by kernel_rfl, by kernel_rfl, by kernel_rfl, by kernel_rfl, by kernel_rfl, by kernel_rfl, by kernel_rfl, by kernel_rfl, by kernel_rfl, by kernel_rfl, by kernel_rfl, by kernel_rfl, by kernel_rfl⟩
theorem g200 (p : Program) (w : World) (b : List Stmt) (os : OsState) :
    goW p (wF w) 37 (a200 w.params os) (thrA p w b os) = some (b200 w.params os, thrB p w b os (a200 w.params os)) ∧
    goW p (wT w) 37 (a200 w.params os) (thrA p w b os) = some (b200 w.params os, thrB p w b os (a200 w.params os)) ∧
    goW p w 498 (b200 w.params os) (thrB p w b os (a200 w.params os)) = some (a201 w.params os, thrA p w b os) ∧
    goW p (wF w) 37 (a201 w.params os) (thrA p w b os) = some (b201 w.params os, thrB p w b os (a201 w.params os)) ∧
    goW p (wT w) 37 (a201 w.params os) (thrA p w b os) = some (b201 w.params os, thrB p w b os (a201 w.params os)) ∧
    goW p w 498 (b201 w.params os) (thrB p w b os (a201 w.params os)) = some (a202 w.params os, thrA p w b os) ∧
    goW p (wF w) 37 (a202 w.params os) (thrA p w b os) = some (b202 w.params os, thrB p w b os (a202 w.params os)) ∧
    goW p (wT w) 37 (a202 w.params os) (thrA p w b os) = some (b202 w.params os, thrB p w b os (a202 w.params os)) ∧
    goW p w 498 (b202 w.params os) (thrB p w b os (a202 w.params os)) = some (a203 w.params os, thrA p w b os) ∧
    goW p (wF w) 37 (a203 w.params os) (thrA p w b os) = some (b203 w.params os, thrB p w b os (a203 w.params os)) ∧
    goW p (wT w) 37 (a203 w.params os) (thrA p w b os) = some (b203 w.params os, thrB p w b os (a203 w.params os)) ∧
    goW p w 498 (b203 w.params os) (thrB p w b os (a203 w.params os)) = some (a204 w.params os, thrA p w b os) ∧
    goW p (wF w) 37 (a204 w.params os) (thrA p w b os) = some (b204 w.params os, thrB p w b os (a204 w.params os)) ∧
    goW p (wT w) 37 (a204 w.params os) (thrA p w b os) = some (b204 w.params os, thrB p w b os (a204 w.params os)) ∧
    goW p w 505 (b204 w.params os) (thrB p w b os (a204 w.params os)) = some (a205 w.params os, thrA p w b os) ∧
    goW p (wF w) 37 (a205 w.params os) (thrA p w b os) = some (b205 w.params os, thrB p w b os (a205 w.params os)) ∧
    goW p (wT w) 37 (a205 w.params os) (thrA p w b os) = some (b205 w.params os, thrB p w b os (a205 w.params os)) ∧
    goW p w 505 (b205 w.params os) (thrB p w b os (a205 w.params os)) = some (a206 w.params os, thrA p w b os) ∧
    goW p (wF w) 37 (a206 w.params os) (thrA p w b os) = some (b206 w.params os, thrB p w b os (a206 w.params os)) ∧
    goW p (wT w) 37 (a206 w.params os) (thrA p w b os) = some (b206 w.params os, thrB p w b os (a206 w.params os)) ∧
    goW p w 505 (b206 w.params os) (thrB p w b os (a206 w.params os)) = some (a207 w.params os, thrA p w b os) ∧
    goW p (wF w) 37 (a207 w.params os) (thrA p w b os) = some (b207 w.params os, thrB p w b os (a207 w.params os)) ∧
    goW p (wT w) 37 (a207 w.params os) (thrA p w b os) = some (b207 w.params os, thrB p w b os (a207 w.params os)) ∧
    goW p w 505 (b207 w.params os) (thrB p w b os (a207 w.params os)) = some (a208 w.params os, thrA p w b os) :=
  ⟨by kernel_rfl, by kernel_rfl, by kernel_rfl, by kernel_rfl, by kernel_rfl, by kernel_rfl, by kernel_rfl, by kernel_rfl, by kernel_rfl, by kernel_rfl, by kernel_rfl, by kernel_rfl, by kernel_rfl, by kernel_rfl, by kernel_rfl, by kernel_rfl, by kernel_rfl, by kernel_rfl, by kernel_rfl, by kernel_rfl, by kernel_rfl, by kernel_rfl, by kernel_rfl, by kernel_rfl⟩
theorem g208 (p : Program) (w : World) (b : List Stmt) (os : OsState) :
    goW p (wF w) 37 (a208 w.params os) (thrA p w b os) = some (b208 w.params os, thrB p w b os (a208 w.params os)) ∧
    goW p (wT w) 37 (a208 w.params os) (thrA p w b os) = some (b208 w.params os, thrB p w b os (a208 w.params os)) ∧
    goW p w 498 (b208 w.params os) (thrB p w b os (a208 w.params os)) = some (a209 w.params os, thrA p w b os) ∧
    goW p (wF w) 37 (a209 w.params os) (thrA p w b os) = some (b209 w.params os, thrB p w b os (a209 w.params os)) ∧
    goW p (wT w) 37 (a209 w.params os) (thrA p w b os) = some (b209 w.params os, thrB p w b os (a209 w.params os)) ∧
    goW p w 498 (b209 w.params os) (thrB p w b os (a209 w.params os)) = some (a210 w.params os, thrA p w b os) ∧
    goW p (wF w) 37 (a210 w.params os) (thrA p w b os) = some (b210 w.params os, thrB p w b os (a210 w.params os)) ∧
    goW p (wT w) 37 (a210 w.params os) (thrA p w b os) = some (b210 w.params os, thrB p w b os (a210 w.params os)) ∧
    goW p w 498 (b210 w.params os) (thrB p w b os (a210 w.params os)) = some (a211 w.params os, thrA p w b os) ∧
    goW p (wF w) 37 (a211 w.params os) (thrA p w b os) = some (b211 w.params os, thrB p w b os (a211 w.params os)) ∧
    goW p (wT w) 37 (a211 w.params os) (thrA p w b os) = some (b211 w.params os, thrB p w b os (a211 w.params os)) ∧
    goW p w 498 (b211 w.params os) (thrB p w b os (a211 w.params os)) = some (a212 w.params os, thrA p w b os) ∧
    goW p (wF w) 37 (a212 w.params os) (thrA p w b os) = some (b212 w.params os, thrB p w b os (a212 w.params os)) ∧
    goW p (wT w) 37 (a212 w.params os) (thrA p w b os) = some (b212 w.params os, thrB p w b os (a212 w.params os)) ∧
    goW p w 505 (b212 w.params os) (thrB p w b os (a212 w.params os)) = some (a213 w.params os, thrA p w b os) ∧
    goW p (wF w) 37 (a213 w.params os) (thrA p w b os) = some (b213 w.params os, thrB p w b os (a213 w.params os)) ∧
    goW p (wT w) 37 (a213 w.params os) (thrA p w b os) = some (b213 w.params os, thrB p w b os (a213 w.params os)) ∧
    goW p w 505 (b213 w.params os) (thrB p w b os (a213 w.params os)) = some (a214 w.params os, thrA p w b os) ∧
    goW p (wF w) 37 (a214 w.params os) (thrA p w b os) = some (b214 w.params os, thrB p w b os (a214 w.params os)) ∧
    goW p (wT w) 37 (a214 w.params os) (thrA p w b os) = some (b214 w.params os, thrB p w b os (a214 w.params os)) ∧
    goW p w 505 (b214 w.params os) (thrB p w b os (a214 w.params os)) = some (a215 w.params os, thrA p w b os) ∧
    goW p (wF w) 37 (a215 w.params os) (thrA p w b os) = some (b215 w.params os, thrB p w b os (a215 w.params os)) ∧
    goW p (wT w) 37 (a215 w.params os) (thrA p w b os) = some (b215 w.params os, thrB p w b os (a215 w.params os)) ∧
    goW p w 505 (b215 w.params os) (thrB p w b os (a215 w.params os)) = some (a216 w.params os, thrA p w b os) :=
  ⟨by kernel_rfl, by kernel_rfl, by kernel_rfl, by kernel_rfl, by kernel_rfl, by kernel_rfl, by kernel_rfl, by kernel_rfl, by kernel_rfl, by kernel_rfl, by kernel_rfl, by kernel_rfl, by kernel_rfl, by kernel_rfl, by kernel_rfl, by kernel_rfl, by kernel_rfl, by kernel_rfl, by kernel_rfl, by kernel_rfl, by kernel_rfl, by kernel_rfl, by kernel_rfl, by kernel_rfl⟩
theorem g216 (p : Program) (w : World) (b : List Stmt) (os : OsState) :
    goW p (wF w) 37 (a216 w.params os) (thrA p w b os) = some (b216 w.params os, thrB p w b os (a216 w.params os)) ∧
    goW p (wT w) 37 (a216 w.params os) (thrA p w b os) = some (b216 w.params os, thrB p w b os (a216 w.params os)) ∧
    goW p w 505 (b216 w.params os) (thrB p w b os (a216 w.params os)) = some (a217 w.params os, thrA p w b os) ∧
    goW p (wF w) 37 (a217 w.params os) (thrA p w b os) = some (b217 w.params os, thrB p w b os (a217 w.params os)) ∧
    goW p (wT w) 37 (a217 w.params os) (thrA p w b os) = some (b217 w.params os, thrB p w b os (a217 w.params os)) ∧
    goW p w 505 (b217 w.params os) (thrB p w b os (a217 w.params os)) = some (a218 w.params os, thrA p w b os) ∧
    goW p (wF w) 37 (a218 w.params os) (thrA p w b os) = some (b218 w.params os, thrB p w b os (a218 w.params os)) ∧
    goW p (wT w) 37 (a218 w.params os) (thrA p w b os) = some (b218 w.params os, thrB p w b os (a218 w.params os)) ∧
    goW p w 505 (b218 w.params os) (thrB p w b os (a218 w.params os)) = some (a219 w.params os, thrA p w b os) ∧
    goW p (wF w) 37 (a219 w.params os) (thrA p w b os) = some (b219 w.params os, thrB p w b os (a219 w.params os)) ∧
    goW p (wT w) 37 (a219 w.params os) (thrA p w b os) = some (b219 w.params os, thrB p w b os (a219 w.params os)) ∧
    goW p w 505 (b219 w.params os) (thrB p w b os (a219 w.params os)) = some (a220 w.params os, thrA p w b os) ∧
    goW p (wF w) 37 (a220 w.params os) (thrA p w b os) = some (b220 w.params os, thrB p w b os (a220 w.params os)) ∧
    goW p (wT w) 37 (a220 w.params os) (thrA p w b os) = some (b220 w.params os, thrB p w b os (a220 w.params os)) ∧
    goW p w 512 (b220 w.params os) (thrB p w b os (a220 w.params os)) = some (a221 w.params os, thrA p w b os) ∧
    goW p (wF w) 37 (a221 w.params os) (thrA p w b os) = some (b221 w.params os, thrB p w b os (a221 w.params os)) ∧
    goW p (wT w) 37 (a221 w.params os) (thrA p w b os) = some (b221 w.params os, thrB p w b os (a221 w.params os)) ∧
    goW p w 512 (b221 w.params os) (thrB p w b os (a221 w.params os)) = some (a222 w.params os, thrA p w b os) ∧
    goW p (wF w) 37 (a222 w.params os) (thrA p w b os) = some (b222 w.params os, thrB p w b os (a222 w.params os)) ∧
    goW p (wT w) 37 (a222 w.params os) (thrA p w b os) = some (b222 w.params os, thrB p w b os (a222 w.params os)) ∧
    goW p w 512 (b222 w.params os) (thrB p w b os (a222 w.params os)) = some (a223 w.params os, thrA p w b os) ∧
    goW p (wF w) 37 (a223 w.params os) (thrA p w b os) = some (b223 w.params os, thrB p w b os (a223 w.params os)) ∧
    goW p (wT w) 37 (a223 w.params os) (thrA p w b os) = some (b223 w.params os, thrB p w b os (a223 w.params os)) ∧
    goW p w 512 (b223 w.params os) (thrB p w b os (a223 w.params os)) = some (a224 w.params os, thrA p w b os) :=
  ⟨by kernel_rfl, by kernel_rfl, by kernel_rfl, by kernel_rfl, by kernel_rfl, by kernel_rfl, by kernel_rfl, by kernel_rfl, by kernel_rfl, by kernel_rfl, by kernel_rfl, by kernel_rfl, by kernel_rfl, by kernel_rfl, by kernel_rfl, by kernel_rfl, by kernel_rfl, by kernel_rfl, by kernel_rfl, by kernel_rfl, by kernel_rfl, by kernel_rfl, by kernel_rfl, by kernel_rfl⟩
theorem g224 (p : Program) (w : World) (b : List Stmt) (os : OsState) :
    goW p (wF w) 37 (a224 w.params os) (thrA p w b os) = some (b224 w.params os, thrB p w b os (a224 w.params os)) ∧
    goW p (wT w) 37 (a224 w.params os) (thrA p w b os) = some (b224 w.params os, thrB p w b os (a224 w.params os)) ∧
    goW p w 498 (b224 w.params os) (thrB p w b os (a224 w.params os)) = some (a225 w.params os, thrA p w b os) ∧
    goW p (wF w) 37 (a225 w.params os) (thrA p w b os) = some (b225 w.params os, thrB p w b os (a225 w.params os)) ∧
    goW p (wT w) 37 (a225 w.params os) (thrA p w b os) = some (b225 w.params os, thrB p w b os (a225 w.params os)) ∧
    goW p w 498 (b225 w.params os) (thrB p w b os (a225 w.params os)) = some (a226 w.params os, thrA p w b os) ∧
    goW p (wF w) 37 (a226 w.params os) (thrA p w b os) = some (b226 w.params os, thrB p w b os (a226 w.params os)) ∧
    goW p (wT w) 37 (a226 w.params os) (thrA p w b os) = some (b226 w.params os, thrB p w b os (a226 w.params os)) ∧
    goW p w 498 (b226 w.params os) (thrB p w b os (a226 w.params os)) = some (a227 w.params os, thrA p w b os) ∧
    goW p (wF w) 37 (a227 w.params os) (thrA p w b os) = some (b227 w.params os, thrB p w b os (a227 w.params os)) ∧
    goW p (wT w) 37 (a227 w.params os) (thrA p w b os) = some (b227 w.params os, thrB p w b os (a227 w.params os)) ∧
    goW p w 498 (b227 w.params os) (thrB p w b os (a227 w.params os)) = some (a228 w.params os, thrA p w b os) ∧
    goW p (wF w) 37 (a228 w.params os) (thrA p w b os) = some (b228 w.params os, thrB p w b os (a228 w.params os)) ∧
    goW p (wT w) 37 (a228 w.params os) (thrA p w b os) = some (b228 w.params os, thrB p w b os (a228 w.params os)) ∧
    goW p w 505 (b228 w.params os) (thrB p w b os (a228 w.params os)) = some (a229 w.params os, thrA p w b os) ∧
    goW p (wF w) 37 (a229 w.params os) (thrA p w b os) = some (b229 w.params os, thrB p w b os (a229 w.params os)) ∧
    goW p (wT w) 37 (a229 w.params os) (thrA p w b os) = some (b229 w.params os, thrB p w b os (a229 w.params os)) ∧
    goW p w 505 (b229 w.params os) (thrB p w b os (a229 w.params os)) = some (a230 w.params os, thrA p w b os) ∧
    goW p (wF w) 37 (a230 w.params os) (thrA p w b os) = some (b230 w.params os, thrB p w b os (a230 w.params os)) ∧
    goW p (wT w) 37 (a230 w.params os) (thrA p w b os) = some (b230 w.params os, thrB p w b os (a230 w.params os)) ∧
    goW p w 505 (b230 w.params os) (thrB p w b os (a230 w.params os)) = some (a231 w.params os, thrA p w b os) ∧
    goW p (wF w) 37 (a231 w.params os) (thrA p w b os) = some (b231 w.params os, thrB p w b os (a231 w.params os)) ∧
    goW p (wT w) 37 (a231 w.params os) (thrA p w b os) = some (b231 w.params os, thrB p w b os (a231 w.params os)) ∧
    goW p w 505 (b231 w.params os) (thrB p w b os (a231 w.params os)) = some (a232 w.params os, thrA p w b os) :=
  ⟨by kernel_rfl, by kernel_rfl, by kernel_rfl, by kernel_rfl, by kernel_rfl, by kernel_rfl, by kernel_rfl, by kernel_rfl, by kernel_rfl, by kernel_rfl, by kernel_rfl, by kernel_rfl, by kernel_rfl, by kernel_rfl, by kernel_rfl, by kernel_rfl, by kernel_rfl, by kernel_rfl, by kernel_rfl, by kernel_rfl, by kernel_rfl, by kernel_rfl, by kernel_rfl, by kernel_rfl⟩
theorem g232 (p : Program) (w : World) (b : List Stmt) (os : OsState) :
    goW p (wF w) 37 (a232 w.params os) (thrA p w b os) = some (b232 w.params os, thrB p w b os (a232 w.params os)) ∧
    goW p (wT w) 37 (a232 w.params os) (thrA p w b os) = some (b232 w.params os, thrB p w b os (a232 w.params os)) ∧
    goW p w 505 (b232 w.params os) (thrB p w b os (a232 w.params os)) = some (a233 w.params os, thrA p w b os) ∧
    goW p (wF w) 37 (a233 w.params os) (thrA p w b os) = some (b233 w.params os, thrB p w b os (a233 w.params os)) ∧
    goW p (wT w) 37 (a233 w.params os) (thrA p w b os) = some (b233 w.params os, thrB p w b os (a233 w.params os)) ∧
    goW p w 505 (b233 w.params os) (thrB p w b os (a233 w.params os)) = some (a234 w.params os, thrA p w b os) ∧
    goW p (wF w) 37 (a234 w.params os) (thrA p w b os) = some (b234 w.params os, thrB p w b os (a234 w.params os)) ∧
    goW p (wT w) 37 (a234 w.params os) (thrA p w b os) = some (b234 w.params os, thrB p w b os (a234 w.params os)) ∧
    goW p w 505 (b234 w.params os) (thrB p w b os (a234 w.params os)) = some (a235 w.params os, thrA p w b os) ∧
    goW p (wF w) 37 (a235 w.params os) (thrA p w b os) = some (b235 w.params os, thrB p w b os (a235 w.params os)) ∧
    goW p (wT w) 37 (a235 w.params os) (thrA p w b os) = some (b235 w.params os, thrB p w b os (a235 w.params os)) ∧
    goW p w 505 (b235 w.params os) (thrB p w b os (a235 w.params os)) = some (a236 w.params os, thrA p w b os) ∧
    goW p (wF w) 37 (a236 w.params os) (thrA p w b os) = some (b236 w.params os, thrB p w b os (a236 w.params os)) ∧
    goW p (wT w) 37 (a236 w.params os) (thrA p w b os) = some (b236 w.params os, thrB p w b os (a236 w.params os)) ∧
    goW p w 512 (b236 w.params os) (thrB p w b os (a236 w.params os)) = some (a237 w.params os, thrA p w b os) ∧
    goW p (wF w) 37 (a237 w.params os) (thrA p w b os) = some (b237 w.params os, thrB p w b os (a237 w.params os)) ∧
    goW p (wT w) 37 (a237 w.params os) (thrA p w b os) = some (b237 w.params os, thrB p w b os (a237 w.params os)) ∧
    goW p w 512 (b237 w.params os) (thrB p w b os (a237 w.params os)) = some (a238 w.params os, thrA p w b os) ∧
    goW p (wF w) 37 (a238 w.params os) (thrA p w b os) = some (b238 w.params os, thrB p w b os (a238 w.params os)) ∧
    goW p (wT w) 37 (a238 w.params os) (thrA p w b os) = some (b238 w.params os, thrB p w b os (a238 w.params os)) ∧
    goW p w 512 (b238 w.params os) (thrB p w b os (a238 w.params os)) = some (a239 w.params os, thrA p w b os) ∧
    goW p (wF w) 37 (a239 w.params os) (thrA p w b os) = some (b239 w.params os, thrB p w b os (a239 w.params os)) ∧
    goW p (wT w) 37 (a239 w.params os) (thrA p w b os) = some (b239 w.params os, thrB p w b os (a239 w.params os)) ∧
    goW p w 512 (b239 w.params os) (thrB p w b os (a239 w.params os)) = some (a240 w.params os, thrA p w b os) :=
  ⟨by kernel_rfl, by kernel_rfl, by kernel_rfl, by kernel_rfl, by kernel_rfl, by kernel_rfl, by kernel_rfl, by kernel_rfl, by kernel_rfl, by kernel_rfl, by kernel_rfl, by kernel_rfl, by kernel_rfl, by kernel_rfl, by kernel_rfl, by kernel_rfl, by kernel_rfl, by kernel_rfl, by kernel_rfl, by kernel_rfl, by kernel_rfl, by kernel_rfl, by kernel_rfl, by kernel_rfl⟩
theorem g240 (p : Program) (w : World) (b : List Stmt) (os : OsState) :
    goW p (wF w) 37 (a240 w.params os) (thrA p w b os) = some (b240 w.params os, thrB p w b os (a240 w.params os)) ∧
    goW p (wT w) 37 (a240 w.params os) (thrA p w b os) = some (b240 w.params os, thrB p w b os (a240 w.params os)) ∧
    goW p w 505 (b240 w.params os) (thrB p w b os (a240 w.params os)) = some (a241 w.params os, thrA p w b os) ∧
    goW p (wF w) 37 (a241 w.params os) (thrA p w b os) = some (b241 w.params os, thrB p w b os (a241 w.params os)) ∧
    goW p (wT w) 37 (a241 w.params os) (thrA p w b os) = some (b241 w.params os, thrB p w b os (a241 w.params os)) ∧
    goW p w 505 (b241 w.params os) (thrB p w b os (a241 w.params os)) = some (a242 w.params os, thrA p w b os) ∧
    goW p (wF w) 37 (a242 w.params os) (thrA p w b os) = some (b242 w.params os, thrB p w b os (a242 w.params os)) ∧
    goW p (wT w) 37 (a242 w.params os) (thrA p w b os) = some (b242 w.params os, thrB p w b os (a242 w.params os)) ∧
    goW p w 505 (b242 w.params os) (thrB p w b os (a242 w.params os)) = some (a243 w.params os, thrA p w b os) ∧
    goW p (wF w) 37 (a243 w.params os) (thrA p w b os) = some (b243 w.params os, thrB p w b os (a243 w.params os)) ∧
    goW p (wT w) 37 (a243 w.params os) (thrA p w b os) = some (b243 w.params os, thrB p w b os (a243 w.params os)) ∧
    goW p w 505 (b243 w.params os) (thrB p w b os (a243 w.params os)) = some (a244 w.params os, thrA p w b os) ∧
    goW p (wF w) 37 (a244 w.params os) (thrA p w b os) = some (b244 w.params os, thrB p w b os (a244 w.params os)) ∧
    goW p (wT w) 37 (a244 w.params os) (thrA p w b os) = some (b244 w.params os, thrB p w b os (a244 w.params os)) ∧
    goW p w 512 (b244 w.params os) (thrB p w b os (a244 w.params os)) = some (a245 w.params os, thrA p w b os) ∧
    goW p (wF w) 37 (a245 w.params os) (thrA p w b os) = some (b245 w.params os, thrB p w b os (a245 w.params os)) ∧
    goW p (wT w) 37 (a245 w.params os) (thrA p w b os) = some (b245 w.params os, thrB p w b os (a245 w.params os)) ∧
    goW p w 512 (b245 w.params os) (thrB p w b os (a245 w.params os)) = some (a246 w.params os, thrA p w b os) ∧
    goW p (wF w) 37 (a246 w.params os) (thrA p w b os) = some (b246 w.params os, thrB p w b os (a246 w.params os)) ∧
    goW p (wT w) 37 (a246 w.params os) (thrA p w b os) = some (b246 w.params os, thrB p w b os (a246 w.params os)) ∧
    goW p w 512 (b246 w.params os) (thrB p w b os (a246 w.params os)) = some (a247 w.params os, thrA p w b os) ∧
    goW p (wF w) 37 (a247 w.params os) (thrA p w b os) = some (b247 w.params os, thrB p w b os (a247 w.params os)) ∧
    goW p (wT w) 37 (a247 w.params os) (thrA p w b os) = some (b247 w.params os, thrB p w b os (a247 w.params os)) ∧
    goW p w 512 (b247 w.params os) (thrB p w b os (a247 w.params os)) = some (a248 w.params os, thrA p w b os) :=
  ⟨by kernel_rfl, by kernel_rfl, by kernel_rfl, by kernel_rfl, by kernel_rfl, by kernel_rfl, by kernel_rfl, by kernel_rfl, by kernel_rfl, by kernel_rfl, by kernel_rfl, by kernel_rfl, by kernel_rfl, by kernel_rfl, by kernel_rfl, by kernel_rfl, by kernel_rfl, by kernel_rfl, by kernel_rfl, by kernel_rfl, by kernel_rfl, by kernel_rfl, by kernel_rfl, by kernel_rfl⟩
theorem g248 (p : Program) (w : World) (b : List Stmt) (os : OsState) :
    goW p (wF w) 37 (a248 w.params os) (thrA p w b os) = some (b248 w.params os, thrB p w b os (a248 w.params os)) ∧
    goW p (wT w) 37 (a248 w.params os) (thrA p w b os) = some (b248 w.params os, thrB p w b os (a248 w.params os)) ∧
    goW p w 512 (b248 w.params os) (thrB p w b os (a248 w.params os)) = some (a249 w.params os, thrA p w b os) ∧
    goW p (wF w) 37 (a249 w.params os) (thrA p w b os) = some (b249 w.params os, thrB p w b os (a249 w.params os)) ∧
    goW p (wT w) 37 (a249 w.params os) (thrA p w b os) = some (b249 w.params os, thrB p w b os (a249 w.params os)) ∧
    goW p w 512 (b249 w.params os) (thrB p w b os (a249 w.params os)) = some (a250 w.params os, thrA p w b os) ∧
    goW p (wF w) 37 (a250 w.params os) (thrA p w b os) = some (b250 w.params os, thrB p w b os (a250 w.params os)) ∧
    goW p (wT w) 37 (a250 w.params os) (thrA p w b os) = some (b250 w.params os, thrB p w b os (a250 w.params os)) ∧
    goW p w 512 (b250 w.params os) (thrB p w b os (a250 w.params os)) = some (a251 w.params os, thrA p w b os) ∧
    goW p (wF w) 37 (a251 w.params os) (thrA p w b os) = some (b251 w.params os, thrB p w b os (a251 w.params os)) ∧
    goW p (wT w) 37 (a251 w.params os) (thrA p w b os) = some (b251 w.params os, thrB p w b os (a251 w.params os)) ∧
    goW p w 512 (b251 w.params os) (thrB p w b os (a251 w.params os)) = some (a252 w.params os, thrA p w b os) ∧
    goW p (wF w) 37 (a252 w.params os) (thrA p w b os) = some (b252 w.params os, thrB p w b os (a252 w.params os)) ∧
    goW p (wT w) 37 (a252 w.params os) (thrA p w b os) = some (b252 w.params os, thrB p w b os (a252 w.params os)) ∧
    goW p w 519 (b252 w.params os) (thrB p w b os (a252 w.params os)) = some (a253 w.params os, thrA p w b os) ∧
    goW p (wF w) 37 (a253 w.params os) (thrA p w b os) = some (b253 w.params os, thrB p w b os (a253 w.params os)) ∧
    goW p (wT w) 37 (a253 w.params os) (thrA p w b os) = some (b253 w.params os, thrB p w b os (a253 w.params os)) ∧
    goW p w 519 (b253 w.params os) (thrB p w b os (a253 w.params os)) = some (a254 w.params os, thrA p w b os) ∧
    goW p (wF w) 37 (a254 w.params os) (thrA p w b os) = some (b254 w.params os, thrB p w b os (a254 w.params os)) ∧
    goW p (wT w) 37 (a254 w.params os) (thrA p w b os) = some (b254 w.params os, thrB p w b os (a254 w.params os)) ∧
    goW p w 519 (b254 w.params os) (thrB p w b os (a254 w.params os)) = some (a255 w.params os, thrA p w b os) :=
  ⟨by kernel_rfl, by kernel_rfl, by kernel_rfl, by kernel_rfl, by kernel_rfl, by kernel_rfl, by kernel_rfl, by kernel_rfl, by kernel_rfl, by kernel_rfl, by kernel_rfl, by kernel_rfl, by kernel_rfl, by kernel_rfl, by kernel_rfl, by kernel_rfl, by kernel_rfl, by kernel_rfl, by kernel_rfl, by kernel_rfl, by kernel_rfl⟩
def addEnt (o : Obj) (e : DictEntry) : Obj := match o with
  | ⟨c, d, .dict es n, sl⟩ => ⟨c, d, .dict (es.push e) (n + 1), sl⟩
  | o => o
def lcE (P : Params) : Obj := ⟨.type "frame", none, .dict #[entS P "table" 201 (.ref 23), entS P "byte" 206 (.int 255 17033), entS P "value" 207 (.int 755167117 17099), entS P "k" 212 (.int 7 17094)] 4, #[]⟩
noncomputable def tE (P : Params) : BT := (.node (PySem.W.boot_o_0 P) (.node (PySem.W.boot_o_1 P) (.node (addEnt (Pre.o_5 P) (entS P "_TABLE" 17101 (.ref 23))) (.node (PySem.W.boot_o_7 P) (.node (Pre.o_7 P) (.node ri (.node ri (.node ri (.node ri (.node ri (.node ri .nil .nil) .nil) (.node ri .nil .nil)) (.node ri (.node ri .nil .nil) (.node ri .nil .nil))) (.node ri (.node ri (.node ri .nil .nil) (.node ri .nil .nil)) (.node ri (.node ri .nil .nil) (.node ri .nil .nil)))) (.node ri (.node ri (.node ri (.node ri .nil .nil) (.node ri .nil .nil)) (.node ri (.node ri .nil .nil) (.node ri .nil .nil))) (.node ri (.node ri (.node ri .nil .nil) (.node ri .nil .nil)) (.node ri (.node ri .nil .nil) (.node ri .nil .nil))))) (.node ri (.node ri (.node ri (.node ri (.node ri (.node ri .nil .nil) .nil) (.node ri .nil .nil)) (.node ri (.node ri .nil .nil) (.node ri .nil .nil))) (.node ri (.node ri (.node ri .nil .nil) (.node ri .nil .nil)) (.node ri (.node ri .nil .nil) (.node ri .nil .nil)))) (.node ri (.node ri (.node ri (.node ri .nil .nil) (.node ri .nil .nil)) (.node ri (.node ri .nil .nil) (.node ri .nil .nil))) (.node ri (.node ri (.node ri .nil .nil) (.node ri .nil .nil)) (.node ri (.node ri .nil .nil) (.node ri .nil .nil)))))) (.node (ls 256) (.node ri (.node ri (.node ri (.node ri (.node ri (.node ri .nil .nil) .nil) (.node ri .nil .nil)) (.node ri (.node ri .nil .nil) (.node ri .nil .nil))) (.node ri (.node ri (.node ri .nil .nil) (.node ri .nil .nil)) (.node ri (.node ri .nil .nil) (.node ri .nil .nil)))) (.node ri (.node ri (.node ri (.node ri .nil .nil) (.node ri .nil .nil)) (.node ri (.node ri .nil .nil) (.node ri .nil .nil))) (.node ri (.node ri (.node ri .nil .nil) (.node ri .nil .nil)) (.node ri (.node ri .nil .nil) (.node ri .nil .nil))))) (.node ri (.node ri (.node ri (.node ri (.node ri (.node ri .nil .nil) .nil) (.node ri .nil .nil)) (.node ri (.node ri .nil .nil) (.node ri .nil .nil))) (.node ri (.node ri (.node ri .nil .nil) (.node ri .nil .nil)) (.node ri (.node ri .nil .nil) (.node ri .nil .nil)))) (.node ri (.node ri (.node ri (.node ri .nil .nil) (.node ri .nil .nil)) (.node ri (.node ri .nil .nil) (.node ri .nil .nil))) (.node ri (.node ri (.node ri .nil .nil) (.node ri .nil .nil)) (.node ri (.node ri .nil .nil) (.node ri .nil .nil))))))) (.node (Pre.o_1 P) (.node (Pre.o_11 P) (.node ri (.node ri (.node ri (.node ri (.node ri (.node ri .nil .nil) .nil) (.node ri .nil .nil)) (.node ri (.node ri .nil .nil) (.node ri .nil .nil))) (.node ri (.node ri (.node ri .nil .nil) (.node ri .nil .nil)) (.node ri (.node ri .nil .nil) (.node ri .nil .nil)))) (.node ri (.node ri (.node ri (.node ri .nil .nil) (.node ri .nil .nil)) (.node ri (.node ri .nil .nil) (.node ri .nil .nil))) (.node ri (.node ri (.node ri .nil .nil) (.node ri .nil .nil)) (.node ri (.node ri .nil .nil) (.node ri .nil .nil))))) (.node ri (.node ri (.node ri (.node ri (.node ri (.node ri .nil .nil) .nil) (.node ri .nil .nil)) (.node ri (.node ri .nil .nil) (.node ri .nil .nil))) (.node ri (.node ri (.node ri .nil .nil) (.node ri .nil .nil)) (.node ri (.node ri .nil .nil) (.node ri .nil .nil)))) (.node ri (.node ri (.node ri (.node ri .nil .nil) (.node ri .nil .nil)) (.node ri (.node ri .nil .nil) (.node ri .nil .nil))) (.node ri (.node ri (.node ri .nil .nil) (.node ri .nil .nil)) (.node ri (.node ri .nil .nil) (.node ri .nil .nil)))))) (.node ri (.node ri (.node ri (.node ri (.node ri (.node ri (.node ri .nil .nil) .nil) (.node ri .nil .nil)) (.node ri (.node ri .nil .nil) (.node ri .nil .nil))) (.node ri (.node ri (.node ri .nil .nil) (.node ri .nil .nil)) (.node ri (.node ri .nil .nil) (.node ri .nil .nil)))) (.node ri (.node ri (.node ri (.node ri .nil .nil) (.node ri .nil .nil)) (.node ri (.node ri .nil .nil) (.node ri .nil .nil))) (.node ri (.node ri (.node ri .nil .nil) (.node ri .nil .nil)) (.node ri (.node ri .nil .nil) (.node ri .nil .nil))))) (.node ri (.node ri (.node ri (.node ri (.node ri (.node (se 1050) .nil .nil) .nil) (.node ri .nil .nil)) (.node ri (.node ri .nil .nil) (.node ri .nil .nil))) (.node ri (.node ri (.node ri .nil .nil) (.node ri .nil .nil)) (.node ri (.node ri .nil .nil) (.node ri .nil .nil)))) (.node ri (.node ri (.node ri (.node ri .nil .nil) (.node ri .nil .nil)) (.node ri (.node ri .nil .nil) (.node ri .nil .nil))) (.node ri (.node ri (.node ri .nil .nil) (.node ri .nil .nil)) (.node ri (.node ri .nil .nil) (.node ri .nil .nil)))))))) (.node (PySem.W.boot_o_5 P) (.node (PySem.W.boot_o_9 P) (.node (Pre.o_9 P) (.node (se 32) (.node (se 64) (.node (se 128) (.node (se 256) (.node (se 512) (.node (se 1024) .nil .nil) .nil) (.node (se 768) .nil .nil)) (.node (se 384) (.node (se 640) .nil .nil) (.node (se 896) .nil .nil))) (.node (se 192) (.node (se 320) (.node (se 576) .nil .nil) (.node (se 832) .nil .nil)) (.node (se 448) (.node (se 704) .nil .nil) (.node (se 960) .nil .nil)))) (.node (se 96) (.node (se 160) (.node (se 288) (.node (se 544) .nil .nil) (.node (se 800) .nil .nil)) (.node (se 416) (.node (se 672) .nil .nil) (.node (se 928) .nil .nil))) (.node (se 224) (.node (se 352) (.node (se 608) .nil .nil) (.node (se 864) .nil .nil)) (.node (se 480) (.node (se 736) .nil .nil) (.node (se 992) .nil .nil))))) (.node (se 48) (.node (se 80) (.node (se 144) (.node (se 272) (.node (se 528) (.node (se 1040) .nil .nil) .nil) (.node (se 784) .nil .nil)) (.node (se 400) (.node (se 656) .nil .nil) (.node (se 912) .nil .nil))) (.node (se 208) (.node (se 336) (.node (se 592) .nil .nil) (.node (se 848) .nil .nil)) (.node (se 464) (.node (se 720) .nil .nil) (.node (se 976) .nil .nil)))) (.node (se 112) (.node (se 176) (.node (se 304) (.node (se 560) .nil .nil) (.node (se 816) .nil .nil)) (.node (se 432) (.node (se 688) .nil .nil) (.node (se 944) .nil .nil))) (.node (se 240) (.node (se 368) (.node (se 624) .nil .nil) (.node (se 880) .nil .nil)) (.node (se 496) (.node (se 752) .nil .nil) (.node (se 1008) .nil .nil)))))) (.node (rit 256 0) (.node (se 40) (.node (se 72) (.node (se 136) (.node (se 264) (.node (se 520) (.node (se 1032) .nil .nil) .nil) (.node (se 776) .nil .nil)) (.node (se 392) (.node (se 648) .nil .nil) (.node (se 904) .nil .nil))) (.node (se 200) (.node (se 328) (.node (se 584) .nil .nil) (.node (se 840) .nil .nil)) (.node (se 456) (.node (se 712) .nil .nil) (.node (se 968) .nil .nil)))) (.node (se 104) (.node (se 168) (.node (se 296) (.node (se 552) .nil .nil) (.node (se 808) .nil .nil)) (.node (se 424) (.node (se 680) .nil .nil) (.node (se 936) .nil .nil))) (.node (se 232) (.node (se 360) (.node (se 616) .nil .nil) (.node (se 872) .nil .nil)) (.node (se 488) (.node (se 744) .nil .nil) (.node (se 1000) .nil .nil))))) (.node (se 56) (.node (se 88) (.node (se 152) (.node (se 280) (.node (se 536) (.node (se 1048) .nil .nil) .nil) (.node (se 792) .nil .nil)) (.node (se 408) (.node (se 664) .nil .nil) (.node (se 920) .nil .nil))) (.node (se 216) (.node (se 344) (.node (se 600) .nil .nil) (.node (se 856) .nil .nil)) (.node (se 472) (.node (se 728) .nil .nil) (.node (se 984) .nil .nil)))) (.node (se 120) (.node (se 184) (.node (se 312) (.node (se 568) .nil .nil) (.node (se 824) .nil .nil)) (.node (se 440) (.node (se 696) .nil .nil) (.node (se 952) .nil .nil))) (.node (se 248) (.node (se 376) (.node (se 632) .nil .nil) (.node (se 888) .nil .nil)) (.node (se 504) (.node (se 760) .nil .nil) (.node (se 1016) .nil .nil))))))) (.node (Pre.o_3 P) (.node (Pre.o_13 P) (.node (se 36) (.node (se 68) (.node (se 132) (.node (se 260) (.node (se 516) (.node (se 1028) .nil .nil) .nil) (.node (se 772) .nil .nil)) (.node (se 388) (.node (se 644) .nil .nil) (.node (se 900) .nil .nil))) (.node (se 196) (.node (se 324) (.node (se 580) .nil .nil) (.node (se 836) .nil .nil)) (.node (se 452) (.node (se 708) .nil .nil) (.node (se 964) .nil .nil)))) (.node (se 100) (.node (se 164) (.node (se 292) (.node (se 548) .nil .nil) (.node (se 804) .nil .nil)) (.node (se 420) (.node (se 676) .nil .nil) (.node (se 932) .nil .nil))) (.node (se 228) (.node (se 356) (.node (se 612) .nil .nil) (.node (se 868) .nil .nil)) (.node (se 484) (.node (se 740) .nil .nil) (.node (se 996) .nil .nil))))) (.node (se 52) (.node (se 84) (.node (se 148) (.node (se 276) (.node (se 532) (.node (se 1044) .nil .nil) .nil) (.node (se 788) .nil .nil)) (.node (se 404) (.node (se 660) .nil .nil) (.node (se 916) .nil .nil))) (.node (se 212) (.node (se 340) (.node (se 596) .nil .nil) (.node (se 852) .nil .nil)) (.node (se 468) (.node (se 724) .nil .nil) (.node (se 980) .nil .nil)))) (.node (se 116) (.node (se 180) (.node (se 308) (.node (se 564) .nil .nil) (.node (se 820) .nil .nil)) (.node (se 436) (.node (se 692) .nil .nil) (.node (se 948) .nil .nil))) (.node (se 244) (.node (se 372) (.node (se 628) .nil .nil) (.node (se 884) .nil .nil)) (.node (se 500) (.node (se 756) .nil .nil) (.node (se 1012) .nil .nil)))))) (.node (se 28) (.node (se 44) (.node (se 76) (.node (se 140) (.node (se 268) (.node (se 524) (.node (se 1036) .nil .nil) .nil) (.node (se 780) .nil .nil)) (.node (se 396) (.node (se 652) .nil .nil) (.node (se 908) .nil .nil))) (.node (se 204) (.node (se 332) (.node (se 588) .nil .nil) (.node (se 844) .nil .nil)) (.node (se 460) (.node (se 716) .nil .nil) (.node (se 972) .nil .nil)))) (.node (se 108) (.node (se 172) (.node (se 300) (.node (se 556) .nil .nil) (.node (se 812) .nil .nil)) (.node (se 428) (.node (se 684) .nil .nil) (.node (se 940) .nil .nil))) (.node (se 236) (.node (se 364) (.node (se 620) .nil .nil) (.node (se 876) .nil .nil)) (.node (se 492) (.node (se 748) .nil .nil) (.node (se 1004) .nil .nil))))) (.node (se 60) (.node (se 92) (.node (se 156) (.node (se 284) (.node (se 540) .nil .nil) (.node (se 796) .nil .nil)) (.node (se 412) (.node (se 668) .nil .nil) (.node (se 924) .nil .nil))) (.node (se 220) (.node (se 348) (.node (se 604) .nil .nil) (.node (se 860) .nil .nil)) (.node (se 476) (.node (se 732) .nil .nil) (.node (se 988) .nil .nil)))) (.node (se 124) (.node (se 188) (.node (se 316) (.node (se 572) .nil .nil) (.node (se 828) .nil .nil)) (.node (se 444) (.node (se 700) .nil .nil) (.node (se 956) .nil .nil))) (.node (se 252) (.node (se 380) (.node (se 636) .nil .nil) (.node (se 892) .nil .nil)) (.node (se 508) (.node (se 764) .nil .nil) (.node (se 1020) .nil .nil))))))))) (.node (PySem.W.boot_o_2 P) (.node (PySem.W.boot_o_4 P) (.node (PySem.W.boot_o_8 P) (.node (Pre.o_8 P) (.node tup0 (.node tup0 (.node tup0 (.node tup0 (.node tup0 (.node tup0 .nil .nil) .nil) (.node tup0 .nil .nil)) (.node tup0 (.node tup0 .nil .nil) (.node tup0 .nil .nil))) (.node tup0 (.node tup0 (.node tup0 .nil .nil) (.node tup0 .nil .nil)) (.node tup0 (.node tup0 .nil .nil) (.node tup0 .nil .nil)))) (.node tup0 (.node tup0 (.node tup0 (.node tup0 .nil .nil) (.node tup0 .nil .nil)) (.node tup0 (.node tup0 .nil .nil) (.node tup0 .nil .nil))) (.node tup0 (.node tup0 (.node tup0 .nil .nil) (.node tup0 .nil .nil)) (.node tup0 (.node tup0 .nil .nil) (.node tup0 .nil .nil))))) (.node tup0 (.node tup0 (.node tup0 (.node tup0 (.node tup0 (.node tup0 .nil .nil) .nil) (.node tup0 .nil .nil)) (.node tup0 (.node tup0 .nil .nil) (.node tup0 .nil .nil))) (.node tup0 (.node tup0 (.node tup0 .nil .nil) (.node tup0 .nil .nil)) (.node tup0 (.node tup0 .nil .nil) (.node tup0 .nil .nil)))) (.node tup0 (.node tup0 (.node tup0 (.node tup0 .nil .nil) (.node tup0 .nil .nil)) (.node tup0 (.node tup0 .nil .nil) (.node tup0 .nil .nil))) (.node tup0 (.node tup0 (.node tup0 .nil .nil) (.node tup0 .nil .nil)) (.node tup0 (.node tup0 .nil .nil) (.node tup0 .nil .nil)))))) (.node r256 (.node tup0 (.node tup0 (.node tup0 (.node tup0 (.node tup0 (.node tup0 .nil .nil) .nil) (.node tup0 .nil .nil)) (.node tup0 (.node tup0 .nil .nil) (.node tup0 .nil .nil))) (.node tup0 (.node tup0 (.node tup0 .nil .nil) (.node tup0 .nil .nil)) (.node tup0 (.node tup0 .nil .nil) (.node tup0 .nil .nil)))) (.node tup0 (.node tup0 (.node tup0 (.node tup0 .nil .nil) (.node tup0 .nil .nil)) (.node tup0 (.node tup0 .nil .nil) (.node tup0 .nil .nil))) (.node tup0 (.node tup0 (.node tup0 .nil .nil) (.node tup0 .nil .nil)) (.node tup0 (.node tup0 .nil .nil) (.node tup0 .nil .nil))))) (.node tup0 (.node tup0 (.node tup0 (.node tup0 (.node tup0 (.node tup0 .nil .nil) .nil) (.node tup0 .nil .nil)) (.node tup0 (.node tup0 .nil .nil) (.node tup0 .nil .nil))) (.node tup0 (.node tup0 (.node tup0 .nil .nil) (.node tup0 .nil .nil)) (.node tup0 (.node tup0 .nil .nil) (.node tup0 .nil .nil)))) (.node tup0 (.node tup0 (.node tup0 (.node tup0 .nil .nil) (.node tup0 .nil .nil)) (.node tup0 (.node tup0 .nil .nil) (.node tup0 .nil .nil))) (.node tup0 (.node tup0 (.node tup0 .nil .nil) (.node tup0 .nil .nil)) (.node tup0 (.node tup0 .nil .nil) (.node tup0 .nil .nil))))))) (.node (Pre.o_6 P) (.node (Pre.o_12 P) (.node tup0 (.node tup0 (.node tup0 (.node tup0 (.node tup0 (.node tup0 .nil .nil) .nil) (.node tup0 .nil .nil)) (.node tup0 (.node tup0 .nil .nil) (.node tup0 .nil .nil))) (.node tup0 (.node tup0 (.node tup0 .nil .nil) (.node tup0 .nil .nil)) (.node tup0 (.node tup0 .nil .nil) (.node tup0 .nil .nil)))) (.node tup0 (.node tup0 (.node tup0 (.node tup0 .nil .nil) (.node tup0 .nil .nil)) (.node tup0 (.node tup0 .nil .nil) (.node tup0 .nil .nil))) (.node tup0 (.node tup0 (.node tup0 .nil .nil) (.node tup0 .nil .nil)) (.node tup0 (.node tup0 .nil .nil) (.node tup0 .nil .nil))))) (.node tup0 (.node tup0 (.node tup0 (.node tup0 (.node tup0 (.node tup0 .nil .nil) .nil) (.node tup0 .nil .nil)) (.node tup0 (.node tup0 .nil .nil) (.node tup0 .nil .nil))) (.node tup0 (.node tup0 (.node tup0 .nil .nil) (.node tup0 .nil .nil)) (.node tup0 (.node tup0 .nil .nil) (.node tup0 .nil .nil)))) (.node tup0 (.node tup0 (.node tup0 (.node tup0 .nil .nil) (.node tup0 .nil .nil)) (.node tup0 (.node tup0 .nil .nil) (.node tup0 .nil .nil))) (.node tup0 (.node tup0 (.node tup0 .nil .nil) (.node tup0 .nil .nil)) (.node tup0 (.node tup0 .nil .nil) (.node tup0 .nil .nil)))))) (.node tup0 (.node tup0 (.node tup0 (.node tup0 (.node tup0 (.node tup0 (.node tup0 .nil .nil) .nil) (.node tup0 .nil .nil)) (.node tup0 (.node tup0 .nil .nil) (.node tup0 .nil .nil))) (.node tup0 (.node tup0 (.node tup0 .nil .nil) (.node tup0 .nil .nil)) (.node tup0 (.node tup0 .nil .nil) (.node tup0 .nil .nil)))) (.node tup0 (.node tup0 (.node tup0 (.node tup0 .nil .nil) (.node tup0 .nil .nil)) (.node tup0 (.node tup0 .nil .nil) (.node tup0 .nil .nil))) (.node tup0 (.node tup0 (.node tup0 .nil .nil) (.node tup0 .nil .nil)) (.node tup0 (.node tup0 .nil .nil) (.node tup0 .nil .nil))))) (.node tup0 (.node tup0 (.node tup0 (.node tup0 (.node tup0 .nil .nil) (.node tup0 .nil .nil)) (.node tup0 (.node tup0 .nil .nil) (.node tup0 .nil .nil))) (.node tup0 (.node tup0 (.node tup0 .nil .nil) (.node tup0 .nil .nil)) (.node tup0 (.node tup0 .nil .nil) (.node tup0 .nil .nil)))) (.node tup0 (.node tup0 (.node tup0 (.node tup0 .nil .nil) (.node tup0 .nil .nil)) (.node tup0 (.node tup0 .nil .nil) (.node tup0 .nil .nil))) (.node tup0 (.node tup0 (.node tup0 .nil .nil) (.node tup0 .nil .nil)) (.node tup0 (.node tup0 .nil .nil) (.node tup0 .nil .nil)))))))) (.node (PySem.W.boot_o_6 P) (.node (PySem.W.boot_o_10 P) (.node (Pre.o_10 P) (.node (rg 335) (.node (rg 853) (.node (rg 1903) (.node (rg 4025) (.node (rg 8249) (.node (rg 16699) .nil .nil) .nil) (.node (rg 12475) .nil .nil)) (.node (rg 6127) (.node (rg 10353) .nil .nil) (.node (rg 14577) .nil .nil))) (.node (rg 2959) (.node (rg 5077) (.node (rg 9303) .nil .nil) (.node (rg 13527) .nil .nil)) (.node (rg 7183) (.node (rg 11409) .nil .nil) (.node (rg 15633) .nil .nil)))) (.node (rg 1377) (.node (rg 2433) (.node (rg 4559) (.node (rg 8785) .nil .nil) (.node (rg 13009) .nil .nil)) (.node (rg 6657) (.node (rg 10883) .nil .nil) (.node (rg 15107) .nil .nil))) (.node (rg 3491) (.node (rg 5601) (.node (rg 9827) .nil .nil) (.node (rg 14051) .nil .nil)) (.node (rg 7715) (.node (rg 11941) .nil .nil) (.node (rg 16165) .nil .nil))))) (.node (rg 593) (.node (rg 1115) (.node (rg 2169) (.node (rg 4295) (.node (rg 8519) (.node (rg 16969) .nil .nil) .nil) (.node (rg 12745) .nil .nil)) (.node (rg 6393) (.node (rg 10619) .nil .nil) (.node (rg 14843) .nil .nil))) (.node (rg 3225) (.node (rg 5339) (.node (rg 9565) .nil .nil) (.node (rg 13789) .nil .nil)) (.node (rg 7449) (.node (rg 11675) .nil .nil) (.node (rg 15899) .nil .nil)))) (.node (rg 1639) (.node (rg 2695) (.node (rg 4817) (.node (rg 9043) .nil .nil) (.node (rg 13267) .nil .nil)) (.node (rg 6919) (.node (rg 11145) .nil .nil) (.node (rg 15369) .nil .nil))) (.node (rg 3757) (.node (rg 5863) (.node (rg 10089) .nil .nil) (.node (rg 14313) .nil .nil)) (.node (rg 7981) (.node (rg 12207) .nil .nil) (.node (rg 16431) .nil .nil)))))) (.node (rg 209) (.node (rg 465) (.node (rg 985) (.node (rg 2037) (.node (rg 4161) (.node (rg 8385) (.node (rg 16833) .nil .nil) .nil) (.node (rg 12609) .nil .nil)) (.node (rg 6261) (.node (rg 10485) .nil .nil) (.node (rg 14709) .nil .nil))) (.node (rg 3093) (.node (rg 5209) (.node (rg 9433) .nil .nil) (.node (rg 13657) .nil .nil)) (.node (rg 7317) (.node (rg 11541) .nil .nil) (.node (rg 15765) .nil .nil)))) (.node (rg 1509) (.node (rg 2565) (.node (rg 4689) (.node (rg 8913) .nil .nil) (.node (rg 13137) .nil .nil)) (.node (rg 6789) (.node (rg 11013) .nil .nil) (.node (rg 15237) .nil .nil))) (.node (rg 3625) (.node (rg 5733) (.node (rg 9957) .nil .nil) (.node (rg 14181) .nil .nil)) (.node (rg 7849) (.node (rg 12073) .nil .nil) (.node (rg 16297) .nil .nil))))) (.node (rg 725) (.node (rg 1249) (.node (rg 2305) (.node (rg 4433) (.node (rg 8657) (.node tup0 .nil .nil) .nil) (.node (rg 12881) .nil .nil)) (.node (rg 6529) (.node (rg 10753) .nil .nil) (.node (rg 14977) .nil .nil))) (.node (rg 3361) (.node (rg 5473) (.node (rg 9697) .nil .nil) (.node (rg 13921) .nil .nil)) (.node (rg 7585) (.node (rg 11809) .nil .nil) (.node (rg 16033) .nil .nil)))) (.node (rg 1773) (.node (rg 2829) (.node (rg 4949) (.node (rg 9173) .nil .nil) (.node (rg 13397) .nil .nil)) (.node (rg 7053) (.node (rg 11277) .nil .nil) (.node (rg 15501) .nil .nil))) (.node (rg 3893) (.node (rg 5997) (.node (rg 10221) .nil .nil) (.node (rg 14445) .nil .nil)) (.node (rg 8117) (.node (rg 12341) .nil .nil) (.node (rg 16565) .nil .nil))))))) (.node (Pre.o_4 P) (.node (lcE P) (.node (rg 399) (.node (rg 918) (.node (rg 1969) (.node (rg 4092) (.node (rg 8317) (.node (rg 16766) .nil .nil) .nil) (.node (rg 12541) .nil .nil)) (.node (rg 6194) (.node (rg 10418) .nil .nil) (.node (rg 14643) .nil .nil))) (.node (rg 3025) (.node (rg 5143) (.node (rg 9367) .nil .nil) (.node (rg 13592) .nil .nil)) (.node (rg 7250) (.node (rg 11474) .nil .nil) (.node (rg 15699) .nil .nil)))) (.node (rg 1442) (.node (rg 2498) (.node (rg 4624) (.node (rg 8848) .nil .nil) (.node (rg 13073) .nil .nil)) (.node (rg 6723) (.node (rg 10947) .nil .nil) (.node (rg 15172) .nil .nil))) (.node (rg 3557) (.node (rg 5667) (.node (rg 9891) .nil .nil) (.node (rg 14116) .nil .nil)) (.node (rg 7782) (.node (rg 12006) .nil .nil) (.node (rg 16231) .nil .nil))))) (.node (rg 658) (.node (rg 1181) (.node (rg 2236) (.node (rg 4363) (.node (rg 8588) (.node (rg 17037) .nil .nil) .nil) (.node (rg 12812) .nil .nil)) (.node (rg 6461) (.node (rg 10685) .nil .nil) (.node (rg 14910) .nil .nil))) (.node (rg 3292) (.node (rg 5406) (.node (rg 9630) .nil .nil) (.node (rg 13855) .nil .nil)) (.node (rg 7517) (.node (rg 11741) .nil .nil) (.node (rg 15966) .nil .nil)))) (.node (rg 1705) (.node (rg 2761) (.node (rg 4883) (.node (rg 9107) .nil .nil) (.node (rg 13332) .nil .nil)) (.node (rg 6986) (.node (rg 11210) .nil .nil) (.node (rg 15435) .nil .nil))) (.node (rg 3824) (.node (rg 5930) (.node (rg 10154) .nil .nil) (.node (rg 14379) .nil .nil)) (.node (rg 8049) (.node (rg 12273) .nil .nil) (.node (rg 16498) .nil .nil)))))) (.node (rg 271) (.node (rg 528) (.node (rg 1049) (.node (rg 2102) (.node (rg 4227) (.node (rg 8452) (.node (rg 16901) .nil .nil) .nil) (.node (rg 12676) .nil .nil)) (.node (rg 6327) (.node (rg 10551) .nil .nil) (.node (rg 14776) .nil .nil))) (.node (rg 3158) (.node (rg 5274) (.node (rg 9498) .nil .nil) (.node (rg 13723) .nil .nil)) (.node (rg 7383) (.node (rg 11607) .nil .nil) (.node (rg 15832) .nil .nil)))) (.node (rg 1573) (.node (rg 2629) (.node (rg 4753) (.node (rg 8977) .nil .nil) (.node (rg 13202) .nil .nil)) (.node (rg 6854) (.node (rg 11078) .nil .nil) (.node (rg 15303) .nil .nil))) (.node (rg 3690) (.node (rg 5798) (.node (rg 10022) .nil .nil) (.node (rg 14247) .nil .nil)) (.node (rg 7915) (.node (rg 12139) .nil .nil) (.node (rg 16364) .nil .nil))))) (.node (rg 788) (.node (rg 1312) (.node (rg 2368) (.node (rg 4496) (.node (rg 8720) .nil .nil) (.node (rg 12945) .nil .nil)) (.node (rg 6593) (.node (rg 10817) .nil .nil) (.node (rg 15042) .nil .nil))) (.node (rg 3425) (.node (rg 5537) (.node (rg 9761) .nil .nil) (.node (rg 13986) .nil .nil)) (.node (rg 7650) (.node (rg 11874) .nil .nil) (.node (rg 16099) .nil .nil)))) (.node (rg 1837) (.node (rg 2893) (.node (rg 5013) (.node (rg 9237) .nil .nil) (.node (rg 13462) .nil .nil)) (.node (rg 7118) (.node (rg 11342) .nil .nil) (.node (rg 15567) .nil .nil))) (.node (rg 3958) (.node (rg 6062) (.node (rg 10286) .nil .nil) (.node (rg 14511) .nil .nil)) (.node (rg 8183) (.node (rg 12407) .nil .nil) (.node (rg 16632) .nil .nil))))))))))
noncomputable def sE (P : Params) (os : OsState) : SharedT := shr (tE P) 1052 17102 os
noncomputable def st4 : List Stmt := (PySem.Challenge.pw_ui0507_06.main.body).drop 4
noncomputable def runW (p : Program) (w : World) (n : Nat) (s : SharedT) (t : Thread) : Option (Flow × SharedT × Code × Pos) := PySem.W.Fast.tw10110043849684766642 PySem.W.Fast.tw14364793385576792824 p w 11 (some (Value.ref 6)) 1 n s t
theorem runW_eq {p : Program} {w : World} {n : Nat} {s : SharedT} {t : Thread} : segRunT treeTable p w 11 (some (Value.ref 6)) 1 n s t = runW p w n s t := by
  unfold runW
  rw [← PySem.W.Fast.te10110043849684766642, ← PySem.W.Fast.te14364793385576792824]
noncomputable def thr4 (b : List Stmt) : Thread := piecesOf st4 Pre.env_1 (Code.body b Pre.env_1) { line := 14, col := 0, endLine := 14, endCol := 6 } [topFrame { line := 0, col := 0, endLine := 0, endCol := 0 }]
def wP (P : Params) : World := { draws := fun _ _ => 0, params := P }
noncomputable def tF (P : Params) : BT := match runW PySem.Challenge.pw_ui0507_06 (wF (wP P)) 112 (sE P {}) (thr4 []) with | some r => r.2.1.tree | none => tE P
noncomputable def sF (P : Params) (os : OsState) : SharedT := shr (tF P) 1074 17139 os
theorem last (p : Program) (w : World) (b : List Stmt) (os : OsState) : goW p (wF w) 37 (a255 w.params os) (thrA p w b os) = some (b255 w.params os, thrB p w b os (a255 w.params os)) ∧
    goW p (wT w) 37 (a255 w.params os) (thrA p w b os) = some (b255 w.params os, thrB p w b os (a255 w.params os)) ∧
    runW p w 517 (b255 w.params os) (thrB p w b os (a255 w.params os)) = some (.next, sE w.params os, Code.body b Pre.env_1, { line := 14, col := 0, endLine := 14, endCol := 6 }) := ⟨by kernel_rfl, by kernel_rfl, by kernel_rfl⟩
theorem start_ (p : Program) (w : World) (b : List Stmt) (os : OsState) : goW p (wF w) 92 (st0 w.params os) (thr0 b) = some (a0 w.params os, thrA p w b os) ∧ goW p (wT w) 92 (st0 w.params os) (thr0 b) = some (a0 w.params os, thrA p w b os) := ⟨by kernel_rfl, by kernel_rfl⟩
theorem rest (p : Program) (w : World) (b : List Stmt) (os : OsState) : runW p (wF w) 112 (sE w.params os) (thr4 b) = some (.next, sF w.params os, Code.body b Pre.env_1, { line := 25, col := 0, endLine := 38, endCol := 62 }) ∧ runW p (wT w) 112 (sE w.params os) (thr4 b) = some (.next, sF w.params os, Code.body b Pre.env_1, { line := 25, col := 0, endLine := 38, endCol := 62 }) := ⟨by kernel_rfl, by kernel_rfl⟩
def GoS (p : Program) (w : World) (n : Nat) (s : SharedT) (t : Thread) (s' : SharedT) (t' : Thread) : Prop := segGo treeTable p w 11 (some (Value.ref 6)) 1 n s.abs t = some (s'.abs, t')
theorem sg_trans {tb : String → Option Builtin} {p : Program} {w : World} {n₀ : Nat} {ann : Option Value} {b : Nat} : ∀ {n m : Nat} {s s' : Shared} {t t' : Thread} {r : Shared × Thread}, segGo tb p w n₀ ann b n s t = some (s', t') → segGo tb p w n₀ ann b m s' t' = some r → segGo tb p w n₀ ann b (n + m) s t = some r
  | 0, m, s, s', t, t', r, h, k => by
    obtain ⟨rfl, rfl⟩ : s = s' ∧ t = t' := by simpa [segGo] using h
    rw [Nat.zero_add]; exact k
  | n + 1, m, s, s', t, t', r, h, k => by
    rw [show n + 1 + m = n + m + 1 by omega]
    unfold segGo at h ⊢
    cases he : endAt b t with
    | some f => rw [he] at h; cases h
    | none =>
      rw [he] at h
      cases hk : stepOk n₀ ann t with
      | false => rw [hk] at h; cases h
      | true =>
        rw [hk] at h
        cases hs : step (denote tb) p w s t with
        | halt o s₂ => rw [hs] at h; cases h
        | go s₂ t₂ => rw [hs] at h; exact sg_trans h k
theorem GoS.trans {p : Program} {w : World} {n m : Nat} {s s' s'' : SharedT} {t t' t'' : Thread} (h : GoS p w n s t s' t') (k : GoS p w m s' t' s'' t'') : GoS p w (n + m) s t s'' t'' := sg_trans h k
theorem GoS.run {p : Program} {w : World} {n N : Nat} {s s' : SharedT} {t t' : Thread} {r : Flow × Shared × Code × Pos} (h : GoS p w n s t s' t') (k : segRun treeTable p w 11 (some (Value.ref 6)) 1 N s'.abs t' = some r) : segRun treeTable p w 11 (some (Value.ref 6)) 1 (n + N) s.abs t = some r := seg_go h k
theorem run1 {p : Program} {w : World} {n : Nat} {s s' : SharedT} {t : Thread} {f : Flow} {c : Code} {q : Pos} (h : runW p w n s t = some (f, s', c, q)) : segRun treeTable p w 11 (some (Value.ref 6)) 1 n s.abs t = some (f, s'.abs, c, q) := segRun_of (runW_eq.trans h)
theorem one_ {p : Program} {w : World} {n : Nat} {s s' : SharedT} {t t' : Thread} (h : goW p w n s t = some (s', t')) : GoS p w n s t s' t' := segGo_of (goW_eq.trans h)
theorem run2 {p : Program} {w : World} {n : Nat} {s s' : SharedT} {t : Thread} {f : Flow} {c : Code} {q : Pos} (hF : runW p (wF w) n s t = some (f, s', c, q)) (hT : runW p (wT w) n s t = some (f, s', c, q)) : segRun treeTable p w 11 (some (Value.ref 6)) 1 n s.abs t = some (f, s'.abs, c, q) := by
  refine run1 ?_
  have e := World.withFollow_self w "special-get-raises"
  cases h : w.params.followText "special-get-raises" with
  | false => rw [h] at e; unfold wF at hF; rw [e] at hF; exact hF
  | true => rw [h] at e; unfold wT at hT; rw [e] at hT; exact hT
theorem two_ {p : Program} {w : World} {n : Nat} {s s' : SharedT} {t t' : Thread} (hF : goW p (wF w) n s t = some (s', t')) (hT : goW p (wT w) n s t = some (s', t')) : GoS p w n s t s' t' := by
  refine one_ ?_
  have e := World.withFollow_self w "special-get-raises"
  cases h : w.params.followText "special-get-raises" with
  | false => rw [h] at e; unfold wF at hF; rw [e] at hF; exact hF
  | true => rw [h] at e; unfold wT at hT; rw [e] at hT; exact hT
theorem h0 (p : Program) (w : World) (b : List Stmt) (os : OsState) : GoS p w 4263 (a0 w.params os) (thrA p w b os) (a8 w.params os) (thrA p w b os) := by
  obtain ⟨f0, t0, v0, f1, t1, v1, f2, t2, v2, f3, t3, v3, f4, t4, v4, f5, t5, v5, f6, t6, v6, f7, t7, v7⟩ := g0 p w b os
  exact (((((((((((((((two_ f0 t0).trans (one_ v0)).trans (two_ f1 t1)).trans (one_ v1)).trans (two_ f2 t2)).trans (one_ v2)).trans (two_ f3 t3)).trans (one_ v3)).trans (two_ f4 t4)).trans (one_ v4)).trans (two_ f5 t5)).trans (one_ v5)).trans (two_ f6 t6)).trans (one_ v6)).trans (two_ f7 t7)).trans (one_ v7)
theorem h8 (p : Program) (w : World) (b : List Stmt) (os : OsState) : GoS p w 4309 (a8 w.params os) (thrA p w b os) (a16 w.params os) (thrA p w b os) := by
  obtain ⟨f8, t8, v8, f9, t9, v9, f10, t10, v10, f11, t11, v11, f12, t12, v12, f13, t13, v13, f14, t14, v14, f15, t15, v15⟩ := g8 p w b os
  exact (((((((((((((((two_ f8 t8).trans (one_ v8)).trans (two_ f9 t9)).trans (one_ v9)).trans (two_ f10 t10)).trans (one_ v10)).trans (two_ f11 t11)).trans (one_ v11)).trans (two_ f12 t12)).trans (one_ v12)).trans (two_ f13 t13)).trans (one_ v13)).trans (two_ f14 t14)).trans (one_ v14)).trans (two_ f15 t15)).trans (one_ v15)
theorem h16 (p : Program) (w : World) (b : List Stmt) (os : OsState) : GoS p w 4309 (a16 w.params os) (thrA p w b os) (a24 w.params os) (thrA p w b os) := by
  obtain ⟨f16, t16, v16, f17, t17, v17, f18, t18, v18, f19, t19, v19, f20, t20, v20, f21, t21, v21, f22, t22, v22, f23, t23, v23⟩ := g16 p w b os
  exact (((((((((((((((two_ f16 t16).trans (one_ v16)).trans (two_ f17 t17)).trans (one_ v17)).trans (two_ f18 t18)).trans (one_ v18)).trans (two_ f19 t19)).trans (one_ v19)).trans (two_ f20 t20)).trans (one_ v20)).trans (two_ f21 t21)).trans (one_ v21)).trans (two_ f22 t22)).trans (one_ v22)).trans (two_ f23 t23)).trans (one_ v23)
theorem h24 (p : Program) (w : World) (b : List Stmt) (os : OsState) : GoS p w 4364 (a24 w.params os) (thrA p w b os) (a32 w.params os) (thrA p w b os) := by
  obtain ⟨f24, t24, v24, f25, t25, v25, f26, t26, v26, f27, t27, v27, f28, t28, v28, f29, t29, v29, f30, t30, v30, f31, t31, v31⟩ := g24 p w b os
  exact (((((((((((((((two_ f24 t24).trans (one_ v24)).trans (two_ f25 t25)).trans (one_ v25)).trans (two_ f26 t26)).trans (one_ v26)).trans (two_ f27 t27)).trans (one_ v27)).trans (two_ f28 t28)).trans (one_ v28)).trans (two_ f29 t29)).trans (one_ v29)).trans (two_ f30 t30)).trans (one_ v30)).trans (two_ f31 t31)).trans (one_ v31)
theorem h32 (p : Program) (w : World) (b : List Stmt) (os : OsState) : GoS p w 4309 (a32 w.params os) (thrA p w b os) (a40 w.params os) (thrA p w b os) := by
  obtain ⟨f32, t32, v32, f33, t33, v33, f34, t34, v34, f35, t35, v35, f36, t36, v36, f37, t37, v37, f38, t38, v38, f39, t39, v39⟩ := g32 p w b os
  exact (((((((((((((((two_ f32 t32).trans (one_ v32)).trans (two_ f33 t33)).trans (one_ v33)).trans (two_ f34 t34)).trans (one_ v34)).trans (two_ f35 t35)).trans (one_ v35)).trans (two_ f36 t36)).trans (one_ v36)).trans (two_ f37 t37)).trans (one_ v37)).trans (two_ f38 t38)).trans (one_ v38)).trans (two_ f39 t39)).trans (one_ v39)
theorem h40 (p : Program) (w : World) (b : List Stmt) (os : OsState) : GoS p w 4364 (a40 w.params os) (thrA p w b os) (a48 w.params os) (thrA p w b os) := by
  obtain ⟨f40, t40, v40, f41, t41, v41, f42, t42, v42, f43, t43, v43, f44, t44, v44, f45, t45, v45, f46, t46, v46, f47, t47, v47⟩ := g40 p w b os
  exact (((((((((((((((two_ f40 t40).trans (one_ v40)).trans (two_ f41 t41)).trans (one_ v41)).trans (two_ f42 t42)).trans (one_ v42)).trans (two_ f43 t43)).trans (one_ v43)).trans (two_ f44 t44)).trans (one_ v44)).trans (two_ f45 t45)).trans (one_ v45)).trans (two_ f46 t46)).trans (one_ v46)).trans (two_ f47 t47)).trans (one_ v47)
theorem h48 (p : Program) (w : World) (b : List Stmt) (os : OsState) : GoS p w 4364 (a48 w.params os) (thrA p w b os) (a56 w.params os) (thrA p w b os) := by
  obtain ⟨f48, t48, v48, f49, t49, v49, f50, t50, v50, f51, t51, v51, f52, t52, v52, f53, t53, v53, f54, t54, v54, f55, t55, v55⟩ := g48 p w b os
  exact (((((((((((((((two_ f48 t48).trans (one_ v48)).trans (two_ f49 t49)).trans (one_ v49)).trans (two_ f50 t50)).trans (one_ v50)).trans (two_ f51 t51)).trans (one_ v51)).trans (two_ f52 t52)).trans (one_ v52)).trans (two_ f53 t53)).trans (one_ v53)).trans (two_ f54 t54)).trans (one_ v54)).trans (two_ f55 t55)).trans (one_ v55)
theorem h56 (p : Program) (w : World) (b : List Stmt) (os : OsState) : GoS p w 4420 (a56 w.params os) (thrA p w b os) (a64 w.params os) (thrA p w b os) := by
  obtain ⟨f56, t56, v56, f57, t57, v57, f58, t58, v58, f59, t59, v59, f60, t60, v60, f61, t61, v61, f62, t62, v62, f63, t63, v63⟩ := g56 p w b os
  exact (((((((((((((((two_ f56 t56).trans (one_ v56)).trans (two_ f57 t57)).trans (one_ v57)).trans (two_ f58 t58)).trans (one_ v58)).trans (two_ f59 t59)).trans (one_ v59)).trans (two_ f60 t60)).trans (one_ v60)).trans (two_ f61 t61)).trans (one_ v61)).trans (two_ f62 t62)).trans (one_ v62)).trans (two_ f63 t63)).trans (one_ v63)
theorem h64 (p : Program) (w : World) (b : List Stmt) (os : OsState) : GoS p w 4253 (a64 w.params os) (thrA p w b os) (a72 w.params os) (thrA p w b os) := by
  obtain ⟨f64, t64, v64, f65, t65, v65, f66, t66, v66, f67, t67, v67, f68, t68, v68, f69, t69, v69, f70, t70, v70, f71, t71, v71⟩ := g64 p w b os
  exact (((((((((((((((two_ f64 t64).trans (one_ v64)).trans (two_ f65 t65)).trans (one_ v65)).trans (two_ f66 t66)).trans (one_ v66)).trans (two_ f67 t67)).trans (one_ v67)).trans (two_ f68 t68)).trans (one_ v68)).trans (two_ f69 t69)).trans (one_ v69)).trans (two_ f70 t70)).trans (one_ v70)).trans (two_ f71 t71)).trans (one_ v71)
theorem h72 (p : Program) (w : World) (b : List Stmt) (os : OsState) : GoS p w 4308 (a72 w.params os) (thrA p w b os) (a80 w.params os) (thrA p w b os) := by
  obtain ⟨f72, t72, v72, f73, t73, v73, f74, t74, v74, f75, t75, v75, f76, t76, v76, f77, t77, v77, f78, t78, v78, f79, t79, v79⟩ := g72 p w b os
  exact (((((((((((((((two_ f72 t72).trans (one_ v72)).trans (two_ f73 t73)).trans (one_ v73)).trans (two_ f74 t74)).trans (one_ v74)).trans (two_ f75 t75)).trans (one_ v75)).trans (two_ f76 t76)).trans (one_ v76)).trans (two_ f77 t77)).trans (one_ v77)).trans (two_ f78 t78)).trans (one_ v78)).trans (two_ f79 t79)).trans (one_ v79)
theorem h80 (p : Program) (w : World) (b : List Stmt) (os : OsState) : GoS p w 4308 (a80 w.params os) (thrA p w b os) (a88 w.params os) (thrA p w b os) := by
  obtain ⟨f80, t80, v80, f81, t81, v81, f82, t82, v82, f83, t83, v83, f84, t84, v84, f85, t85, v85, f86, t86, v86, f87, t87, v87⟩ := g80 p w b os
  exact (((((((((((((((two_ f80 t80).trans (one_ v80)).trans (two_ f81 t81)).trans (one_ v81)).trans (two_ f82 t82)).trans (one_ v82)).trans (two_ f83 t83)).trans (one_ v83)).trans (two_ f84 t84)).trans (one_ v84)).trans (two_ f85 t85)).trans (one_ v85)).trans (two_ f86 t86)).trans (one_ v86)).trans (two_ f87 t87)).trans (one_ v87)
theorem h88 (p : Program) (w : World) (b : List Stmt) (os : OsState) : GoS p w 4364 (a88 w.params os) (thrA p w b os) (a96 w.params os) (thrA p w b os) := by
  obtain ⟨f88, t88, v88, f89, t89, v89, f90, t90, v90, f91, t91, v91, f92, t92, v92, f93, t93, v93, f94, t94, v94, f95, t95, v95⟩ := g88 p w b os
  exact (((((((((((((((two_ f88 t88).trans (one_ v88)).trans (two_ f89 t89)).trans (one_ v89)).trans (two_ f90 t90)).trans (one_ v90)).trans (two_ f91 t91)).trans (one_ v91)).trans (two_ f92 t92)).trans (one_ v92)).trans (two_ f93 t93)).trans (one_ v93)).trans (two_ f94 t94)).trans (one_ v94)).trans (two_ f95 t95)).trans (one_ v95)
theorem h96 (p : Program) (w : World) (b : List Stmt) (os : OsState) : GoS p w 4308 (a96 w.params os) (thrA p w b os) (a104 w.params os) (thrA p w b os) := by
  obtain ⟨f96, t96, v96, f97, t97, v97, f98, t98, v98, f99, t99, v99, f100, t100, v100, f101, t101, v101, f102, t102, v102, f103, t103, v103⟩ := g96 p w b os
  exact (((((((((((((((two_ f96 t96).trans (one_ v96)).trans (two_ f97 t97)).trans (one_ v97)).trans (two_ f98 t98)).trans (one_ v98)).trans (two_ f99 t99)).trans (one_ v99)).trans (two_ f100 t100)).trans (one_ v100)).trans (two_ f101 t101)).trans (one_ v101)).trans (two_ f102 t102)).trans (one_ v102)).trans (two_ f103 t103)).trans (one_ v103)
theorem h104 (p : Program) (w : World) (b : List Stmt) (os : OsState) : GoS p w 4364 (a104 w.params os) (thrA p w b os) (a112 w.params os) (thrA p w b os) := by
  obtain ⟨f104, t104, v104, f105, t105, v105, f106, t106, v106, f107, t107, v107, f108, t108, v108, f109, t109, v109, f110, t110, v110, f111, t111, v111⟩ := g104 p w b os
  exact (((((((((((((((two_ f104 t104).trans (one_ v104)).trans (two_ f105 t105)).trans (one_ v105)).trans (two_ f106 t106)).trans (one_ v106)).trans (two_ f107 t107)).trans (one_ v107)).trans (two_ f108 t108)).trans (one_ v108)).trans (two_ f109 t109)).trans (one_ v109)).trans (two_ f110 t110)).trans (one_ v110)).trans (two_ f111 t111)).trans (one_ v111)
theorem h112 (p : Program) (w : World) (b : List Stmt) (os : OsState) : GoS p w 4364 (a112 w.params os) (thrA p w b os) (a120 w.params os) (thrA p w b os) := by
  obtain ⟨f112, t112, v112, f113, t113, v113, f114, t114, v114, f115, t115, v115, f116, t116, v116, f117, t117, v117, f118, t118, v118, f119, t119, v119⟩ := g112 p w b os
  exact (((((((((((((((two_ f112 t112).trans (one_ v112)).trans (two_ f113 t113)).trans (one_ v113)).trans (two_ f114 t114)).trans (one_ v114)).trans (two_ f115 t115)).trans (one_ v115)).trans (two_ f116 t116)).trans (one_ v116)).trans (two_ f117 t117)).trans (one_ v117)).trans (two_ f118 t118)).trans (one_ v118)).trans (two_ f119 t119)).trans (one_ v119)
theorem h120 (p : Program) (w : World) (b : List Stmt) (os : OsState) : GoS p w 4420 (a120 w.params os) (thrA p w b os) (a128 w.params os) (thrA p w b os) := by
  obtain ⟨f120, t120, v120, f121, t121, v121, f122, t122, v122, f123, t123, v123, f124, t124, v124, f125, t125, v125, f126, t126, v126, f127, t127, v127⟩ := g120 p w b os
  exact (((((((((((((((two_ f120 t120).trans (one_ v120)).trans (two_ f121 t121)).trans (one_ v121)).trans (two_ f122 t122)).trans (one_ v122)).trans (two_ f123 t123)).trans (one_ v123)).trans (two_ f124 t124)).trans (one_ v124)).trans (two_ f125 t125)).trans (one_ v125)).trans (two_ f126 t126)).trans (one_ v126)).trans (two_ f127 t127)).trans (one_ v127)
theorem h128 (p : Program) (w : World) (b : List Stmt) (os : OsState) : GoS p w 4253 (a128 w.params os) (thrA p w b os) (a136 w.params os) (thrA p w b os) := by
  obtain ⟨f128, t128, v128, f129, t129, v129, f130, t130, v130, f131, t131, v131, f132, t132, v132, f133, t133, v133, f134, t134, v134, f135, t135, v135⟩ := g128 p w b os
  exact (((((((((((((((two_ f128 t128).trans (one_ v128)).trans (two_ f129 t129)).trans (one_ v129)).trans (two_ f130 t130)).trans (one_ v130)).trans (two_ f131 t131)).trans (one_ v131)).trans (two_ f132 t132)).trans (one_ v132)).trans (two_ f133 t133)).trans (one_ v133)).trans (two_ f134 t134)).trans (one_ v134)).trans (two_ f135 t135)).trans (one_ v135)
theorem h136 (p : Program) (w : World) (b : List Stmt) (os : OsState) : GoS p w 4308 (a136 w.params os) (thrA p w b os) (a144 w.params os) (thrA p w b os) := by
  obtain ⟨f136, t136, v136, f137, t137, v137, f138, t138, v138, f139, t139, v139, f140, t140, v140, f141, t141, v141, f142, t142, v142, f143, t143, v143⟩ := g136 p w b os
  exact (((((((((((((((two_ f136 t136).trans (one_ v136)).trans (two_ f137 t137)).trans (one_ v137)).trans (two_ f138 t138)).trans (one_ v138)).trans (two_ f139 t139)).trans (one_ v139)).trans (two_ f140 t140)).trans (one_ v140)).trans (two_ f141 t141)).trans (one_ v141)).trans (two_ f142 t142)).trans (one_ v142)).trans (two_ f143 t143)).trans (one_ v143)
theorem h144 (p : Program) (w : World) (b : List Stmt) (os : OsState) : GoS p w 4308 (a144 w.params os) (thrA p w b os) (a152 w.params os) (thrA p w b os) := by
  obtain ⟨f144, t144, v144, f145, t145, v145, f146, t146, v146, f147, t147, v147, f148, t148, v148, f149, t149, v149, f150, t150, v150, f151, t151, v151⟩ := g144 p w b os
  exact (((((((((((((((two_ f144 t144).trans (one_ v144)).trans (two_ f145 t145)).trans (one_ v145)).trans (two_ f146 t146)).trans (one_ v146)).trans (two_ f147 t147)).trans (one_ v147)).trans (two_ f148 t148)).trans (one_ v148)).trans (two_ f149 t149)).trans (one_ v149)).trans (two_ f150 t150)).trans (one_ v150)).trans (two_ f151 t151)).trans (one_ v151)
theorem h152 (p : Program) (w : World) (b : List Stmt) (os : OsState) : GoS p w 4364 (a152 w.params os) (thrA p w b os) (a160 w.params os) (thrA p w b os) := by
  obtain ⟨f152, t152, v152, f153, t153, v153, f154, t154, v154, f155, t155, v155, f156, t156, v156, f157, t157, v157, f158, t158, v158, f159, t159, v159⟩ := g152 p w b os
  exact (((((((((((((((two_ f152 t152).trans (one_ v152)).trans (two_ f153 t153)).trans (one_ v153)).trans (two_ f154 t154)).trans (one_ v154)).trans (two_ f155 t155)).trans (one_ v155)).trans (two_ f156 t156)).trans (one_ v156)).trans (two_ f157 t157)).trans (one_ v157)).trans (two_ f158 t158)).trans (one_ v158)).trans (two_ f159 t159)).trans (one_ v159)
theorem h160 (p : Program) (w : World) (b : List Stmt) (os : OsState) : GoS p w 4308 (a160 w.params os) (thrA p w b os) (a168 w.params os) (thrA p w b os) := by
  obtain ⟨f160, t160, v160, f161, t161, v161, f162, t162, v162, f163, t163, v163, f164, t164, v164, f165, t165, v165, f166, t166, v166, f167, t167, v167⟩ := g160 p w b os
  exact (((((((((((((((two_ f160 t160).trans (one_ v160)).trans (two_ f161 t161)).trans (one_ v161)).trans (two_ f162 t162)).trans (one_ v162)).trans (two_ f163 t163)).trans (one_ v163)).trans (two_ f164 t164)).trans (one_ v164)).trans (two_ f165 t165)).trans (one_ v165)).trans (two_ f166 t166)).trans (one_ v166)).trans (two_ f167 t167)).trans (one_ v167)
theorem h168 (p : Program) (w : World) (b : List Stmt) (os : OsState) : GoS p w 4364 (a168 w.params os) (thrA p w b os) (a176 w.params os) (thrA p w b os) := by
  obtain ⟨f168, t168, v168, f169, t169, v169, f170, t170, v170, f171, t171, v171, f172, t172, v172, f173, t173, v173, f174, t174, v174, f175, t175, v175⟩ := g168 p w b os
  exact (((((((((((((((two_ f168 t168).trans (one_ v168)).trans (two_ f169 t169)).trans (one_ v169)).trans (two_ f170 t170)).trans (one_ v170)).trans (two_ f171 t171)).trans (one_ v171)).trans (two_ f172 t172)).trans (one_ v172)).trans (two_ f173 t173)).trans (one_ v173)).trans (two_ f174 t174)).trans (one_ v174)).trans (two_ f175 t175)).trans (one_ v175)
theorem h176 (p : Program) (w : World) (b : List Stmt) (os : OsState) : GoS p w 4364 (a176 w.params os) (thrA p w b os) (a184 w.params os) (thrA p w b os) := by
  obtain ⟨f176, t176, v176, f177, t177, v177, f178, t178, v178, f179, t179, v179, f180, t180, v180, f181, t181, v181, f182, t182, v182, f183, t183, v183⟩ := g176 p w b os
  exact (((((((((((((((two_ f176 t176).trans (one_ v176)).trans (two_ f177 t177)).trans (one_ v177)).trans (two_ f178 t178)).trans (one_ v178)).trans (two_ f179 t179)).trans (one_ v179)).trans (two_ f180 t180)).trans (one_ v180)).trans (two_ f181 t181)).trans (one_ v181)).trans (two_ f182 t182)).trans (one_ v182)).trans (two_ f183 t183)).trans (one_ v183)
theorem h184 (p : Program) (w : World) (b : List Stmt) (os : OsState) : GoS p w 4420 (a184 w.params os) (thrA p w b os) (a192 w.params os) (thrA p w b os) := by
  obtain ⟨f184, t184, v184, f185, t185, v185, f186, t186, v186, f187, t187, v187, f188, t188, v188, f189, t189, v189, f190, t190, v190, f191, t191, v191⟩ := g184 p w b os
  exact (((((((((((((((two_ f184 t184).trans (one_ v184)).trans (two_ f185 t185)).trans (one_ v185)).trans (two_ f186 t186)).trans (one_ v186)).trans (two_ f187 t187)).trans (one_ v187)).trans (two_ f188 t188)).trans (one_ v188)).trans (two_ f189 t189)).trans (one_ v189)).trans (two_ f190 t190)).trans (one_ v190)).trans (two_ f191 t191)).trans (one_ v191)
theorem h192 (p : Program) (w : World) (b : List Stmt) (os : OsState) : GoS p w 4252 (a192 w.params os) (thrA p w b os) (a200 w.params os) (thrA p w b os) := by
  obtain ⟨f192, t192, v192, f193, t193, v193, f194, t194, v194, f195, t195, v195, f196, t196, v196, f197, t197, v197, f198, t198, v198, f199, t199, v199⟩ := g192 p w b os
  exact (((((((((((((((two_ f192 t192).trans (one_ v192)).trans (two_ f193 t193)).trans (one_ v193)).trans (two_ f194 t194)).trans (one_ v194)).trans (two_ f195 t195)).trans (one_ v195)).trans (two_ f196 t196)).trans (one_ v196)).trans (two_ f197 t197)).trans (one_ v197)).trans (two_ f198 t198)).trans (one_ v198)).trans (two_ f199 t199)).trans (one_ v199)
theorem h200 (p : Program) (w : World) (b : List Stmt) (os : OsState) : GoS p w 4308 (a200 w.params os) (thrA p w b os) (a208 w.params os) (thrA p w b os) := by
  obtain ⟨f200, t200, v200, f201, t201, v201, f202, t202, v202, f203, t203, v203, f204, t204, v204, f205, t205, v205, f206, t206, v206, f207, t207, v207⟩ := g200 p w b os
  exact (((((((((((((((two_ f200 t200).trans (one_ v200)).trans (two_ f201 t201)).trans (one_ v201)).trans (two_ f202 t202)).trans (one_ v202)).trans (two_ f203 t203)).trans (one_ v203)).trans (two_ f204 t204)).trans (one_ v204)).trans (two_ f205 t205)).trans (one_ v205)).trans (two_ f206 t206)).trans (one_ v206)).trans (two_ f207 t207)).trans (one_ v207)
theorem h208 (p : Program) (w : World) (b : List Stmt) (os : OsState) : GoS p w 4308 (a208 w.params os) (thrA p w b os) (a216 w.params os) (thrA p w b os) := by
  obtain ⟨f208, t208, v208, f209, t209, v209, f210, t210, v210, f211, t211, v211, f212, t212, v212, f213, t213, v213, f214, t214, v214, f215, t215, v215⟩ := g208 p w b os
  exact (((((((((((((((two_ f208 t208).trans (one_ v208)).trans (two_ f209 t209)).trans (one_ v209)).trans (two_ f210 t210)).trans (one_ v210)).trans (two_ f211 t211)).trans (one_ v211)).trans (two_ f212 t212)).trans (one_ v212)).trans (two_ f213 t213)).trans (one_ v213)).trans (two_ f214 t214)).trans (one_ v214)).trans (two_ f215 t215)).trans (one_ v215)
theorem h216 (p : Program) (w : World) (b : List Stmt) (os : OsState) : GoS p w 4364 (a216 w.params os) (thrA p w b os) (a224 w.params os) (thrA p w b os) := by
  obtain ⟨f216, t216, v216, f217, t217, v217, f218, t218, v218, f219, t219, v219, f220, t220, v220, f221, t221, v221, f222, t222, v222, f223, t223, v223⟩ := g216 p w b os
  exact (((((((((((((((two_ f216 t216).trans (one_ v216)).trans (two_ f217 t217)).trans (one_ v217)).trans (two_ f218 t218)).trans (one_ v218)).trans (two_ f219 t219)).trans (one_ v219)).trans (two_ f220 t220)).trans (one_ v220)).trans (two_ f221 t221)).trans (one_ v221)).trans (two_ f222 t222)).trans (one_ v222)).trans (two_ f223 t223)).trans (one_ v223)
theorem h224 (p : Program) (w : World) (b : List Stmt) (os : OsState) : GoS p w 4308 (a224 w.params os) (thrA p w b os) (a232 w.params os) (thrA p w b os) := by
  obtain ⟨f224, t224, v224, f225, t225, v225, f226, t226, v226, f227, t227, v227, f228, t228, v228, f229, t229, v229, f230, t230, v230, f231, t231, v231⟩ := g224 p w b os
  exact (((((((((((((((two_ f224 t224).trans (one_ v224)).trans (two_ f225 t225)).trans (one_ v225)).trans (two_ f226 t226)).trans (one_ v226)).trans (two_ f227 t227)).trans (one_ v227)).trans (two_ f228 t228)).trans (one_ v228)).trans (two_ f229 t229)).trans (one_ v229)).trans (two_ f230 t230)).trans (one_ v230)).trans (two_ f231 t231)).trans (one_ v231)
theorem h232 (p : Program) (w : World) (b : List Stmt) (os : OsState) : GoS p w 4364 (a232 w.params os) (thrA p w b os) (a240 w.params os) (thrA p w b os) := by
  obtain ⟨f232, t232, v232, f233, t233, v233, f234, t234, v234, f235, t235, v235, f236, t236, v236, f237, t237, v237, f238, t238, v238, f239, t239, v239⟩ := g232 p w b os
  exact (((((((((((((((two_ f232 t232).trans (one_ v232)).trans (two_ f233 t233)).trans (one_ v233)).trans (two_ f234 t234)).trans (one_ v234)).trans (two_ f235 t235)).trans (one_ v235)).trans (two_ f236 t236)).trans (one_ v236)).trans (two_ f237 t237)).trans (one_ v237)).trans (two_ f238 t238)).trans (one_ v238)).trans (two_ f239 t239)).trans (one_ v239)
theorem h240 (p : Program) (w : World) (b : List Stmt) (os : OsState) : GoS p w 4364 (a240 w.params os) (thrA p w b os) (a248 w.params os) (thrA p w b os) := by
  obtain ⟨f240, t240, v240, f241, t241, v241, f242, t242, v242, f243, t243, v243, f244, t244, v244, f245, t245, v245, f246, t246, v246, f247, t247, v247⟩ := g240 p w b os
  exact (((((((((((((((two_ f240 t240).trans (one_ v240)).trans (two_ f241 t241)).trans (one_ v241)).trans (two_ f242 t242)).trans (one_ v242)).trans (two_ f243 t243)).trans (one_ v243)).trans (two_ f244 t244)).trans (one_ v244)).trans (two_ f245 t245)).trans (one_ v245)).trans (two_ f246 t246)).trans (one_ v246)).trans (two_ f247 t247)).trans (one_ v247)
theorem h248 (p : Program) (w : World) (b : List Stmt) (os : OsState) : GoS p w 3864 (a248 w.params os) (thrA p w b os) (a255 w.params os) (thrA p w b os) := by
  obtain ⟨f248, t248, v248, f249, t249, v249, f250, t250, v250, f251, t251, v251, f252, t252, v252, f253, t253, v253, f254, t254, v254⟩ := g248 p w b os
  exact (((((((((((((two_ f248 t248).trans (one_ v248)).trans (two_ f249 t249)).trans (one_ v249)).trans (two_ f250 t250)).trans (one_ v250)).trans (two_ f251 t251)).trans (one_ v251)).trans (two_ f252 t252)).trans (one_ v252)).trans (two_ f253 t253)).trans (one_ v253)).trans (two_ f254 t254)).trans (one_ v254)
theorem loop_ (p : Program) (w : World) (b : List Stmt) (os : OsState) : GoS p w 138212 (a0 w.params os) (thrA p w b os) (a255 w.params os) (thrA p w b os) := ((((((((((((((((((((((((((((((((h0 p w b os)).trans (h8 p w b os)).trans (h16 p w b os)).trans (h24 p w b os)).trans (h32 p w b os)).trans (h40 p w b os)).trans (h48 p w b os)).trans (h56 p w b os)).trans (h64 p w b os)).trans (h72 p w b os)).trans (h80 p w b os)).trans (h88 p w b os)).trans (h96 p w b os)).trans (h104 p w b os)).trans (h112 p w b os)).trans (h120 p w b os)).trans (h128 p w b os)).trans (h136 p w b os)).trans (h144 p w b os)).trans (h152 p w b os)).trans (h160 p w b os)).trans (h168 p w b os)).trans (h176 p w b os)).trans (h184 p w b os)).trans (h192 p w b os)).trans (h200 p w b os)).trans (h208 p w b os)).trans (h216 p w b os)).trans (h224 p w b os)).trans (h232 p w b os)).trans (h240 p w b os)).trans (h248 p w b os)
theorem table_ (p : Program) (w : World) (b : List Stmt) (os : OsState) : segRun treeTable p w 11 (some (Value.ref 6)) 1 (92 + 138212 + 37 + 517) (st0 w.params os).abs (thr0 b) = some (.next, (sE w.params os).abs, Code.body b Pre.env_1, { line := 14, col := 0, endLine := 14, endCol := 6 }) := by
  obtain ⟨s1, s2⟩ := start_ p w b os
  obtain ⟨l1, l2, l3⟩ := last p w b os
  exact (((two_ s1 s2).trans (loop_ p w b os)).trans (two_ l1 l2)).run (run1 l3)
noncomputable def P6 : Program := PySem.Challenge.rw_ui0507_06.row.prog
noncomputable def H1 (P : Params) : Heap := absHeap (tF P) 1074 { }
theorem body_ : behindTheImports P6 = Pre.sts_4 ++ (st3 ++ (st4 ++ [])) := by kernel_rfl
theorem pre_ (w : World) (os : OsState) : topGo treeTable P6 w 11 (some (Value.ref 6)) 12 ⟨boot_heap w.params, { toList := [] }, boot_drawn, boot_toks, os⟩ (topStub P6) =
    some ((shr (Pre.tree_4 w.params) 15 187 os).abs, ⟨denote treeTable (.body (behindTheImports P6) Pre.env_1), .body (behindTheImports P6) Pre.env_1, { line := 0, col := 0, endLine := 0, endCol := 0 }, [topFrame { line := 0, col := 0, endLine := 0, endCol := 0 }]⟩) := by kernel_rfl
theorem block_ (w : World) (b : List Stmt) (os : OsState) : segRun treeTable P6 w 11 (some (Value.ref 6)) 1 1 (shr (Pre.tree_4 w.params) 15 187 os).abs (blockOf (behindTheImports P6) Pre.env_1 (.body b Pre.env_1) { line := 0, col := 0, endLine := 0, endCol := 0 } [topFrame { line := 0, col := 0, endLine := 0, endCol := 0 }]) =
    some (.next, (shr (Pre.tree_4 w.params) 15 187 os).abs, .body b Pre.env_1, { line := 0, col := 0, endLine := 0, endCol := 0 }) := by kernel_rfl
theorem fin_ (w : World) (c : Code) (os : OsState) (q : Pos) : topRun treeTable P6 w 11 (some (Value.ref 6)) 2 (sF w.params os).abs ⟨doneF .next, c, q, [topFrame { line := 0, col := 0, endLine := 0, endCol := 0 }]⟩ = some (sF w.params os).abs := by kernel_rfl
theorem run_ (w : World) (os : OsState) : topRun treeTable P6 w 11 (some (Value.ref 6)) (12 + (1 + (51 + (92 + 138212 + 37 + 517 + (112 + 2))))) ⟨boot_heap w.params, { toList := [] }, boot_drawn, boot_toks, os⟩ (topStub P6) = some ⟨H1 w.params, { toList := [] }, { }, 17139, os⟩ := by
  refine go_top (pre_ w os) (piece_block (block_ w _ os) ?_)
  rw [body_]
  refine Pre.chain P6 _ w os (st3 ++ (st4 ++ [])) _ _ ?_
  refine piece_app (table_ P6 w _ os) ?_
  obtain ⟨r1, r2⟩ := rest P6 w (Pre.sts_4 ++ (st3 ++ (st4 ++ []))) os
  refine piece_app (run2 r1 r2) ?_
  exact piece_nil (fin_ w _ os _)

noncomputable def q6 : Program := { P6 with main := { P6.main with body := [1, 2, 3, 6, 7].filterMap fun i => P6.main.body[i]? } }
def loose6 : List Str := [Str.ofString "_TABLE", Str.ofString "crc32"]
theorem open6 : ∀ w : World, (fencedOpening treeTable P6 w 300000).map (fun s => (s.heap, s.gens, s.drawn, s.toks)) = some (boot_heap w.params, { toList := [] }, boot_drawn, boot_toks) := boot_open (by kernel_rfl) (by decide) (fun s => by kernel_rfl)
theorem size6 : ∀ w : World, ((boot_heap w.params).isNs mainGlobals && ({ toList := [] } : Array GenState).size == 0, (boot_heap w.params).objs.size, (boot_heap w.params).nsMap mainGlobals (Str.ofString "__annotations__")) = (true, 11, some (.ref 6)) := fun w => by kernel_rfl
noncomputable def S6 (P : Params) (os : OsState) : Shared := ⟨H1 P, { toList := [] }, { }, 17139, os⟩
theorem look1a (w : World) : staticsOk (importedModules P6.main.body) (boot_heap w.params) (H1 w.params) = true := by kernel_rfl
theorem look1b (w : World) : namesBound P6 (H1 w.params) = true := by kernel_rfl
theorem look1c (w : World) (os : OsState) : gensDone (S6 w.params os) = true := by kernel_rfl
theorem look1d (w : World) : laidKept (boot_heap w.params) (H1 w.params) = true := by kernel_rfl
noncomputable def Xt6 (s : Shared) : Bool := xlAt q6 [] s && recOk (RowW.records PySem.Challenge.rw_ui0507_06.row.toRowW) s
theorem look2 (w : World) (os : OsState) : openSeen q6 loose6 (importedModules P6.main.body) Xt6 true (S6 w.params os) = openGood q6 loose6 := by
  rw [PySem.W.Fast.te4187177175401517315]
  kernel_rfl
theorem left6 {α : Type} {Yf : Shared → α} {Ya : World → α} (hY : ∀ (w : World) (os : OsState), Yf (S6 w.params os) = Ya w) : LeftO P6 q6 loose6 Xt6 Yf Ya 300000 true :=
  LeftO.of_pieces (H₀ := boot_heap) (H₁ := H1) open6 size6 run_ (by decide) (fun w => funext fun os => looks_pair (by
    show (staticsOk _ _ _ && namesBound _ _ && gensDone _ && laidKept _ _) = true
    rw [look1a, look1b, look1d]
    exact look1c w os) (looks_pair (look2 w os) (hY w os)))
end Mine
local macro_rules | `(tactic| o_head $H) => `(tactic| refine holds_open (q := Mine.q6) (loose := Mine.loose6) (Xt := Mine.Xt6) (XP := XL Mine.q6 []) (Yf := Hook.obs $H) (Ya := Hook.val $H) (YP := Hook.says $H) (N := 300000) (Mine.left6 (by intro w os; kernel_rfl)) (Hook.of $H) (Hook.keeps $H) (fun s e => xl_of s (Bool.and_eq_true_iff.mp e).1) XL.keeps (by rfl) (by rfl) (by rfl) (fun s e => recFacts_of (Bool.and_eq_true_iff.mp e).2) (by rfl) (by first | assumption | decide +kernel) (by decide +kernel) ⟨rfl, rfl, rfl, rfl, rfl, by decide +kernel⟩ ?hw ?hc)
namespace Mine
set_option maxHeartbeats 0 in
open_top hd for PySem.Challenge.rw_ui0507_06
/-- what a def does, wherever it is called: from the ledger news and the arguments vs it comes back with r and the ledger news' that R tells -/
def Fun (prog : Program) (w : World) (K : Frag) (p : Program) (loose : List Str) (mean : ExcName → Option Value) (mg mb : Str → Option Value) (k : Nat) (f : Addr) (vs : List Value) (news : List (Addr × Obj)) (R : Value → List (Addr × Obj) → Prop) : Prop :=
  ∀ (dp un : Nat) (gd : Option (List Code)) (cn : Str) (cs : Scope) (a : Addr) (ccd : Value) (cl : List (Str × Addr)) (outer : List Env) (A₀ : Around) (base h₀ : Heap) (L : Addr) (m : Str → Option Value) (s : Shared) (Q E : Value → Shared → Prop),
    Below A₀ base outer h₀ → Fr h₀ L s.heap m → K.In h₀ → News h₀ L s.heap news → Top p loose mean mg mb h₀ → cs.kind = .function → dp + k < recursionLimit → un + 8 * k < cLine →
    (∀ r news' h' tk', R r news' → Fr h₀ L h' m → News h₀ L h' news' → Q r { s with heap := h', toks := tk' }) →
    wpAny (model prog w) (ktrTop dp un gd cn cs L a ccd cl outer) (call (.ref f) vs) Q E s
theorem bring {α : Type} {prog : Program} {w : World} {A : Around} {tree : Sem α} {Q : α → Shared → Prop} {E : Value → Shared → Prop} {s : Shared} {K : Frag} {h₀ : Heap} {p : Program} {loose : List Str} {mean : ExcName → Option Value} {mg mb : Str → Option Value}
    (C : Program → World → Frag → Program → List Str → (ExcName → Option Value) → (Str → Option Value) → (Str → Option Value) → Prop) (_X : K.In h₀) (_T : Top p loose mean mg mb h₀) (ctr : C prog w K p loose mean mg mb) (h : C prog w K p loose mean mg mb → wpAny (model prog w) A tree Q E s) : wpAny (model prog w) A tree Q E s := h ctr
section
variable {prog : Program} {w : World} {A : Around} {E : Value → Shared → Prop} {s : Shared} {env : Env} {h₀ : Heap} {target : Expr} {body : List Stmt} {Q : Flow → Shared → Prop}
/-- a for over a list of the ledger's, its target whatever it is -/
theorem turns_list {l : Addr} {vs : List Value} {nn : Nat} {m₀ : Str → Option Value} {news : List (Addr × Obj)} (J : Nat → (Str → Option Value) → List (Addr × Obj) → Prop)
    (hh : A.handled = none) (hl : (l, listOf vs.toArray nn) ∈ news) (F : Fr h₀ env.locals s.heap m₀) (N : News h₀ env.locals s.heap news) (hj : J 0 m₀ news) (hJl : ∀ i m nx, J i m nx → (l, listOf vs.toArray nn) ∈ nx)
    (turn : ∀ i v m₁ news₁ h tk own, vs[i]? = some v → OwnOff own (news₁.map (·.1)) → J i m₁ news₁ → Fr h₀ env.locals h m₁ → News h₀ env.locals h (news₁ ++ own) →
      wpAny (model prog w) A (assign target env v) (fun _ s₃ => wpAny (model prog w) A (execs body env) (InvPostG h₀ env.locals (J (i + 1)) own { s with heap := h, toks := tk } Q) E s₃) E { s with heap := h, toks := tk })
    (done : ∀ m₁ news₁ h tk, J vs.length m₁ news₁ → Fr h₀ env.locals h m₁ → News h₀ env.locals h news₁ → Q .next { s with heap := h, toks := tk }) :
    wpAny (model prog w) A (pyIter (.ref l)) (fun it s₂ => TurnsAt prog w A h₀ env target body Q E it s₂) E s := by
  have hol : s.heap.get? l = some (listOf vs.toArray nn) := (N _ hl).1
  have hls : s.heap.IsList l vs.toArray := ⟨_, hol, rfl, nn, rfl⟩
  have hne : l ≠ s.heap.objs.size := Nat.ne_of_lt (Heap.lt_size hol)
  refine wpAny_pyIter_list hls ?_
  have W := Walks.list (prog := prog) (w := w) hh s.heap.objs.size l hne vs.toArray
  have hlen : vs.toArray.size = vs.length := by simp
  rw [hlen] at W
  refine ⟨_, _, _, vs.length, _, _, _, m₀, news, J, rfl, KTurns.ofWalks W fun i v s Q E st q => letGo_listiter st.1 q, ?_, ?_, ?_, ⟨⟨_, Heap.get?_push_size _ rfl, rfl, rfl⟩, hls.at fun o e => Heap.get?_push_of_some _ e⟩, F.push _, (fun p hp => ⟨Heap.get?_push_of_some _ (N p hp).1, (N p hp).2⟩), hj, ?_, ?_⟩
  · intro hm
    rcases List.mem_cons.mp hm with e | hm
    · exact absurd F.ns.lt (e ▸ Nat.lt_irrefl _)
    · exact (N _ hl).2.1 ((List.mem_singleton.mp hm).symm)
  · intro b hb
    rw [List.mem_singleton.mp hb]
    exact next_is_new F
  · intro p hp hI
    exact absurd (Heap.lt_size (N p hp).1) ((List.mem_singleton.mp hI) ▸ Nat.lt_irrefl _)
  · intro i v m₁ news₁ hh' tk' own hin hP hJ hoff hown hget hfp hst F₁ N₁
    have hl₁ := hJl _ _ _ hJ
    have hP' : vs[i]? = some v := by simpa using hP
    have hI0 : h₀.get? s.heap.objs.size = none := next_is_new F
    obtain ⟨⟨oI, hoI, _⟩, _⟩ := id hst
    have hIown : (s.heap.objs.size, oI) ∈ own.filter fun p => decide (p.1 = s.heap.objs.size) := List.mem_filter.mpr ⟨hfp _ (List.mem_cons.mpr (.inl rfl)) hI0 _ hoI, by simp⟩
    have hsep : OwnOff (own.filter fun p => decide (p.1 = s.heap.objs.size)) (news₁.map (·.1)) := by
      intro p hp b hb e
      obtain ⟨q, hq, rfl⟩ := List.mem_map.mp hb
      have h1 : p.1 = s.heap.objs.size := by simpa using (List.mem_filter.mp hp).2
      exact hoff q hq (List.mem_singleton.mpr (e ▸ h1))
    have N₂ : News h₀ env.locals hh' (news₁ ++ own.filter fun p => decide (p.1 = s.heap.objs.size)) := fun p hp => N₁ p ((List.mem_append.mp hp).elim (fun h => List.mem_append.mpr (.inr h)) fun h => List.mem_append.mpr (.inl ((List.mem_filter.mp h).1)))
    have hlo : hh'.get? l = some (listOf vs.toArray nn) := (N₁ _ (List.mem_append.mpr (.inr hl₁))).1
    refine wpAny_mono (turn i v m₁ news₁ hh' tk' _ hP' hsep hJ F₁ N₂) (fun _ s₃ p3 => wpAny_mono p3 (fun f s₂ p => ?_) fun _ _ e => e) fun _ _ e => e
    have fin : InvEndG h₀ env.locals (J (i + 1)) (own.filter fun p => decide (p.1 = s.heap.objs.size)) { s with heap := hh', toks := tk' } s₂ →
        LoopStepU h₀ env.locals [s.heap.objs.size] own (J (i + 1)) { s with heap := hh', toks := tk' } .next s₂ := by
      rintro ⟨h', tk, m', news', nx, e, F', N', hn, ho, ha, hm⟩
      refine ⟨rfl, h', tk, m', nx, e, F', fun p hp => ?_, fun p hp hq => ?_, hm⟩
      · rcases List.mem_append.mp hp with h | h
        · by_cases hI : p.1 = s.heap.objs.size
          · exact N' p (ho p (List.mem_filter.mpr ⟨h, by simpa using hI⟩))
          · have h1 : p.1 = l := by
              rcases List.mem_cons.mp (hown p h) with h2 | h2
              · exact absurd h2 hI
              · exact List.mem_singleton.mp h2
            have h2 : hh'.get? p.1 = some p.2 := hget p h
            rw [h1, hlo] at h2
            have h3 : p = (l, listOf vs.toArray nn) := Prod.ext h1 (Option.some.inj h2).symm
            rw [h3]
            exact N' _ (hn _ (hJl _ _ _ hm))
        · exact N' p (hn p h)
      · exact ha _ hIown p.1 (List.mem_map.mpr ⟨p, hp, rfl⟩) (List.mem_singleton.mp hq).symm
    cases f with
    | ret v => exact p
    | brk => exact p
    | next => exact fin p
    | cont => exact fin p
  · rintro h' tk m' news' F' N' _ hJ
    exact done m' news' h' tk hJ F' N'
end
section
variable {prog : Program} {w : World} {K : Frag} {p : Program} {loose : List Str} {mean : ExcName → Option Value} {mg mb : Str → Option Value} {k : Nat} {f : Addr} {vs : List Value} {news : List (Addr × Obj)} {R : Value → List (Addr × Obj) → Prop}
theorem Fun.use {dp un : Nat} {gd : Option (List Code)} {cn : Str} {cs : Scope} {a : Addr} {ccd : Value} {cl : List (Str × Addr)} {outer : List Env} {A₀ : Around} {base h₀ : Heap} {L : Addr} {m : Str → Option Value} {s : Shared} {Q E : Value → Shared → Prop}
    (C : Fun prog w K p loose mean mg mb k f vs news R) (B : Below A₀ base outer h₀) (F : Fr h₀ L s.heap m) (X : K.In h₀) (N : News h₀ L s.heap news) (T : Top p loose mean mg mb h₀) (hk : cs.kind = .function) (hd : dp + k < recursionLimit) (hu : un + 8 * k < cLine)
    (ret : ∀ r news' h' tk', R r news' → Fr h₀ L h' m → News h₀ L h' news' → Q r { s with heap := h', toks := tk' }) :
    wpAny (model prog w) (ktrTop dp un gd cn cs L a ccd cl outer) (call (.ref f) vs) Q E s := C _ _ _ _ _ _ _ _ _ _ _ _ _ _ _ _ _ B F X N T hk hd hu ret
end
/-- the ledger with o at O -/
def put (O : Addr) (o : Obj) (news : List (Addr × Obj)) : List (Addr × Obj) := news.map fun p => if p.1 = O then (O, o) else p
theorem put_nil {O : Addr} {o : Obj} : put O o [] = [] := rfl
theorem put_hit {O : Addr} {o o' : Obj} {r : List (Addr × Obj)} : put O o ((O, o') :: r) = (O, o) :: put O o r := by simp [put]
theorem put_miss {O : Addr} {o : Obj} {q : Addr × Obj} {r : List (Addr × Obj)} (h : q.1 ≠ O) : put O o (q :: r) = q :: put O o r := by simp [put, h]
theorem put_off {O : Addr} {o : Obj} {r : List (Addr × Obj)} (h : ∀ q ∈ r, q.1 ≠ O) : put O o r = r := by
  induction r with
  | nil => rfl
  | cons q r ih => rw [put_miss (h q (.head _)), ih fun x hx => h x (.tail _ hx)]
theorem mem_put {O : Addr} {o : Obj} {news : List (Addr × Obj)} {q : Addr × Obj} (h : q ∈ put O o news) : q = (O, o) ∨ (q.1 ≠ O ∧ q ∈ news) := by
  obtain ⟨x, hx, rfl⟩ := List.mem_map.mp h
  by_cases e : x.1 = O
  · rw [if_pos e]; exact .inl rfl
  · rw [if_neg e]; exact .inr ⟨e, hx⟩
section
variable {prog : Program} {w : World} {A : Around} {E : Value → Shared → Prop} {s : Shared} {h₀ : Heap} {L D b : Addr} {m : Str → Option Value} {news : List (Addr × Obj)} {its its2 : Array Value} {n n2 : Nat}
/-- extend by a list of the ledger's -/
theorem extend_U {g : Obj → List (Addr × Obj)} {Q : Value → Shared → Prop} (F : Fr h₀ L s.heap m) (N : News h₀ L s.heap news) (hb : (b, listOf its2 n2) ∈ news) (U : UpdF D (listOf its n) news g) (hz : its.size + its2.size ≤ sizeLine)
    (h : ∀ h' n', Fr h₀ L h' m → News h₀ L h' (g (listOf (its ++ its2) n')) → Q .none { s with heap := h' }) : wpAny (model prog w) A (call (.builtin "list.extend") [.ref D, .ref b]) Q E s := by
  obtain ⟨pre, post, rfl, hg, a, c⟩ := U.split
  obtain ⟨ys, rfl⟩ : ∃ ys : List Value, its = ys.toArray := ⟨its.toList, by rw [Array.toArray_toList]⟩
  refine extend_in F N a c (N _ hb).1 (fun h' n' F' N' => h h' n' F' ?_) (by rw [List.size_toArray] at hz; exact hz)
  rw [hg]
  have e : ys.toArray ++ its2 = (ys ++ its2.toList).toArray := by simp
  rw [e]
  exact N'
end
theorem off_lt {l : List (Addr × Obj)} {D : Addr} (h : ∀ p ∈ l, p.1 < D) : ∀ p ∈ l, p.1 ≠ D := fun p hp => Nat.ne_of_lt (h p hp)
theorem off_gt {l : List (Addr × Obj)} {D : Addr} (h : ∀ p ∈ l, D < p.1) : ∀ p ∈ l, p.1 ≠ D := fun p hp => Nat.ne_of_gt (h p hp)
theorem flat_one (n : Nat) (v : Int) : (List.replicate n [v]).flatten = List.replicate n v := by
  induction n with
  | zero => rfl
  | succ k ih => rw [List.replicate_succ, List.flatten_cons, ih]; rfl
theorem in_app {a b : List Int} (ha : KBa.In a) (hb : KBa.In b) : KBa.In (a ++ b) := fun n hn => (List.mem_append.mp hn).elim (ha n) (hb n)
theorem in_rep {n : Nat} {v : Int} (h0 : 0 ≤ v) (h1 : v < 256) : KBa.In (List.replicate n v) := fun k hk => by rw [List.eq_of_mem_replicate hk]; exact ⟨h0, h1⟩
def crcBit (v : Nat) : Nat := if v % 2 = 1 then (v / 2) ^^^ 3988292384 else v / 2
def crcTab (b : Nat) : Nat := crcBit (crcBit (crcBit (crcBit (crcBit (crcBit (crcBit (crcBit b)))))))
def crcInv : List Nat := [0, 65, 195, 130, 134, 199, 69, 4, 77, 12, 142, 207, 203, 138, 8, 73, 154, 219, 89, 24, 28, 93, 223, 158, 215, 150, 20, 85, 81, 16, 146, 211, 117, 52, 182, 247, 243, 178, 48, 113, 56, 121, 251, 186, 190, 255, 125, 60, 239, 174, 44, 109, 105, 40, 170, 235, 162, 227, 97, 32, 36, 101, 231, 166, 234, 171, 41, 104, 108, 45, 175, 238, 167, 230, 100, 37, 33, 96, 226, 163, 112, 49, 179, 242, 246, 183, 53, 116, 61, 124, 254, 191, 187, 250, 120, 57, 159, 222, 92, 29, 25, 88, 218, 155, 210, 147, 17, 80, 84, 21, 151, 214, 5, 68, 198, 135, 131, 194, 64, 1, 72, 9, 139, 202, 206, 143, 13, 76, 149, 212, 86, 23, 19, 82, 208, 145, 216, 153, 27, 90, 94, 31, 157, 220, 15, 78, 204, 141, 137, 200, 74, 11, 66, 3, 129, 192, 196, 133, 7, 70, 224, 161, 35, 98, 102, 39, 165, 228, 173, 236, 110, 47, 43, 106, 232, 169, 122, 59, 185, 248, 252, 189, 63, 126, 55, 118, 244, 181, 177, 240, 114, 51, 127, 62, 188, 253, 249, 184, 58, 123, 50, 115, 241, 176, 180, 245, 119, 54, 229, 164, 38, 103, 99, 34, 160, 225, 168, 233, 107, 42, 46, 111, 237, 172, 10, 75, 201, 136, 140, 205, 79, 14, 71, 6, 132, 197, 193, 128, 2, 67, 144, 209, 83, 18, 22, 87, 213, 148, 221, 156, 30, 95, 91, 26, 152, 217]
theorem crcTab_inv : ((List.range 256).all fun i => crcInv.getD (crcTab i / 2 ^ 24) 0 == i && decide (crcTab i < 2 ^ 32)) = true := by decide +kernel
theorem crcTab_at {i : Nat} (h : i < 256) : crcInv.getD (crcTab i / 2 ^ 24) 0 = i ∧ crcTab i < 2 ^ 32 := by
  have h1 := List.all_eq_true.mp crcTab_inv i (List.mem_range.mpr h)
  rw [Bool.and_eq_true] at h1
  exact ⟨by simpa using h1.1, of_decide_eq_true h1.2⟩
theorem crcTab_inj {i j : Nat} (hi : i < 256) (hj : j < 256) (h : crcTab i / 2 ^ 24 = crcTab j / 2 ^ 24) : i = j := by
  rw [← (crcTab_at hi).1, h, (crcTab_at hj).1]
/-- one byte more -/
def crcStep (v b : Nat) : Nat := (v / 256) ^^^ crcTab ((v ^^^ b) % 256)
theorem crcStep_lt {v b : Nat} (h : v < 2 ^ 32) : crcStep v b < 2 ^ 32 :=
  Nat.xor_lt_two_pow (by omega) (crcTab_at (Nat.mod_lt _ (by decide))).2
theorem crcStep_top {v b : Nat} (h : v < 2 ^ 32) : crcStep v b / 2 ^ 24 = crcTab ((v ^^^ b) % 256) / 2 ^ 24 := by
  rw [crcStep, ← Nat.shiftRight_eq_div_pow, Nat.shiftRight_xor_distrib, Nat.shiftRight_eq_div_pow, Nat.shiftRight_eq_div_pow, show v / 256 / 2 ^ 24 = 0 by omega, Nat.zero_xor]
theorem xor_mod (v b : Nat) : (v ^^^ b) % 256 = (v % 256) ^^^ (b % 256) := Nat.xor_mod_two_pow (n := 8)
theorem xor_can {a b c : Nat} (h : a ^^^ b = a ^^^ c) : b = c := by
  have h2 : a ^^^ (a ^^^ b) = a ^^^ (a ^^^ c) := by rw [h]
  rw [← Nat.xor_assoc, ← Nat.xor_assoc, Nat.xor_self, Nat.zero_xor, Nat.zero_xor] at h2
  exact h2
theorem crcStep_idx {v v' b b' : Nat} (h : v < 2 ^ 32) (h' : v' < 2 ^ 32) (e : crcStep v b = crcStep v' b') : (v ^^^ b) % 256 = (v' ^^^ b') % 256 ∧ v / 256 = v' / 256 := by
  have e1 : (v ^^^ b) % 256 = (v' ^^^ b') % 256 := crcTab_inj (Nat.mod_lt _ (by decide)) (Nat.mod_lt _ (by decide)) (by rw [← crcStep_top h, ← crcStep_top h', e])
  refine ⟨e1, ?_⟩
  rw [crcStep, crcStep, e1, Nat.xor_comm, Nat.xor_comm (v' / 256)] at e
  exact xor_can e
theorem crcStep_inj {v v' b : Nat} (h : v < 2 ^ 32) (h' : v' < 2 ^ 32) (e : crcStep v b = crcStep v' b) : v = v' := by
  obtain ⟨e1, e2⟩ := crcStep_idx h h' e
  rw [xor_mod, xor_mod, Nat.xor_comm, Nat.xor_comm (v' % 256)] at e1
  have := xor_can e1
  omega
theorem crcStep_byte {v b b' : Nat} (h : v < 2 ^ 32) (hb : b < 256) (hb' : b' < 256) (e : crcStep v b = crcStep v b') : b = b' := by
  obtain ⟨e1, _⟩ := crcStep_idx h h e
  rw [xor_mod, xor_mod] at e1
  have := xor_can e1
  omega
def crcAll (v : Nat) (l : List Nat) : Nat := l.foldl crcStep v
theorem crcAll_lt : ∀ (l : List Nat) {v : Nat}, v < 2 ^ 32 → crcAll v l < 2 ^ 32
  | [], _, h => h
  | _ :: r, _, h => crcAll_lt r (crcStep_lt h)
theorem crcAll_inj : ∀ (l : List Nat) {v v' : Nat}, v < 2 ^ 32 → v' < 2 ^ 32 → crcAll v l = crcAll v' l → v = v'
  | [], _, _, _, _, e => e
  | b :: r, _, _, h, h', e => crcStep_inj (b := b) h h' (crcAll_inj r (crcStep_lt h) (crcStep_lt h') e)
theorem crc_turned {p r : List Nat} {b b' v : Nat} (h : v < 2 ^ 32) (hb : b < 256) (hb' : b' < 256) (e : crcAll v (p ++ b :: r) = crcAll v (p ++ b' :: r)) : b = b' := by
  unfold crcAll at e
  rw [List.foldl_append, List.foldl_append, List.foldl_cons, List.foldl_cons] at e
  have h1 : crcAll v p < 2 ^ 32 := crcAll_lt p h
  exact crcStep_byte h1 hb hb' (crcAll_inj r (crcStep_lt h1) (crcStep_lt h1) e)
theorem xor_back (x m : Nat) : x ^^^ m ^^^ m = x := by rw [Nat.xor_assoc, Nat.xor_self, Nat.xor_zero]
theorem xor_and_add : ∀ (n a b : Nat), a < 2 ^ n → (a ^^^ b) + 2 * (a &&& b) = a + b
  | 0, a, b, h => by
    have : a = 0 := by simpa using h
    subst this; simp
  | n + 1, a, b, h => by
    have ih := xor_and_add n (a / 2) (b / 2) (by rw [Nat.pow_succ] at h; omega)
    have e1 : (a ^^^ b) / 2 = (a / 2) ^^^ (b / 2) := Nat.xor_div_two
    have e2 : (a &&& b) / 2 = (a / 2) &&& (b / 2) := Nat.and_div_two
    have e3 : (a ^^^ b) % 2 = (a % 2 + b % 2) % 2 := by
      have h1 := @Nat.xor_mod_two_eq_one a b
      have ha := Nat.mod_two_eq_zero_or_one a
      have hb := Nat.mod_two_eq_zero_or_one b
      have hx := Nat.mod_two_eq_zero_or_one (a ^^^ b)
      rcases ha with ha | ha <;> rcases hb with hb | hb <;> rcases hx with hx | hx <;> simp_all
    have e4 : (a &&& b) % 2 = (a % 2) * (b % 2) := by
      have h1 := @Nat.and_mod_two_eq_one a b
      have ha := Nat.mod_two_eq_zero_or_one a
      have hb := Nat.mod_two_eq_zero_or_one b
      have hx := Nat.mod_two_eq_zero_or_one (a &&& b)
      rcases ha with ha | ha <;> rcases hb with hb | hb <;> rcases hx with hx | hx <;> simp_all
    have ha := Nat.mod_two_eq_zero_or_one a
    have hb := Nat.mod_two_eq_zero_or_one b
    rcases ha with ha | ha <;> rcases hb with hb | hb <;> rw [ha, hb] at e3 e4 <;> omega
theorem xor_nn (a b : Nat) : Builtin.bitXor (a : Int) (b : Int) = ((a ^^^ b : Nat) : Int) := by
  rw [bitXor_and, bitAnd_pp (Int.natCast_nonneg _) (Int.natCast_nonneg _), Int.toNat_natCast, Int.toNat_natCast]
  have := xor_and_add a a b (Nat.lt_two_pow_self)
  omega
theorem and255 (a : Nat) : Builtin.bitAnd (a : Int) 255 = ((a % 256 : Nat) : Int) := by rw [bitAnd_m8]; omega
def crcZ (ks : List Int) (x : Nat) : Nat := crcAll (x ^^^ 4294967295) (ks.map Int.toNat) ^^^ 4294967295
theorem crcZ_lt (ks : List Int) {x : Nat} (h : x < 2 ^ 32) : crcZ ks x < 2 ^ 32 := Nat.xor_lt_two_pow (crcAll_lt _ (Nat.xor_lt_two_pow h (by decide))) (by decide)
structure CrS where
  c : Nat
  t : Tok
def crPs (c : CrS) : List (Str × Value) := [(Str.ofString "value", .int c.c c.t)]
def crP (v₀ : Nat) (pre : List Int) (c : CrS) : Prop := c.c = crcAll v₀ (pre.map Int.toNat) ∧ c.c < 2 ^ 32
section
variable {prog : Program} {w : World} {A : Around} {E : Value → Shared → Prop} {Q : Flow → Shared → Prop} {s : Shared} {env : Env} {h₀ : Heap} {L : Addr}
theorem cr_for {body : List Stmt} {m₀ : Str → Option Value} {ks : List Int} {news : List (Addr × Obj)} {b : Array UInt8} {tb t₀ : Tok} {v₀ : Int} {n₀ : Nat}
    (hb : KBw.bInts b = ks) (hh : A.handled = none) (F : Fr h₀ env.locals s.heap m₀) (N : News h₀ env.locals s.heap news) (hv : m₀ (Str.ofString "value") = some (.int v₀ t₀)) (h0 : v₀ = n₀) (h1 : n₀ < 2 ^ 32)
    (turn : ∀ (c : Nat) (t tn : Tok) (pre : List Int) (n : Nat) (u : Str → Option Value) h tk own, n < 256 → c < 2 ^ 32 → c = crcAll n₀ (pre.map Int.toNat) →
      Fr h₀ env.locals h (fun y => if y = Str.ofString "byte" then some (.int n tn) else if y = Str.ofString "value" then some (.int c t) else if ([] : List Str).contains y then u y else m₀ y) → News h₀ env.locals h (news ++ own) →
      wpAny (model prog w) A (execs body env) (InvPostN h₀ env.locals (KstS (fun _ => news) crPs (fun _ => True) (Str.ofString "byte") [] m₀ (crP n₀) (pre ++ [(n : Int)])) own (news.map (·.1)) { s with heap := h, toks := tk } Q) E { s with heap := h, toks := tk })
    (done : ∀ (c : Nat) (t : Tok) (u : Str → Option Value) h tk, c < 2 ^ 32 → c = crcAll n₀ (ks.map Int.toNat) → Fr h₀ env.locals h (fun y => if y = Str.ofString "byte" then u y else if y = Str.ofString "value" then some (.int c t) else if ([] : List Str).contains y then u y else m₀ y) → News h₀ env.locals h news → Q .next { s with heap := h, toks := tk }) :
    wpAny (model prog w) A (pyIter (.bytes b tb)) (fun it s₂ => LoopAtV prog w A h₀ env (Str.ofString "byte") body Q E it s₂) E s := by
  refine KStb.kst_bytes (fun _ => news) crPs (fun _ => True) [] (crP n₀) ⟨n₀, t₀⟩ hb rfl hh F N trivial ?_ ⟨rfl, h1⟩ ?_ ?_
  · intro p hp
    rw [List.mem_singleton.mp hp, ← h0]
    exact hv
  · rintro ⟨c, t⟩ pre post n tn u h tk own he hl hn0 hn1 _ _ ⟨p1, p2⟩ F₁ N₁
    obtain ⟨n, rfl⟩ := Int.eq_ofNat_of_zero_le hn0
    exact turn c t tn pre n u h tk own (by omega) p2 p1 F₁ N₁
  · rintro ⟨c, t⟩ u h tk _ _ ⟨p1, p2⟩ F₁ N₁
    exact done c t u h tk p2 p1 F₁ N₁
theorem cr_end {m₀ m' : Str → Option Value} {news own : List (Addr × Obj)} {pre : List Int} {n₀ n c : Nat} {x : Int} {t' : Tok} {h' : Heap} {tk : Nat} {s₁ : Shared}
    (F : Fr h₀ L h' m') (N : News h₀ L h' (news ++ own)) (hm : m' (Str.ofString "value") = some (.int x t')) (hx : x = (crcStep c n : Nat))
    (hr : ∀ z, z ≠ Str.ofString "byte" → z ≠ Str.ofString "value" → m' z = m₀ z) (hn : n < 256) (h1 : c < 2 ^ 32) (h2 : c = crcAll n₀ (pre.map Int.toNat)) :
    InvEndN h₀ L (KstS (fun _ => news) crPs (fun _ => True) (Str.ofString "byte") [] m₀ (crP n₀) (pre ++ [(n : Int)])) own (news.map (·.1)) s₁ { s₁ with heap := h', toks := tk } := by
  refine kst_end (⟨crcStep c n, t'⟩ : CrS) F N (fun p hp => List.mem_append.mpr (.inl hp)) (fun p hp => List.mem_append.mpr (.inr hp)) rfl trivial ?_ ?_ ⟨?_, crcStep_lt h1⟩
  · intro p hp
    rw [List.mem_singleton.mp hp]
    show m' _ = some (.int ((crcStep c n : Nat) : Int) t')
    rw [← hx]
    exact hm
  · intro z h3 h4 _
    exact hr z h3 (h4 _ (.head _))
  · show crcStep c n = _
    rw [h2, crcAll, crcAll, List.map_append, List.foldl_append]
    simp
end
theorem rowL_ok : ((List.range 256).all fun i => match rowL[i]? with | some (.int v _) => v == (crcTab i : Int) | _ => false) = true := by decide +kernel
theorem rowL_at {i : Nat} (h : i < 256) : ∃ t, rowL[i]? = some (.int (crcTab i : Nat) t) := by
  have h1 := List.all_eq_true.mp rowL_ok i (List.mem_range.mpr h)
  split at h1
  · rename_i v t e
    exact ⟨t, by rw [e, show v = (crcTab i : Int) by simpa using h1]⟩
  · cases h1
section
variable {prog : Program} {w : World} {A : Around} {E : Value → Shared → Prop} {s : Shared} {h₀ : Heap} {L : Addr} {K : Frag} {m : Str → Option Value}
theorem tab_item {a : Addr} {value slice : Expr} {k : Int} {u : Tok} {i : Nat} {Q : Value → Shared → Prop} (F : Fr h₀ L s.heap m) (X₀ : K.In h₀) (hl : K.lookup a = some ⟨.type "list", none, .seq rowL.toArray 256, #[]⟩)
    (hk : k = i) (hi : i < 256) (h : ∀ t, Q (.int (crcTab i : Nat) t) s)
    (hs : subscripted slice false (.ref a) (.int k u) = operate [.ref a, .int k u] (getItem (.ref a) (.int k u)) := by with_unfolding_all rfl) :
    wpAny (model prog w) A (subscriptTail value slice (.ref a) (.int k u)) Q E s := by
  obtain ⟨t, ht⟩ := rowL_at hi
  refine topList_K F X₀ hl (by omega) (by omega) (v := .int (crcTab i : Nat) t) ?_ (h t) hs
  rw [hk, Int.toNat_natCast]
  exact ht
end
def CrOut (z : Nat) (news : List (Addr × Obj)) (r : Value) (news' : List (Addr × Obj)) : Prop := ∃ x t, r = .int x t ∧ news' = news ∧ x = (z : Int)
def CrC (f : Addr) (prog : Program) (w : World) (K : Frag) (p : Program) (loose : List Str) (mean : ExcName → Option Value) (mg mb : Str → Option Value) : Prop :=
  ∀ (b : Array UInt8) (ks : List Int) (tb : Tok) (news : List (Addr × Obj)), KBw.bInts b = ks → ks.length ≤ 1000 →
    Fun prog w K p loose mean mg mb 20 f [.bytes b tb] news (CrOut (crcZ ks 0) news)
def CrD (f : Addr) (prog : Program) (w : World) (K : Frag) (p : Program) (loose : List Str) (mean : ExcName → Option Value) (mg mb : Str → Option Value) : Prop :=
  ∀ (b : Array UInt8) (ks : List Int) (tb : Tok) (news : List (Addr × Obj)) (x : Nat) (t : Tok), KBw.bInts b = ks → ks.length ≤ 1000 → x < 2 ^ 32 → Fun prog w K p loose mean mg mb 20 f [.bytes b tb, .int x t] news (CrOut (crcZ ks x) news)
theorem xor_M (x : Nat) : Builtin.bitXor (x : Int) 4294967295 = ((x ^^^ 4294967295 : Nat) : Int) := xor_nn x 4294967295
theorem step_x {c n : Nat} : Builtin.bitXor ((c : Int).fdiv (2 ^ (8 : Int).toNat)) ((crcTab ((c ^^^ n) % 256) : Nat) : Int) = (crcStep c n : Nat) := by
  have e : (c : Int).fdiv (2 ^ (8 : Int).toNat) = ((c / 256 : Nat) : Int) := by
    have : ((2 : Int) ^ (8 : Int).toNat) = 256 := by decide
    rw [this, Int.fdiv_eq_ediv_of_nonneg _ (by decide)]
    omega
  rw [e, xor_nn, crcStep]
theorem idx_x {c n : Nat} : Builtin.bitAnd (Builtin.bitXor (c : Int) (n : Int)) 255 = (((c ^^^ n) % 256 : Nat) : Int) := by rw [xor_nn, and255]
theorem xor_0 : Builtin.bitXor 0 4294967295 = ((0 ^^^ 4294967295 : Nat) : Int) := xor_nn 0 4294967295
theorem cr_val {c x : Nat} {ks : List Int} (h : c = crcAll (x ^^^ 4294967295) (ks.map Int.toNat)) : Builtin.bitXor (c : Int) 4294967295 = (crcZ ks x : Nat) := by rw [xor_M, crcZ, h]
section
variable {prog : Program} {w : World} {A : Around} {E : Value → Shared → Prop} {s : Shared} {h₀ : Heap} {L D : Addr} {m : Str → Option Value} {news : List (Addr × Obj)} {vs : List Value} {ns : List Int}
theorem mk_data {Q : Value → Shared → Prop} (F : Fr h₀ L s.heap m) (N : News h₀ L s.heap news) (hh : A.handled = none) (hl : s.heap.IsList D vs.toArray) (hi : IntsAre vs ns) (hr : KBa.In ns) (hn : ns.length ≤ 200)
    (h : ∀ (b : Array UInt8) (ks : List Int) h' t' k', Fr h₀ L h' m → News h₀ L h' [] → KBw.bInts b = ks → ks.length ≤ 200 → Q (.bytes b t') { s with heap := h', toks := k' }) : wpAny (model prog w) A (call (.type "bytes") [.ref D]) Q E s :=
  KBa.make_K F N hh hl hi hr (by omega) fun h' t' k' F' N' hIn => h _ _ h' t' k' F' (fun p hp => nomatch hp) (KBa.ints_make hIn) hn
end
section
variable {prog : Program} {w : World} {A : Around} {E : Value → Shared → Prop} {s : Shared} {h₀ : Heap} {L D : Addr} {m : Str → Option Value} {news : List (Addr × Obj)} {vs : List Value} {ns : List Int}
theorem mk_one {Q : Value → Shared → Prop} {y : Nat} {t : Tok} {nn : Nat} (F : Fr h₀ L s.heap m) (N : News h₀ L s.heap news) (hh : A.handled = none) (hl : (D, listOf #[.int y t] nn) ∈ news) (hy : y < 256)
    (h : ∀ (b : Array UInt8) h' t' k', Fr h₀ L h' m → News h₀ L h' [] → KBw.bInts b = [(y : Int)] → Q (.bytes b t') { s with heap := h', toks := k' }) : wpAny (model prog w) A (call (.type "bytes") [.ref D]) Q E s :=
  KBa.make_K (vs := [.int y t]) (ns := [(y : Int)]) F N hh (PySem.IsL.isList (n := nn) (N _ hl).1) (.cons _ _ .nil) (fun k hk => by rw [List.mem_singleton.mp hk]; omega) (by simp) fun h' t' k' F' N' hIn => h _ h' t' k' F' (fun p hp => nomatch hp) (KBa.ints_make hIn)
theorem xor_trn {d e : Int} {t u : Tok} {Q : Value → Shared → Prop} (h0 : 0 ≤ d) (h1 : d < 256) (e0 : 1 ≤ e) (e1 : e < 256) (h : ∀ (y : Nat) t' k, y < 256 → (y : Int) ≠ d → Q (.int y t') { s with toks := k }) : wpAny (model prog w) A (binaryOp .BitXor (.int d t) (.int e u)) Q E s := by
  obtain ⟨a, rfl⟩ := Int.eq_ofNat_of_zero_le h0
  obtain ⟨c, rfl⟩ := Int.eq_ofNat_of_zero_le (show 0 ≤ e by omega)
  refine xor_int ?_
  rw [xor_nn]
  refine h _ _ _ (Nat.xor_lt_two_pow (n := 8) (by omega) (by omega)) fun q => ?_
  have q' : a ^^^ c = a ^^^ 0 := by rw [Nat.xor_zero]; omega
  have := xor_can q'
  omega
end
theorem ne_len {b : Array UInt8} {ks : List Int} (hb : KBw.bInts b = ks) (h : (b.toList != (#[] : Array UInt8).toList) = true) : 0 < (ks.length : Int) := by
  have h2 : b.toList ≠ [] := by simpa using h
  have : 0 < b.toList.length := List.length_pos_iff.mpr h2
  rw [← hb, KBw.ints_length]
  have : b.size = b.toList.length := by simp
  omega
theorem toN {ks : List Int} {b : Array UInt8} (hb : KBw.bInts b = ks) {i : Nat} (h : i < ks.length) : ((ks.getD i 0).toNat : Int) = ks.getD i 0 ∧ (ks.getD i 0).toNat < 256 := by
  have hg : ks.getD i 0 = ks[i] := by simp [List.getD, List.getElem?_eq_getElem h]
  have hm : ks[i] ∈ KBw.bInts b := by rw [hb]; exact List.getElem_mem h
  have := KBw.ints_in hm
  rw [hg]
  omega
theorem crc_no {ks : List Int} {b : Array UInt8} (hb : KBw.bInts b = ks) {i y : Nat} (hi : i < ks.length) (hy : y < 256) (hn : (y : Int) ≠ ks.getD i 0) : crcZ ks 0 ≠ crcZ (ks.take i ++ [(y : Int)] ++ ks.drop (i + 1)) 0 := by
  intro e
  have hg : ks.getD i 0 = ks[i] := by simp [List.getD, List.getElem?_eq_getElem hi]
  have hd : ks = ks.take i ++ ks[i] :: ks.drop (i + 1) := by rw [← List.drop_eq_getElem_cons hi, List.take_append_drop]
  have h1 := toN hb hi
  unfold crcZ at e
  have e2 : crcAll (0 ^^^ 4294967295) (ks.map Int.toNat) = crcAll (0 ^^^ 4294967295) ((ks.take i ++ [(y : Int)] ++ ks.drop (i + 1)).map Int.toNat) := xor_can (a := 4294967295) (by rw [Nat.xor_comm, e, Nat.xor_comm])
  rw [List.append_assoc, List.map_append, List.map_append, List.map_singleton, Int.toNat_natCast, List.singleton_append] at e2
  have hm : ks.map Int.toNat = (ks.take i).map Int.toNat ++ (ks.getD i 0).toNat :: (ks.drop (i + 1)).map Int.toNat := by
    rw [hg]
    calc ks.map Int.toNat = (ks.take i ++ ks[i] :: ks.drop (i + 1)).map Int.toNat := by rw [← hd]
      _ = _ := by rw [List.map_append, List.map_cons]
  rw [hm] at e2
  have := crc_turned (by decide) h1.2 hy e2
  omega
theorem crc_cut (ks : List Int) (c : Nat) : crcZ (ks.drop c) (crcZ (ks.take c) 0) = crcZ ks 0 := by
  unfold crcZ
  rw [xor_back]
  have : ks.map Int.toNat = (ks.take c).map Int.toNat ++ (ks.drop c).map Int.toNat := by rw [← List.map_append, List.take_append_drop]
  rw [this]
  unfold crcAll
  rw [List.foldl_append]
theorem take_rest (ks : List Int) (c : Nat) : (ks.drop c).take (ks.length - c) = ks.drop c := List.take_of_length_le (by rw [List.length_drop]; omega)
section
variable {prog : Program} {w : World} {A : Around} {E : Value → Shared → Prop} {s : Shared} {t u : Tok} {Q : Value → Shared → Prop}
theorem eq_no {ks : List Int} {b : Array UInt8} {a : Int} {y : Nat} (hb : KBw.bInts b = ks) (h0 : 0 ≤ a) (h1 : a < (ks.length : Int)) (hy : y < 256) (hn : (y : Int) ≠ ks.getD a.toNat 0) (h : Q (.bool false) s) :
    wpAny (model prog w) A (compareOp .Eq (.int (crcZ ks 0 : Nat) t) (.int (crcZ (ks.take (clipAt ks.length a) ++ [(y : Int)] ++ (ks.drop (clipAt ks.length (a + 1))).take (ks.length - clipAt ks.length (a + 1))) 0 : Nat) u)) Q E s := by
  refine eq_int ?_
  have e1 : clipAt ks.length a = a.toNat := clipAt_in h0 (by omega)
  have e2 : clipAt ks.length (a + 1) = a.toNat + 1 := by rw [clipAt_in (by omega) (by omega)]; omega
  rw [take_rest, e1, e2]
  have := crc_no hb (i := a.toNat) (by omega) hy hn
  rw [show (((crcZ ks 0 : Nat) : Int) == ((crcZ (ks.take a.toNat ++ [(y : Int)] ++ ks.drop (a.toNat + 1)) 0 : Nat) : Int)) = false from by
    rw [beq_eq_false_iff_ne]; omega]
  exact h
theorem eq_yes {ks : List Int} {c : Nat} (h : Q (.bool true) s) : wpAny (model prog w) A (compareOp .Eq (.int (crcZ ((ks.drop c).take (ks.length - c)) (crcZ (ks.take c) 0) : Nat) t) (.int (crcZ ks 0 : Nat) u)) Q E s := by
  refine eq_int ?_
  rw [take_rest, crc_cut, beq_self_eq_true]
  exact h
end
end Mine
local macro_rules | `(tactic| walk_at "mine ne") => `(tactic| ((try dsimp only); first | assumption | k_ne | (refine Ne.symm ?_; assumption)))
local macro_rules | `(tactic| walk_at "mine off") => `(tactic| first | exact List.forall_mem_nil _ | assumption | exact Mine.off_lt (by assumption) | exact Mine.off_gt (by assumption) | (refine' List.forall_mem_cons.mpr ⟨?a, ?b⟩; (case a => walk_at "mine ne"); (case b => walk_at "mine off")) | (refine' List.forall_mem_append.mpr ⟨?a, ?b⟩; (case a => walk_at "mine off"); (case b => walk_at "mine off")))
local macro_rules | `(tactic| walk_at "mine upd") => `(tactic| first | (refine' Upd.head ?a; (case a => walk_at "mine off")) | (refine' Upd.tail ?a ?b; (case a => walk_at "mine ne"); (case b => walk_at "mine upd")))
local macro_rules | `(tactic| walk_at "mine size") => `(tactic| ((try law_lens); (simp only [List.size_toArray, Array.size_push, Array.size_append, List.length_append, List.length_cons, List.length_nil, List.length_take, List.length_drop, List.length_replicate, sizeLine_eq]); omega))
local macro_rules | `(tactic| walk_at "call builtin:list.append") => `(tactic| (k_here; (with_reducible show wpAny _ _ (call (Value.builtin "list.append") [Value.ref _, _]) _ _ _); k_dflt (refine' append_K ?k1 ?k2 ?k3 ?_ ?z; (case k1 => k_asm); (case k2 => k_asm); (case k3 => walk_at "mine upd"); (case z => walk_at "mine size"); k_whole); intro h' F' N'; (try k_sweep)))
local macro_rules | `(tactic| walk_at "mine updF") => `(tactic| first | (refine' UpdF.head ?a; (case a => walk_at "mine off")) | (refine' UpdF.tail ?a ?b; (case a => walk_at "mine ne"); (case b => walk_at "mine updF")))
local macro_rules | `(tactic| walk_at "call builtin:list.extend") => `(tactic| (k_here; (with_reducible show wpAny _ _ (call (Value.builtin "list.extend") [Value.ref _, Value.ref _]) _ _ _); k_dflt (refine' Mine.extend_U ?k1 ?k2 ?kb ?k3 ?z ?_; (case k1 => k_asm); (case k2 => k_asm); (case kb => k_mem); (case k3 => walk_at "mine updF"); (case z => walk_at "mine size"); k_whole); intro h' n' F' N'; (try dsimp only at N'); (try k_sweep)))
local macro_rules | `(tactic| walk_at "mine enter") => `(tactic| (refine' code_def ?k1 ?k2 ?k3 ?k4 ?k5 ?kA ?kF ?kK ?k6 ?k7 ?k8 ?k9 ?kB ?_ ?c2 ?c3 ?c4 ?c5; (case kA => exact rfl); (case kF => exact rfl); (case kK => assumption); (case k1 => k_asm); (case k2 => k_asm); (case k3 => k_asm); (case k4 => k_asm); (case k5 => k_asm); (case k6 => k_is); (case k7 => k_is); (case k8 => ktr_room); (case k9 => first | exact BindsTo.of_eq rfl | exact binds_K (by k_in) rfl (by k_is) rfl rfl rfl); (case c5 => decide); (case kB => exact locs rfl); (case c2 => exact rfl); (case c3 => exact rfl); (case c4 => exact rfl); k_whole; intro g' L' h' FG' F' N' B' X' T'; (try dsimp only); (try k_lift B'); (try k_fold)))
local macro_rules | `(tactic| walk_at "pyIter bytes") => `(tactic| (k_here; (with_reducible show wpAny _ _ (pyIter (Value.bytes _ _)) (fun it s₂ => LoopAtV _ _ _ _ _ _ _ _ _ it s₂) _ _); (rename Fr _ _ _ _ => lF'); (rename News _ _ _ _ => lN'); (with_unfolding_all refine' Mine.cr_for ?k1 ?k2 lF' lN' ?k3 ?k4 ?k5 ?_ ?_; (case k1 => assumption); (case k2 => exact rfl); (case k3 => exact rfl); (case k4 => with_reducible first | exact Mine.xor_0 | exact Mine.xor_M _); (case k5 => first | decide | exact Nat.xor_lt_two_pow (by assumption) (by decide))); (all_goals (try clear lF' lN')); (focus (intro c9 t9 tn9 pre9 n9 u9 h9 tk9 own9 kN9 kC9 kE9 kF kN; (try k_fold))); rotate_left; (focus (intro c9 t9 u9 h9 tk9 kC9 kE9 kF kN; (try k_unfold); (try dsimp only))); rotate_right))
local macro_rules | `(tactic| walk_at "subscriptTail Name BinOp ref int") => `(tactic| (k_here; (with_reducible show wpAny _ _ (subscriptTail _ _ (Value.ref _) (Value.int (Builtin.bitAnd (Builtin.bitXor _ _) _) _)) _ _ _); k_dflt (refine' Mine.tab_item ?F ?X ?l ?k ?i ?_; (case F => k_asm); (case X => k_asm); (case l => kernel_rfl); (case k => with_reducible exact Mine.idx_x); (case i => with_reducible exact Nat.mod_lt _ (by decide)); k_whole); intro t9))
local macro_rules | `(tactic| walk_at "InvEndN") => `(tactic| (k_here; (rename Fr _ _ _ _ => lF'); (rename News _ _ _ _ => lN'); with_unfolding_all (refine' Mine.cr_end lF' lN' ?k1 ?k2 ?k3 ?k4 ?k5 ?k6; (case k1 => exact rfl); (case k2 => exact Mine.step_x); (case k3 => (intro z h1 h2; simp only [h1, h2, if_false]; rfl)); (case k4 => assumption); (case k5 => assumption); (case k6 => assumption))))
local macro_rules | `(tactic| walk_at "mine crc") => `(tactic| (
  unfold Mine.CrC
  intro b ks tb news hb hl
  unfold Mine.Fun
  intro dp un gd cn cs a ccd cl outer A₀ base h₀ L m s Q E B F X N T hk hd hu hret
  refine wpAny_call ?_
  k_dflt (walk_at "mine enter")
  k_steps
  all_goals exact hret _ _ _ _ ⟨_, _, rfl, rfl, Mine.cr_val (by assumption)⟩ (by assumption) (by assumption)))
local macro_rules | `(tactic| walk_at "mine crc2") => `(tactic| (
  unfold Mine.CrD
  intro b ks tb news x t hb hl hx
  unfold Mine.Fun
  intro dp un gd cn cs a ccd cl outer A₀ base h₀ L m s Q E B F X N T hk hd hu hret
  refine wpAny_call ?_
  k_dflt (walk_at "mine enter")
  k_steps
  all_goals exact hret _ _ _ _ ⟨_, _, rfl, rfl, Mine.cr_val (by assumption)⟩ (by assumption) (by assumption)))
set_option maxRecDepth 100000 in
set_option maxHeartbeats 8000000 in
theorem Mine.cr_ctr {w : World} {p : Program} {loose : List Str} {mean : ExcName → Option Value} {mg mb : Str → Option Value} : Mine.CrC 1059 PySem.Challenge.rw_ui0507_06.row.prog w (Mine.hd.heap_39 w.params) p loose mean mg mb := by
  k_fill
  w_top off
  unfold Mine.CrC
  intro b ks tb news hb hl
  unfold Mine.Fun
  intro dp un gd cn cs a ccd cl outer A₀ base h₀ L m s Q E B F X N T hk hd hu hret
  refine wpAny_call ?_
  k_dflt (walk_at "mine enter")
  k_steps
  all_goals exact hret _ _ _ _ ⟨_, _, rfl, rfl, Mine.cr_val (by assumption)⟩ (by assumption) (by assumption)
set_option maxRecDepth 100000 in
set_option maxHeartbeats 8000000 in
theorem Mine.cd_ctr {w : World} {p : Program} {loose : List Str} {mean : ExcName → Option Value} {mg mb : Str → Option Value} : Mine.CrD 1059 PySem.Challenge.rw_ui0507_06.row.prog w (Mine.hd.heap_39 w.params) p loose mean mg mb := by
  k_fill
  w_top off
  unfold Mine.CrD
  intro b ks tb news x t hb hl hx
  unfold Mine.Fun
  intro dp un gd cn cs a ccd cl outer A₀ base h₀ L m s Q E B F X N T hk hd hu hret
  refine wpAny_call ?_
  k_dflt (walk_at "mine enter")
  k_steps
  all_goals exact hret _ _ _ _ ⟨_, _, rfl, rfl, Mine.cr_val (by assumption)⟩ (by assumption) (by assumption)
local macro_rules | `(tactic| walk_at "mine lens") => `(tactic| first | exact Nat.le_trans (by with_reducible assumption) (by decide) | ((simp only [List.length_append, List.length_take, List.length_drop, List.length_cons, List.length_nil]); omega))
local macro_rules | `(tactic| walk_at "call type:bytes") => `(tactic| (k_here; (with_reducible show wpAny _ _ (call (Value.type "bytes") [Value.ref _]) _ _ _); (try simp only [Mine.flat_one] at *); k_dflt (refine' Mine.mk_data ?kbaF ?kbaN ?kbah ?kbal ?kbai ?kbar ?kban ?_; (case kbaF => k_asm); (case kbaN => k_asm); (case kbah => rfl); (case kbal => kba_isList); (case kbai => kba_listInts); (case kbar => repeat' (first | refine Mine.in_app ?_ ?_ | refine Mine.in_rep (by l_fact) (by l_fact))); (case kban => (simp only [List.length_append, List.length_replicate]; l_fact)); k_whole); intro b9 ks9 h' t' k' F' N' kB9 kL9))
local macro_rules | `(tactic| walk_at "call type:bytes") => `(tactic| (k_here; (with_reducible show wpAny _ _ (call (Value.type "bytes") [Value.ref _]) _ _ _); k_dflt (refine' Mine.mk_one ?kbaF ?kbaN ?kbah ?kbal ?kbai ?_; (case kbaF => k_asm); (case kbaN => k_asm); (case kbah => rfl); (case kbal => k_mem); (case kbai => with_reducible assumption); k_whole); intro b9 h' t' k' F' N' kB8))
local macro_rules | `(tactic| walk_at "call builtin:len") => `(tactic| (k_here; (with_reducible show wpAny _ _ (call (Value.builtin "len") [Value.bytes _ _]) _ _ _); (with_reducible rename ((_ != _) = true) => kn9); (have kp9 := Mine.ne_len (by with_reducible assumption) kn9); (clear kn9); k_dflt (refine' KBw.len_K ?k1 ?k2 ?_; (case k1 => with_reducible assumption); (case k2 => omega); k_whole)))
local macro_rules | `(tactic| walk_at "binaryOp BitXor int int") => `(tactic| (k_here; (with_reducible show wpAny _ _ (binaryOp Operator.BitXor (Value.int (List.getD _ _ _) _) (Value.int _ _)) _ _ _); k_dflt (refine' Mine.xor_trn ?k1 ?k2 ?k3 ?k4 ?_; (case k1 => with_reducible assumption); (case k2 => with_reducible assumption); (case k3 => l_fact); (case k4 => l_fact); k_whole); intro y9 t9 k9 kY9 kZ9))
local macro_rules | `(tactic| walk_at "call ref") => `(tactic| (k_here; (with_reducible show wpAny _ _ (call (Value.ref 1059) [Value.bytes _ _]) _ _ _); k_dflt ((rename Mine.CrC _ _ _ _ _ _ _ _ _ => cL); refine' Mine.Fun.use ?kC ?k1 ?k2 ?k3 ?k4 ?k5 ?kK ?kd ?ku ?_; (case k2 => k_asm); (case k4 => k_asm); (case kC => (refine' cL _ _ _ _ ?l1 ?l2; (case l1 => with_reducible assumption); (case l2 => walk_at "mine lens"))); (case k1 => k_asm); (case k3 => k_asm); (case k5 => k_asm); (case kK => exact rfl); (case kd => ktr_room); (case ku => ktr_room); k_whole); (intro r9 nw9 h' tk9 kR F' N'); (unfold Mine.CrOut at kR); (obtain ⟨x9, t9, e1, e2, kX⟩ := kR); (subst kX); (subst e1); (subst e2)))
local macro_rules | `(tactic| walk_at "call ref") => `(tactic| (k_here; (with_reducible show wpAny _ _ (call (Value.ref 1059) [Value.bytes _ _, Value.int _ _]) _ _ _); k_dflt ((rename Mine.CrD _ _ _ _ _ _ _ _ _ => cM); refine' Mine.Fun.use ?kC ?k1 ?k2 ?k3 ?k4 ?k5 ?kK ?kd ?ku ?_; (case k2 => k_asm); (case k4 => k_asm); (case kC => (refine' cM _ _ _ _ _ _ ?l1 ?l2 ?l3; (case l1 => with_reducible assumption); (case l2 => walk_at "mine lens"); (case l3 => exact Mine.crcZ_lt _ (by decide)))); (case k1 => k_asm); (case k3 => k_asm); (case k5 => k_asm); (case kK => exact rfl); (case kd => ktr_room); (case ku => ktr_room); k_whole); (intro r9 nw9 h' tk9 kR F' N'); (unfold Mine.CrOut at kR); (obtain ⟨x9, t9, e1, e2, kX⟩ := kR); (subst kX); (subst e1); (subst e2)))
local macro_rules | `(tactic| walk_at "compareOp Eq int int") => `(tactic| (k_here; (with_reducible show wpAny _ _ (compareOp CmpOp.Eq (Value.int (Nat.cast (Mine.crcZ _ _)) _) (Value.int (Nat.cast (Mine.crcZ _ _)) _)) _ _ _); k_dflt (first | (with_reducible refine Mine.eq_yes ?_) | (refine' Mine.eq_no ?k1 ?k2 ?k3 ?k4 ?k5 ?_; (case k1 => with_reducible assumption); (case k2 => exact Int.fmod_nonneg_of_pos _ (by with_reducible assumption)); (case k3 => exact Int.fmod_lt_of_pos _ (by with_reducible assumption)); (case k4 => with_reducible assumption); (case k5 => with_reducible assumption); k_whole))))
set_option maxRecDepth 100000 in
set_option maxHeartbeats 8000000 in
theorem PySem.Challenge.cw_ui0507_06_holds : PySem.Challenge.rw_ui0507_06.Holds :=
  Mine.hd (by
  w_strict (k_go0; (all_goals try k_fold); (refine Mine.bring (fun prog w K p loose mean mg mb => Mine.CrC 1059 prog w K p loose mean mg mb ∧ Mine.CrD 1059 prog w K p loose mean mg mb) (by assumption) (by assumption) ?ctr ?_); (case ctr => exact ⟨Mine.cr_ctr, Mine.cd_ctr⟩); intro cW0; (obtain ⟨cC, cD⟩ := cW0); k_steps; (all_goals (try k_data)); all_goals w_report))
