/- How many nodes a tree of a meaning has, plain: the bound. -/
import Derived.Test.YtndhbdbfjkmloaaJTopTree18
namespace Go.Proofs.Ytndhbdbfjkmloaa

/-! the two tables: what may be known of k rules with so many names in them -/
def tabB : List (List Nat) :=
  [[0, 0, 0, 0, 0, 0, 0, 0, 0, 0, 0, 0, 0, 0, 0, 0, 0, 0, 0, 0, 0, 0, 0, 0, 0, 0, 0, 0, 0, 0, 0, 0, 0, 0, 0, 0, 0, 0, 0, 0, 0, 0, 0, 0, 0, 0, 0, 0, 0, 0, 0, 0, 0, 0, 0, 0, 0, 0, 0, 0, 0, 0, 0, 0, 0, 0, 0, 0, 0, 0, 0, 0, 0, 0, 0, 0, 0, 0, 0, 0, 0, 0, 0, 0, 0, 0, 0, 0, 0, 0, 0, 0, 0, 0, 0, 0, 0, 0, 0, 0, 0, 0, 0, 0, 0, 0, 0],
   [1, 1, 1, 1, 1, 1, 1, 1, 1, 1, 1, 1, 1, 1, 1, 1, 1, 1, 1, 1, 1, 1, 1, 1, 1, 1, 1, 1, 1, 1, 1, 1, 1, 1, 1, 1, 1, 1, 1, 1, 1, 1, 1, 1, 1, 1, 1, 1, 1, 1, 1, 1, 1, 1, 1, 1, 1, 1, 1, 1, 1, 1, 1, 1, 1, 1, 1, 1, 1, 1, 1, 1, 1, 1, 1, 1, 1, 1, 1, 1, 1, 1, 1, 1, 1, 1, 1, 1, 1, 1, 1, 1, 1, 1, 1, 1, 1, 1, 1, 1, 1, 1, 1, 1, 1, 1, 1],
   [1, 2, 3, 4, 5, 6, 7, 8, 9, 10, 11, 12, 13, 14, 15, 16, 17, 18, 19, 20, 21, 22, 23, 24, 25, 26, 27, 28, 29, 30, 31, 32, 33, 34, 35, 36, 37, 38, 39, 40, 41, 42, 43, 44, 45, 46, 47, 48, 49, 50, 51, 52, 53, 54, 55, 56, 57, 58, 59, 60, 61, 62, 63, 64, 65, 66, 67, 68, 69, 70, 71, 72, 73, 74, 75, 76, 77, 78, 79, 80, 81, 82, 83, 84, 85, 86, 87, 88, 89, 90, 91, 92, 93, 94, 95, 96, 97, 98, 99, 100, 101, 102, 103, 104, 105, 106, 107],
   [1, 2, 3, 5, 7, 10, 13, 17, 21, 26, 31, 37, 43, 50, 57, 65, 73, 82, 91, 101, 111, 122, 133, 145, 157, 170, 183, 197, 211, 226, 241, 257, 273, 290, 307, 325, 343, 362, 381, 401, 421, 442, 463, 485, 507, 530, 553, 577, 601, 626, 651, 677, 703, 730, 757, 785, 813, 842, 871, 901, 931, 962, 993, 1025, 1057, 1090, 1123, 1157, 1191, 1226, 1261, 1297, 1333, 1370, 1407, 1445, 1483, 1522, 1561, 1601, 1641, 1682, 1723, 1765, 1807, 1850, 1893, 1937, 1981, 2026, 2071, 2117, 2163, 2210, 2257, 2305, 2353, 2402, 2451, 2501, 2551, 2602, 2653, 2705, 2757, 2810, 2863],
   [1, 2, 3, 5, 7, 11, 16, 22, 31, 41, 53, 69, 86, 106, 131, 157, 187, 223, 260, 302, 351, 401, 457, 521, 586, 658, 739, 821, 911, 1011, 1112, 1222, 1343, 1465, 1597, 1741, 1886, 2042, 2211, 2381, 2563, 2759, 2956, 3166, 3391, 3617, 3857, 4113, 4370, 4642, 4931, 5221, 5527, 5851, 6176, 6518, 6879, 7241, 7621, 8021, 8422, 8842, 9283, 9725, 10187, 10671, 11156, 11662, 12191, 12721, 13273, 13849, 14426, 15026, 15651, 16277, 16927, 17603, 18280, 18982, 19711, 20441, 21197, 21981, 22766, 23578, 24419, 25261, 26131, 27031, 27932, 28862, 29823, 30785, 31777, 32801, 33826, 34882, 35971, 37061, 38183, 39339, 40496, 41686, 42911, 44137, 45397],
   [1, 2, 3, 5, 7, 11, 16, 23, 34, 49, 67, 94, 125, 165, 213, 277, 346, 431, 531, 656, 787, 943, 1123, 1339, 1562, 1821, 2115, 2458, 2809, 3209, 3657, 4169, 4690, 5275, 5923, 6652, 7391, 8211, 9111, 10111, 11122, 12233, 13443, 14774, 16117, 17581, 19165, 20893, 22634, 24519, 26547, 28744, 30955, 33335, 35883, 38627, 41386, 44341, 47491, 50866, 54257, 57873, 61713, 65809, 69922, 74291, 78915, 83828, 88759, 93979, 99487, 105319, 111170, 117345, 123843, 130702, 137581, 144821, 152421, 160421, 168442, 176863, 185683, 194944, 204227, 213951, 224115, 234763, 245434, 256589, 268227, 280394, 292585, 305305, 318553, 332377, 346226, 360651, 375651, 391276, 406927, 423203, 440103, 457679, 475282, 493561, 512515],
   [1, 2, 3, 5, 7, 11, 16, 23, 34, 49, 70, 103, 148, 202, 283, 377, 501, 661, 853, 1109, 1386, 1731, 2156, 2656, 3281, 3937, 4723, 5659, 6739, 8035, 9374, 10935, 12748, 14806, 17207, 19665, 22473, 25673, 29257, 33353, 37522, 42211, 47476, 53308, 59869, 66521, 73911, 82111, 91111, 101111, 111222, 122343, 134564, 147874, 162515, 177289, 193405, 210973, 229981, 250717, 271610, 294243, 318748, 345112, 373673, 402417, 433371, 466691, 502363, 540779, 579406, 620791, 665116, 712366, 762991, 813857, 868113, 925969, 987409, 1052945, 1118754, 1188675, 1262948, 1341556, 1425077, 1508905, 1597663, 1691623, 1790767, 1895743, 2001062, 2112231, 2229556, 2353018, 2483339, 2614041, 2751621, 2896421, 3048421, 3208421, 3368842, 3537283, 3714124, 3899344, 4093825, 4288769, 4492995],
   [1, 2, 3, 5, 7, 11, 16, 23, 34, 49, 70, 103, 148, 211, 310, 445, 607, 850, 1133, 1509, 2005, 2645, 3413, 4437, 5546, 6931, 8656, 10781, 13281, 16406, 19687, 23623, 28339, 33955, 40435, 48211, 56246, 65619, 76546, 89237, 103643, 120450, 137657, 157321, 179785, 205385, 234057, 266825, 300178, 337699, 379900, 427285, 479773, 538822, 598691, 665211, 739111, 821111, 911111, 1011111, 1112222, 1223443, 1345774, 1480205, 1626615, 1787666, 1950181, 2127469, 2320861, 2531677, 2759773, 3008605, 3259322, 3530931, 3825160, 4143725, 4486457, 4857750, 5231423, 5633839, 6067195, 6533675, 7033083, 7570907, 8111686, 8691091, 9311866, 9976741, 10685491, 11444866, 12207857, 13021713, 13889809, 14815505, 15798545, 16847121, 17900066, 19018819, 20207476, 21470117, 22806453, 24226310, 25651387, 27160291, 28757935, 30449215, 32233807],
   [1, 2, 3, 5, 7, 11, 16, 23, 34, 49, 70, 103, 148, 211, 310, 445, 634, 931, 1336, 1822, 2551, 3401, 4533, 6037, 8021, 10581, 13653, 17749, 22186, 27731, 34656, 43281, 53906, 66406, 82031, 98437, 118123, 141739, 170035, 203731, 242611, 289267, 337478, 393723, 459334, 535823, 624660, 725502, 843151, 963601, 1101257, 1258569, 1438281, 1643081, 1872457, 2134601, 2401426, 2701603, 3039292, 3419101, 3845566, 4317958, 4849399, 5388221, 5986911, 6652111, 7391111, 8211111, 9111111, 10111111, 11122222, 12234443, 13457874, 14803515, 16282256, 17892766, 19664327, 21451993, 23402173, 25529629, 27850333, 30380125, 33117277, 36103261, 39111866, 42371187, 45902104, 49727081, 53868426, 58323942, 63150751, 68008501, 73239923, 78873747, 84940731, 91471451, 98463163, 105992699, 113563606, 121675291, 130366366, 139677991, 149651116, 160282366, 171672991, 183117857, 195325713],
   [1, 2, 3, 5, 7, 11, 16, 23, 34, 49, 70, 103, 148, 211, 310, 445, 634, 931, 1336, 1903, 2794, 4009, 5467, 7654, 10205, 13605, 18133, 24149, 32085, 42325, 54613, 70997, 88746, 110931, 138656, 173281, 216406, 269531, 332031, 410156, 492187, 590623, 708739, 850435, 1020211, 1222387, 1455667, 1735603, 2024870, 2362347, 2756062, 3215339, 3750762, 4372621, 5078515, 5902058, 6745209, 7708809, 8810057, 10068553, 11506249, 13144649, 14979657, 17076809, 19211410, 21612835, 24314428, 27353629, 30771910, 34610095, 38861623, 43644592, 48493991, 53882211, 59869111, 66521111, 73911111, 82111111, 91111111, 101111111, 111222222, 122344443, 134578874, 148036615, 162838666, 179104817, 196820427, 216307598, 235971925, 257423917, 280826077, 306355549, 334203997, 364561501, 397407325, 433239133, 469342394, 508454259, 550825432, 596727353, 646452054, 700289539, 758211247, 820959764, 884110515, 952119015, 1025358923],
   [1, 2, 3, 5, 7, 11, 16, 23, 34, 49, 70, 103, 148, 211, 310, 445, 634, 931, 1336, 1903, 2794, 4009, 5710, 8383, 12028, 16402, 22963, 30617, 40821, 54421, 72533, 96597, 128341, 169301, 218453, 283989, 354986, 443731, 554656, 693281, 866406, 1082031, 1347656, 1660156, 2050781, 2460937, 2953123, 3543739, 4252435, 5102611, 6121267, 7334323, 8734003, 10413619, 12149222, 14174091, 16536430, 19292435, 22507374, 26255335, 30608348, 35549606, 41314407, 47216465, 53961673, 61670473, 70480457, 80548425, 92049993, 105157193, 119837257, 136614473, 153691282, 172902691, 194515516, 218829853, 246182662, 276947191, 311490856, 349754608, 392801329, 436445921, 484939911, 538822111, 598691111, 665211111, 739111111, 821111111, 911111111, 1011111111, 1112222222, 1223444443, 1345788874, 1480367615, 1628402766, 1791225327, 1970152988, 2165024698, 2379383579, 2595691177, 2831663101, 3089087005, 3369912925, 3676266589, 4010447965, 4374738013, 4768887901]]
def tabT : List (List Nat) :=
  [[0, 0, 0, 0, 0, 0, 0, 0, 0, 0, 0, 0, 0, 0, 0, 0, 0, 0, 0, 0, 0, 0, 0, 0, 0, 0, 0, 0, 0, 0, 0, 0, 0, 0, 0, 0, 0, 0, 0, 0, 0, 0, 0, 0, 0, 0, 0, 0, 0, 0, 0, 0, 0, 0, 0, 0, 0, 0, 0, 0, 0, 0, 0, 0, 0, 0, 0, 0, 0, 0, 0, 0, 0, 0, 0, 0, 0, 0, 0, 0, 0, 0, 0, 0, 0, 0, 0, 0, 0, 0, 0, 0, 0, 0, 0, 0, 0, 0, 0, 0, 0, 0, 0, 0, 0, 0, 0],
   [1, 1, 1, 1, 1, 1, 1, 1, 1, 1, 1, 1, 1, 1, 1, 1, 1, 1, 1, 1, 1, 1, 1, 1, 1, 1, 1, 1, 1, 1, 1, 1, 1, 1, 1, 1, 1, 1, 1, 1, 1, 1, 1, 1, 1, 1, 1, 1, 1, 1, 1, 1, 1, 1, 1, 1, 1, 1, 1, 1, 1, 1, 1, 1, 1, 1, 1, 1, 1, 1, 1, 1, 1, 1, 1, 1, 1, 1, 1, 1, 1, 1, 1, 1, 1, 1, 1, 1, 1, 1, 1, 1, 1, 1, 1, 1, 1, 1, 1, 1, 1, 1, 1, 1, 1, 1, 1],
   [2, 3, 4, 5, 6, 7, 8, 9, 10, 11, 12, 13, 14, 15, 16, 17, 18, 19, 20, 21, 22, 23, 24, 25, 26, 27, 28, 29, 30, 31, 32, 33, 34, 35, 36, 37, 38, 39, 40, 41, 42, 43, 44, 45, 46, 47, 48, 49, 50, 51, 52, 53, 54, 55, 56, 57, 58, 59, 60, 61, 62, 63, 64, 65, 66, 67, 68, 69, 70, 71, 72, 73, 74, 75, 76, 77, 78, 79, 80, 81, 82, 83, 84, 85, 86, 87, 88, 89, 90, 91, 92, 93, 94, 95, 96, 97, 98, 99, 100, 101, 102, 103, 104, 105, 106, 107, 108],
   [3, 4, 6, 8, 11, 14, 18, 22, 27, 32, 38, 44, 51, 58, 66, 74, 83, 92, 102, 112, 123, 134, 146, 158, 171, 184, 198, 212, 227, 242, 258, 274, 291, 308, 326, 344, 363, 382, 402, 422, 443, 464, 486, 508, 531, 554, 578, 602, 627, 652, 678, 704, 731, 758, 786, 814, 843, 872, 902, 932, 963, 994, 1026, 1058, 1091, 1124, 1158, 1192, 1227, 1262, 1298, 1334, 1371, 1408, 1446, 1484, 1523, 1562, 1602, 1642, 1683, 1724, 1766, 1808, 1851, 1894, 1938, 1982, 2027, 2072, 2118, 2164, 2211, 2258, 2306, 2354, 2403, 2452, 2502, 2552, 2603, 2654, 2706, 2758, 2811, 2864, 2918],
   [4, 5, 7, 10, 14, 19, 26, 35, 45, 58, 74, 91, 112, 137, 163, 194, 230, 267, 310, 359, 409, 466, 530, 595, 668, 749, 831, 922, 1022, 1123, 1234, 1355, 1477, 1610, 1754, 1899, 2056, 2225, 2395, 2578, 2774, 2971, 3182, 3407, 3633, 3874, 4130, 4387, 4660, 4949, 5239, 5546, 5870, 6195, 6538, 6899, 7261, 7642, 8042, 8443, 8864, 9305, 9747, 10210, 10694, 11179, 11686, 12215, 12745, 13298, 13874, 14451, 15052, 15677, 16303, 16954, 17630, 18307, 19010, 19739, 20469, 21226, 22010, 22795, 23608, 24449, 25291, 26162, 27062, 27963, 28894, 29855, 30817, 31810, 32834, 33859, 34916, 36005, 37095, 38218, 39374, 40531, 41722, 42947, 44173, 45434, 46730],
   [5, 6, 8, 11, 16, 22, 31, 43, 59, 80, 108, 141, 182, 234, 299, 371, 457, 562, 688, 823, 980, 1166, 1383, 1611, 1871, 2172, 2516, 2873, 3274, 3730, 4243, 4771, 5357, 6014, 6744, 7491, 8312, 9222, 10223, 11243, 12355, 13576, 14908, 16261, 17726, 19322, 21051, 22803, 24689, 26730, 28928, 31151, 33532, 36094, 38839, 41611, 44567, 47732, 51108, 54513, 58130, 61986, 66083, 70211, 74581, 79222, 84136, 89083, 94304, 99830, 105663, 111531, 117707, 124224, 131084, 137981, 145222, 152842, 160843, 168883, 177305, 186146, 195408, 204711, 214436, 224622, 235271, 245963, 257119, 268780, 280948, 293161, 305882, 319154, 332979, 346851, 361277, 376302, 391928, 407603, 423880, 440806, 458383, 476011, 494291, 513272, 532956],
   [6, 7, 9, 12, 17, 24, 34, 48, 67, 94, 130, 179, 243, 330, 433, 565, 730, 939, 1203, 1496, 1856, 2287, 2813, 3448, 4129, 4939, 5882, 6999, 8307, 9682, 11278, 13099, 15207, 17622, 20129, 22985, 26194, 29843, 33955, 38188, 42940, 48215, 54129, 60708, 67441, 74911, 83122, 92223, 102243, 112454, 123674, 135907, 149339, 164002, 178897, 195133, 212714, 231867, 252627, 273664, 296440, 320959, 347493, 376080, 404993, 436115, 469450, 505319, 543763, 582586, 624166, 668507, 715983, 766638, 817729, 872209, 930082, 991779, 1057347, 1123412, 1193588, 1267879, 1346777, 1430332, 1514449, 1603495, 1697474, 1796943, 1901955, 2007598, 2119090, 2236435, 2360259, 2490618, 2621681, 2759621, 2904442, 3056843, 3216883, 3377704, 3546544, 3723407, 3909069, 4103592, 4298977, 4503643, 4717594],
   [7, 8, 10, 13, 18, 25, 36, 51, 72, 102, 144, 201, 283, 392, 540, 735, 1000, 1320, 1733, 2262, 2923, 3763, 4824, 6015, 7481, 9282, 11438, 14073, 17254, 20688, 24775, 29636, 35295, 42003, 49858, 58149, 67775, 78948, 91696, 106459, 123372, 140976, 161033, 183882, 209555, 238755, 271660, 305595, 343693, 386462, 433938, 487173, 546394, 607080, 674411, 749112, 831223, 922243, 1022454, 1124673, 1236995, 1360416, 1494980, 1642743, 1804048, 1968024, 2146765, 2341598, 2552571, 2782419, 3031552, 3284151, 3557633, 3853722, 4172470, 4517425, 4889070, 5265120, 5669903, 6105612, 6572303, 7074483, 7612714, 8156445, 8738791, 9362492, 10027608, 10739763, 11499604, 12266208, 13083665, 13955346, 14881315, 15868483, 16917588, 17974899, 19098005, 20290998, 21553946, 22895229, 24315682, 25745976, 27260083, 28862912, 30554535, 32344995, 34235230],
   [8, 9, 11, 14, 19, 26, 37, 53, 75, 107, 152, 215, 305, 432, 604, 851, 1181, 1626, 2215, 3021, 4000, 5281, 6934, 9054, 11699, 15064, 19327, 24120, 30076, 37407, 46417, 57198, 70379, 86313, 103524, 124129, 148652, 177824, 211779, 252034, 299205, 349006, 407044, 474427, 552645, 641882, 745231, 863677, 986976, 1127809, 1288266, 1471066, 1676451, 1910060, 2173371, 2444940, 2750356, 3093239, 3478169, 3905454, 4384579, 4917657, 5463940, 6070801, 6744112, 7491132, 8312243, 9222454, 10224673, 11246994, 12371404, 13606947, 14964589, 16444794, 18070199, 19844685, 21648576, 23616289, 25761182, 28099190, 30630867, 33389056, 36378807, 39410176, 42693964, 46249231, 50098401, 54242126, 58726555, 63558121, 68446980, 73711681, 79378644, 85478584, 92012259, 99042794, 106578237, 114190710, 122346676, 131081867, 140437397, 150414138, 161096479, 172494333, 183993664, 196259329, 209338642],
   [9, 10, 12, 15, 20, 27, 38, 54, 77, 110, 157, 223, 319, 454, 644, 915, 1297, 1816, 2558, 3552, 4888, 6666, 9103, 12084, 16001, 21129, 27742, 36227, 46808, 60287, 77368, 96635, 120601, 150386, 187042, 232098, 286004, 351938, 431649, 517878, 621145, 744781, 891920, 1066959, 1270690, 1512261, 1795342, 2094435, 2443043, 2849316, 3320998, 3868532, 4493192, 5216690, 6045883, 6909416, 7895809, 9022481, 10306138, 11768547, 13411628, 15280571, 17387148, 19560339, 22004461, 24753214, 27839162, 31303542, 35149108, 39461322, 44259133, 49176570, 54639401, 60708021, 67441132, 74911343, 83122454, 92224673, 102246994, 112471403, 123716935, 136085456, 149676430, 164610504, 180892760, 198772346, 218291847, 238136220, 259782913, 283395481, 309134198, 337190307, 367570432, 400668855, 436546048, 472924491, 512332289, 555021546, 601240018, 651279242, 705147668, 763445426, 826255993, 889813694, 958257721, 1031963549, 1111301032],
   [10, 11, 13, 16, 21, 28, 39, 55, 78, 112, 160, 228, 327, 468, 666, 955, 1361, 1932, 2748, 3895, 5456, 7683, 10676, 14685, 20038, 27393, 36412, 48340, 64009, 84526, 110979, 144938, 187263, 241208, 309627, 386840, 483180, 603011, 751942, 935223, 1160532, 1430063, 1759774, 2158503, 2589894, 3107274, 3726877, 4468700, 5351535, 6401810, 7624197, 9073678, 10772451, 12567394, 14661052, 17101309, 19945228, 23247003, 27079796, 31452417, 36516974, 42321765, 48367064, 55275336, 63166481, 72179866, 82449123, 94148466, 107293115, 122244748, 139098003, 156484332, 176043060, 198040159, 222778946, 250552479, 281731988, 316342083, 355152118, 398333307, 442591330, 491765710, 546394021, 607080232, 674411343, 749113562, 831224673, 922246994, 1022471403, 1124716934, 1237185444, 1360886297, 1496940040, 1646440755, 1810715700, 1989820517, 2186496118, 2401212201, 2619502164, 2857634652, 3117394969, 3400745798, 3709610403, 4046283866, 4410845367, 4808026624, 5238554955]]

def Bt (k C : Nat) : Nat := (tabB.getD k []).getD C 0
def Tt (k C : Nat) : Nat := (tabT.getD k []).getD C 0
def chkL : Nat → Nat → Nat → List Nat → List Nat → Bool
  | c, b, t, x :: xs, y :: ys => (decide (1 + c * b ≤ x) && decide (b ≤ x) && decide (t + 1 + c * b ≤ y)) && chkL (c + 1) b t xs ys
  | _, _, _, _, _ => true
def chkR : List Nat → List Nat → List Nat → List Nat → Bool
  | b :: bs, t :: ts, x :: xs, y :: ys => chkL 0 b t (x :: xs) (y :: ys) && chkR bs ts xs ys
  | _, _, _, _ => true
def chkT : List (List Nat) → List (List Nat) → Bool
  | b :: b' :: bs, t :: t' :: ts => chkR b t b' t' && chkT (b' :: bs) (t' :: ts)
  | _, _ => true
theorem chkL_get : ∀ (X Y : List Nat) (c b t i x y : Nat), chkL c b t X Y = true → X[i]? = some x → Y[i]? = some y → 1 + (c + i) * b ≤ x ∧ b ≤ x ∧ t + 1 + (c + i) * b ≤ y
  | [], _, _, _, _, i, _, _, _, hx, _ => by simp at hx
  | _ :: _, [], _, _, _, i, _, _, _, _, hy => by simp at hy
  | u :: X, v :: Y, c, b, t, 0, x, y, h, hx, hy => by
    rw [chkL] at h
    simp only [Bool.and_eq_true, decide_eq_true_eq] at h
    simp at hx hy
    subst hx hy
    exact ⟨h.1.1.1, h.1.1.2, h.1.2⟩
  | u :: X, v :: Y, c, b, t, i + 1, x, y, h, hx, hy => by
    rw [chkL] at h
    simp only [Bool.and_eq_true, decide_eq_true_eq] at h
    have := chkL_get X Y (c + 1) b t i x y h.2 (by simpa using hx) (by simpa using hy)
    rw [show c + (i + 1) = c + 1 + i by omega]
    exact this
theorem chkR_get : ∀ (Bs Ts X Y : List Nat) (C c b t x y : Nat), chkR Bs Ts X Y = true → Bs[C]? = some b → Ts[C]? = some t → X[C + c]? = some x → Y[C + c]? = some y → 1 + c * b ≤ x ∧ b ≤ x ∧ t + 1 + c * b ≤ y
  | [], _, _, _, C, _, _, _, _, _, _, hb, _, _, _ => by simp at hb
  | _ :: _, [], _, _, C, _, _, _, _, _, _, _, ht, _, _ => by simp at ht
  | _ :: _, _ :: _, [], _, C, _, _, _, _, _, _, _, _, hx, _ => by simp at hx
  | _ :: _, _ :: _, _ :: _, [], C, _, _, _, _, _, _, _, _, _, hy => by simp at hy
  | u :: Bs, v :: Ts, p :: X, q :: Y, 0, c, b, t, x, y, h, hb, ht, hx, hy => by
    rw [chkR] at h
    simp only [Bool.and_eq_true] at h
    simp at hb ht
    subst hb ht
    have := chkL_get (p :: X) (q :: Y) 0 u v c x y h.1 (by simpa using hx) (by simpa using hy)
    simpa using this
  | u :: Bs, v :: Ts, p :: X, q :: Y, C + 1, c, b, t, x, y, h, hb, ht, hx, hy => by
    rw [chkR] at h
    simp only [Bool.and_eq_true] at h
    rw [show C + 1 + c = (C + c) + 1 by omega] at hx hy
    exact chkR_get Bs Ts X Y C c b t x y h.2 (by simpa using hb) (by simpa using ht) (by simpa using hx) (by simpa using hy)
theorem chkT_get : ∀ (B T : List (List Nat)) (k : Nat) (b b' t t' : List Nat), chkT B T = true → B[k]? = some b → B[k + 1]? = some b' → T[k]? = some t → T[k + 1]? = some t' → chkR b t b' t' = true
  | [], _, k, _, _, _, _, _, h1, _, _, _ => by simp at h1
  | [_], _, k, _, _, _, _, _, _, h2, _, _ => by simp at h2
  | _ :: _ :: _, [], k, _, _, _, _, _, _, _, h3, _ => by simp at h3
  | _ :: _ :: _, [_], k, _, _, _, _, _, _, _, _, h4 => by simp at h4
  | u :: u' :: B, v :: v' :: T, 0, b, b', t, t', h, h1, h2, h3, h4 => by
    rw [chkT] at h
    simp only [Bool.and_eq_true] at h
    simp at h1 h2 h3 h4
    subst h1 h2 h3 h4
    exact h.1
  | u :: u' :: B, v :: v' :: T, k + 1, b, b', t, t', h, h1, h2, h3, h4 => by
    rw [chkT] at h
    simp only [Bool.and_eq_true] at h
    exact chkT_get (u' :: B) (v' :: T) k b b' t t' h.2 (by simpa using h1) (by simpa using h2) (by simpa using h3) (by simpa using h4)
theorem tabs_ok : chkT tabB tabT = true := by decide +kernel
theorem tabs_len : (tabB.length = 11 ∧ tabT.length = 11) ∧ (∀ r ∈ tabB, r.length = 107) ∧ ∀ r ∈ tabT, r.length = 107 := by decide +kernel
theorem tabs_end : (List.range 11).all (fun k => (List.range 107).all fun C => decide (60 * (Tt k C + (2 * (106 - C) + 1) * Bt k C) ≤ 2700000000000)) = true := by decide +kernel
theorem tab_step {k C c : Nat} (hk : k < 10) (hC : C + c ≤ 106) : 1 + c * Bt k C ≤ Bt (k + 1) (C + c) ∧ Bt k C ≤ Bt (k + 1) (C + c) ∧ Tt k C + 1 + c * Bt k C ≤ Tt (k + 1) (C + c) := by
  obtain ⟨⟨l1, l2⟩, l3, l4⟩ := tabs_len
  have hb := List.getElem?_eq_getElem (l := tabB) (i := k) (by omega)
  have hb' := List.getElem?_eq_getElem (l := tabB) (i := k + 1) (by omega)
  have ht := List.getElem?_eq_getElem (l := tabT) (i := k) (by omega)
  have ht' := List.getElem?_eq_getElem (l := tabT) (i := k + 1) (by omega)
  have m1 := l3 _ (List.getElem_mem (l := tabB) (n := k) (by omega))
  have m2 := l3 _ (List.getElem_mem (l := tabB) (n := k + 1) (by omega))
  have m3 := l4 _ (List.getElem_mem (l := tabT) (n := k) (by omega))
  have m4 := l4 _ (List.getElem_mem (l := tabT) (n := k + 1) (by omega))
  have hR := chkT_get tabB tabT k _ _ _ _ tabs_ok hb hb' ht ht'
  unfold Bt Tt
  simp only [List.getD_eq_getElem?_getD, hb, hb', ht, ht', Option.getD_some]
  generalize tabB[k] = X at *
  generalize tabB[k + 1] = X' at *
  generalize tabT[k] = Y at *
  generalize tabT[k + 1] = Y' at *
  have e1 := List.getElem?_eq_getElem (l := X) (i := C) (by omega)
  have e2 := List.getElem?_eq_getElem (l := Y) (i := C) (by omega)
  have e3 := List.getElem?_eq_getElem (l := X') (i := C + c) (by omega)
  have e4 := List.getElem?_eq_getElem (l := Y') (i := C + c) (by omega)
  have := chkR_get X Y X' Y' C c _ _ _ _ hR e1 e2 e3 e4
  rw [e1, e2, e3, e4]
  exact this
theorem tab_end {k C m : Nat} (hk : k ≤ 10) (hm : C + m ≤ 106) : 60 * (Bt k C + m * Bt k C + (Tt k C + m * Bt k C)) ≤ 2700000000000 := by
  have h1 := List.all_eq_true.1 tabs_end k (List.mem_range.2 (by omega))
  have h2 := List.all_eq_true.1 h1 C (List.mem_range.2 (by omega))
  have h3 := of_decide_eq_true h2
  generalize Bt k C = b at *
  generalize Tt k C = t at *
  have h4 : (2 * m + 1) * b ≤ (2 * (106 - C) + 1) * b := Nat.mul_le_mul_right b (by omega)
  have h5 : (2 * m + 1) * b = 2 * (m * b) + b := by rw [Nat.add_mul, Nat.mul_assoc, Nat.one_mul]
  omega

/-! sums over what is known -/
def sumK : List Bool → Nat → (Nat → Nat) → Nat
  | [], _, _ => 0
  | b :: l, i, f => (if b = true then f i else 0) + sumK l (i + 1) f
theorem sumK_set : ∀ (l : List Bool) (i j : Nat) (f : Nat → Nat), l[j]? = some false → sumK (l.set j true) i f = sumK l i f + f (i + j)
  | [], i, j, f, h => by simp at h
  | b :: l, i, 0, f, h => by
    simp at h
    subst h
    simp [sumK]
    omega
  | b :: l, i, j + 1, f, h => by
    rw [List.set_cons_succ, sumK, sumK, sumK_set l (i + 1) j f (by simpa using h), show i + 1 + j = i + (j + 1) by omega]
    omega
theorem sumK_congr : ∀ (l : List Bool) (i : Nat) (f f' : Nat → Nat), (∀ j, l[j]? = some true → f (i + j) = f' (i + j)) → sumK l i f = sumK l i f'
  | [], _, _, _, _ => rfl
  | b :: l, i, f, f', h => by
    rw [sumK, sumK, sumK_congr l (i + 1) f f' fun j hj => by have := h (j + 1) (by simpa using hj); rwa [show i + (j + 1) = i + 1 + j by omega] at this]
    cases b with
    | false => simp
    | true => have := h 0 rfl; simp at this; simp [this]
theorem sumK_le : ∀ (l : List Bool) (i : Nat) (f f' : Nat → Nat), (∀ j, l[j]? = some true → f (i + j) ≤ f' (i + j)) → sumK l i f ≤ sumK l i f'
  | [], _, _, _, _ => Nat.le_refl _
  | b :: l, i, f, f', h => by
    have h1 := sumK_le l (i + 1) f f' fun j hj => by have := h (j + 1) (by simpa using hj); rwa [show i + (j + 1) = i + 1 + j by omega] at this
    rw [sumK, sumK]
    cases b with
    | false => simp; exact h1
    | true => have := h 0 rfl; simp at this; simp; omega
theorem sumK_mem : ∀ (l : List Bool) (i j : Nat) (f : Nat → Nat), l[j]? = some true → f (i + j) ≤ sumK l i f
  | [], _, _, _, h => by simp at h
  | b :: l, i, 0, f, h => by
    simp at h
    subst h
    simp [sumK]
  | b :: l, i, j + 1, f, h => by
    have := sumK_mem l (i + 1) j f (by simpa using h)
    rw [sumK, show i + (j + 1) = i + 1 + j by omega]
    omega
theorem sumK_add : ∀ (l : List Bool) (i : Nat) (f f' : Nat → Nat), sumK l i (fun j => f j + f' j) = sumK l i f + sumK l i f'
  | [], _, _, _ => rfl
  | b :: l, i, f, f' => by
    rw [sumK, sumK, sumK, sumK_add l (i + 1) f f']
    cases b <;> simp
    omega
theorem sumK_mul : ∀ (l : List Bool) (i : Nat) (f : Nat → Nat) (M : Nat), sumK l i (fun j => f j * M) = sumK l i f * M
  | [], _, _, M => by simp [sumK]
  | b :: l, i, f, M => by
    rw [sumK, sumK, sumK_mul l (i + 1) f M, Nat.add_mul]
    cases b <;> simp
theorem sumK_none : ∀ (n i : Nat) (f : Nat → Nat), sumK (List.replicate n false) i f = 0
  | 0, _, _ => rfl
  | n + 1, i, f => by rw [List.replicate_succ, sumK, sumK_none n (i + 1) f]; rfl
theorem sumK_list {h : Rl → Nat} : ∀ (kn : List Bool) (g : List Rl) (i : Nat) (f : Nat → Nat), kn.length ≤ g.length → (∀ (j : Nat) (r : Rl), g[j]? = some r → f (i + j) = h r) → sumK kn i f ≤ (g.map h).sum
  | [], _, _, _, _, _ => Nat.zero_le _
  | b :: kn, [], _, _, hl, _ => by simp at hl
  | b :: kn, r :: g, i, f, hl, hf => by
    have h1 := sumK_list kn g (i + 1) f (by simpa using hl) fun j r' hr => by have := hf (j + 1) r' (by simpa using hr); rwa [show i + (j + 1) = i + 1 + j by omega] at this
    have h2 := hf 0 r rfl
    rw [sumK, List.map_cons, List.sum_cons]
    rw [Nat.add_zero] at h2
    split <;> omega
/-- a number of each rule -/
def fR (g : List Rl) (h : Rl → Nat) (j : Nat) : Nat := match g[j]? with
  | some r => h r
  | none => 0
theorem fR_at {g : List Rl} {h : Rl → Nat} {j : Nat} {r : Rl} (hr : g[j]? = some r) : fR g h j = h r := by unfold fR; rw [hr]
theorem sumR {g : List Rl} {h : Rl → Nat} {kn : List Bool} (hl : kn.length ≤ g.length) : sumK kn 0 (fR g h) ≤ (g.map h).sum := sumK_list kn g 0 _ hl fun j r hr => by rw [Nat.zero_add]; exact fR_at hr

section
variable {g : List Rl} {s : List UInt8} {fs : List Fa} {zb gb : Nat → Nat} {kn : List Bool}
abbrev one1 : Nat → Nat := fun _ => 1
theorem z_le_c {M : Nat} (hM : ∀ i, zb i ≤ M) (e : Ex) : zE g fs zb e ≤ zE g fs one1 e * M := by
  refine Ex.ind (P := fun e => zE g fs zb e ≤ zE g fs one1 e * M) ?_ e
  intro k a b c d t ks ih
  rw [zE, zE]
  split
  · have := hM (fnd g t.data.toList).toNat; show _ ≤ 1 * M; omega
  · have hS : ∀ es : List Ex, (∀ e ∈ es, e ∈ ks) → zS g fs zb es ≤ zS g fs one1 es * M := by
      intro es
      induction es with
      | nil => intro _; rw [zS, zS]; omega
      | cons e es ihe =>
        intro hm
        have h1 := ih e (hm e (by simp))
        have h2 := ihe fun x hx => hm x (by simp [hx])
        rw [zS, zS, Nat.add_mul]
        split
        · rw [Nat.zero_mul]; omega
        · omega
    have hA : ∀ es : List Ex, (∀ e ∈ es, e ∈ ks) → zA g fs zb es ≤ zA g fs one1 es * M := by
      intro es
      induction es with
      | nil => intro _; rw [zA, zA]; omega
      | cons e es ihe =>
        intro hm
        have h1 := ih e (hm e (by simp))
        have h2 := ihe fun x hx => hm x (by simp [hx])
        rw [zA, zA, Nat.add_mul]
        omega
    split
    · exact hS ks fun e he => he
    · exact hA ks fun e he => he
theorem a_le_c {M : Nat} (hM : ∀ i, zb i ≤ M) (e : Ex) : aE g zb e + zE g fs one1 e * M ≤ zE g fs zb e + aE g one1 e * M := by
  refine Ex.ind (P := fun e => aE g zb e + zE g fs one1 e * M ≤ zE g fs zb e + aE g one1 e * M) ?_ e
  intro k a b c d t ks ih
  rw [zE, zE, aE, aE]
  split
  · omega
  · have hX : ∀ es : List Ex, aS g zb es ≤ aS g one1 es * M := by
      have hE : ∀ e : Ex, aE g zb e ≤ aE g one1 e * M := by
        intro e
        refine Ex.ind (P := fun e => aE g zb e ≤ aE g one1 e * M) ?_ e
        intro k a b c d t ks ih
        rw [aE, aE]
        split
        · have := hM (fnd g t.data.toList).toNat; show _ ≤ 1 * M; omega
        · have : ∀ es : List Ex, (∀ e ∈ es, e ∈ ks) → aS g zb es ≤ aS g one1 es * M := by
            intro es
            induction es with
            | nil => intro _; rw [aS, aS]; omega
            | cons e es ihe =>
              intro hm
              have h1 := ih e (hm e (by simp))
              have h2 := ihe fun x hx => hm x (by simp [hx])
              rw [aS, aS, Nat.add_mul]
              omega
          exact this ks fun e he => he
      intro es
      induction es with
      | nil => rw [aS, aS]; omega
      | cons e es ihe =>
        have h1 := hE e
        rw [aS, aS, Nat.add_mul]
        omega
    have hS : ∀ es : List Ex, (∀ e ∈ es, e ∈ ks) → aS g zb es + zS g fs one1 es * M ≤ zS g fs zb es + aS g one1 es * M := by
      intro es
      induction es with
      | nil => intro _; rw [zS, zS, aS, aS]; omega
      | cons e es ihe =>
        intro hm
        have h1 := ih e (hm e (by simp))
        have h2 := ihe fun x hx => hm x (by simp [hx])
        have h3 := hX es
        rw [zS, zS, aS, aS, Nat.add_mul, Nat.add_mul]
        split
        · rw [Nat.zero_mul]; omega
        · omega
    have hA : ∀ es : List Ex, (∀ e ∈ es, e ∈ ks) → aS g zb es + zA g fs one1 es * M ≤ zA g fs zb es + aS g one1 es * M := by
      intro es
      induction es with
      | nil => intro _; rw [zA, zA, aS, aS]; omega
      | cons e es ihe =>
        intro hm
        have h1 := ih e (hm e (by simp))
        have h2 := ihe fun x hx => hm x (by simp [hx])
        rw [zA, zA, aS, aS, Nat.add_mul, Nat.add_mul]
        omega
    split
    · exact hS ks fun e he => he
    · exact hA ks fun e he => he
theorem sound_at {i : Nat} (h : kn.getD i false = true) : kn[i]? = some true := by
  rw [List.getD_eq_getElem?_getD] at h
  cases hx : kn[i]? with
  | none => rw [hx] at h; cases h
  | some b => rw [hx] at h; simp at h; rw [h]
theorem soundA_all : ∀ {es : List Ex}, soundA g fs kn es = true → ∀ e ∈ es, soundE g fs kn e = true
  | [], _, e, he => by cases he
  | x :: es, h, e, he => by
    rw [soundA] at h
    split at h
    · cases h
    rename_i hx
    rcases List.mem_cons.1 he with rfl | he
    · simpa using hx
    · exact soundA_all h e he
theorem z_congr {zb' : Nat → Nat} (hk : ∀ i, kn[i]? = some true → zb i = zb' i) (e : Ex) : soundE g fs kn e = true → zE g fs zb e = zE g fs zb' e := by
  refine Ex.ind (P := fun e => soundE g fs kn e = true → zE g fs zb e = zE g fs zb' e) ?_ e
  intro k a b c d t ks ih hs
  rw [soundE] at hs
  rw [zE, zE]
  by_cases k4 : k = 4
  · rw [if_pos k4] at hs
    rw [if_pos k4, if_pos k4]
    exact hk _ (sound_at hs)
  rw [if_neg k4] at hs
  rw [if_neg k4, if_neg k4]
  by_cases k5 : k = 5
  · rw [if_pos k5] at hs
    rw [if_pos k5, if_pos k5]
    have : ∀ es : List Ex, (∀ e ∈ es, e ∈ ks) → soundS g fs kn es = true → zS g fs zb es = zS g fs zb' es := by
      intro es
      induction es with
      | nil => intro _ _; rw [zS, zS]
      | cons e es ihe =>
        intro hm hse
        rw [soundS] at hse
        split at hse
        · cases hse
        rename_i hx
        rw [zS, zS, ih e (hm e (by simp)) (by simpa using hx)]
        split at hse
        · rename_i hy; rw [if_pos hy, if_pos hy]
        · rename_i hy; rw [if_neg hy, if_neg hy, ihe (fun x hx => hm x (by simp [hx])) hse]
    exact this ks (fun e he => he) hs
  rw [if_neg k5] at hs
  rw [if_neg k5, if_neg k5]
  have hall := soundA_all hs
  have : ∀ es : List Ex, (∀ e ∈ es, e ∈ ks) → zA g fs zb es = zA g fs zb' es := by
    intro es
    induction es with
    | nil => intro _; rw [zA, zA]
    | cons e es ihe =>
      intro hm
      rw [zA, zA, ih e (hm e (by simp)) (hall e (hm e (by simp))), ihe fun x hx => hm x (by simp [hx])]
  exact this ks fun e he => he
theorem g_congr {gb' : Nat → Nat} (hk : ∀ i, kn[i]? = some true → gb i = gb' i) (e : Ex) : soundE g fs kn e = true → gE g fs zb gb e = gE g fs zb gb' e := by
  refine Ex.ind (P := fun e => soundE g fs kn e = true → gE g fs zb gb e = gE g fs zb gb' e) ?_ e
  intro k a b c d t ks ih hs
  rw [soundE] at hs
  rw [gE, gE]
  by_cases k4 : k = 4
  · rw [if_pos k4] at hs
    rw [if_pos k4, if_pos k4]
    exact hk _ (sound_at hs)
  rw [if_neg k4] at hs
  rw [if_neg k4, if_neg k4]
  by_cases k5 : k = 5
  · rw [if_pos k5] at hs
    rw [if_pos k5, if_pos k5]
    have : ∀ es : List Ex, (∀ e ∈ es, e ∈ ks) → soundS g fs kn es = true → gS g fs zb gb es = gS g fs zb gb' es := by
      intro es
      induction es with
      | nil => intro _ _; rw [gS, gS]
      | cons e es ihe =>
        intro hm hse
        rw [soundS] at hse
        split at hse
        · cases hse
        rename_i hx
        rw [gS, gS, ih e (hm e (by simp)) (by simpa using hx)]
        split at hse
        · rename_i hy; rw [if_pos hy, if_pos hy]
        · rename_i hy; rw [if_neg hy, if_neg hy, ihe (fun x hx => hm x (by simp [hx])) hse]
    exact this ks (fun e he => he) hs
  rw [if_neg k5] at hs
  rw [if_neg k5, if_neg k5]
  have hall := soundA_all hs
  have : ∀ es : List Ex, (∀ e ∈ es, e ∈ ks) → gA g fs zb gb es = gA g fs zb gb' es := by
    intro es
    induction es with
    | nil => intro _; rw [gA, gA]
    | cons e es ihe =>
      intro hm
      rw [gA, gA, ih e (hm e (by simp)) (hall e (hm e (by simp))), ihe fun x hx => hm x (by simp [hx])]
  exact this ks fun e he => he
/-- an expression's names, by its nodes -/
theorem names_few (e : Ex) : Rt g e → 8 * aE g one1 e ≤ 7 * nodes e + 1 := by
  refine Ex.ind (P := fun e => Rt g e → 8 * aE g one1 e ≤ 7 * nodes e + 1) ?_ e
  intro k a b c d t ks ih hR
  cases hR with
  | mk _ _ _ _ _ _ _ hfit hname hkids =>
  have hfc := fit_cases hfit
  have hl : ks.length ≤ 8 := by omega
  rw [aE, nodes]
  split
  · show 8 * 1 ≤ _; omega
  · have : ∀ es : List Ex, (∀ e ∈ es, e ∈ ks) → 8 * aS g one1 es ≤ 7 * nodesAll es + es.length := by
      intro es
      induction es with
      | nil => intro _; rw [aS]; omega
      | cons e es ihe =>
        intro hm
        have h1 := ih e (hm e (by simp)) (hkids e (hm e (by simp)))
        have h2 := ihe fun x hx => hm x (by simp [hx])
        rw [aS, nodesAll, List.length_cons]
        omega
    have := this ks fun e he => he
    omega
theorem sum_few : ∀ {l : List Rl}, (∀ r ∈ l, Rt g r.2) → 8 * (l.map fun r => aE g one1 r.2).sum ≤ 7 * (l.map fun r => nodes r.2).sum + l.length
  | [], _ => by simp
  | r :: l, h => by
    have h1 := names_few r.2 (h r (by simp))
    have h2 := sum_few (l := l) fun x hx => h x (by simp [hx])
    simp only [List.map_cons, List.sum_cons, List.length_cons]
    omega

/-- what is known of the rules of which it is known that they come to an end -/
structure KnZ (g : List Rl) (fs : List Fa) (kn : List Bool) (zb : Nat → Nat) : Prop where
  all : ∀ i, zb i ≤ Bt (sumK kn 0 one1) (sumK kn 0 (fR g fun r => zE g fs one1 r.2))
  sum : sumK kn 0 zb ≤ Tt (sumK kn 0 one1) (sumK kn 0 (fR g fun r => zE g fs one1 r.2))
  rule : ∀ (i : Nat) (r : Rl), kn[i]? = some true → g[i]? = some r → soundE g fs kn r.2 = true ∧ zb i = 1 + zE g fs zb r.2
theorem leL_true {i : Nat} (h : kn[i]? = some false) : LeL boOrd kn (kn.set i true) := leL_set boOrd h (fun h => by cases h)
theorem sum_106 (R : RightG g) {kn : List Bool} (hl : kn.length ≤ g.length) : sumK kn 0 (fR g fun r => aE g one1 r.2) ≤ 106 := by
  have h1 := sumR (g := g) (h := fun r => aE g one1 r.2) hl
  have h2 := sum_few (g := g) R.rt
  have h3 := R.nodes
  have h4 := R.ten
  omega
theorem sum_ten (R : RightG g) {kn : List Bool} (hl : kn.length ≤ g.length) : sumK kn 0 one1 ≤ 10 := by
  have h1 := sumK_list (h := fun _ => 1) kn g 0 one1 hl fun j r hr => rfl
  have h2 : ∀ l : List Rl, (l.map fun _ => 1).sum = l.length := fun l => by
    induction l with
    | nil => rfl
    | cons x l ih => rw [List.map_cons, List.sum_cons, ih, List.length_cons, Nat.add_comm]
  rw [h2] at h1
  have := R.ten
  omega
theorem sum_c_a (kn : List Bool) : sumK kn 0 (fR g fun r => zE g fs one1 r.2) ≤ sumK kn 0 (fR g fun r => aE g one1 r.2) := sumK_le _ _ _ _ fun j _ => by
  rw [Nat.zero_add]
  unfold fR
  split
  · exact z_le_a _
  · exact Nat.le_refl _
theorem kn_z (R : RightG g) : ∃ zb, KnZ g fs (knownG g fs) zb := by
  refine (grow_keeps (nx := nxB g fs) (P := fun kn => kn.length = g.length ∧ ∃ zb, KnZ g fs kn zb) (fun kn i h hi hne => ⟨by simp; exact h.1, ?_⟩) _ _ ⟨by simp, fun _ => 0, fun i => Nat.zero_le _, by rw [sumK_none]; exact Nat.zero_le _, fun i r hi _ => ?_⟩).1.2
  · obtain ⟨hlen, zb, hz⟩ := h
    obtain ⟨r, hr⟩ : ∃ r, g[i]? = some r := ⟨_, List.getElem?_eq_getElem (by omega)⟩
    have hnx : nxB g fs kn i = soundE g fs kn r.2 := by unfold nxB; rw [hr]
    rw [hnx] at hne ⊢
    have hx : kn[i]? = some kn[i] := List.getElem?_eq_getElem hi
    generalize kn[i] = b at hx
    cases b with
    | true =>
      have := (hz.rule i r hx hr).1
      rw [this] at hne
      exact absurd hx hne
    | false =>
      have hs : soundE g fs kn r.2 = true := by
        cases hh : soundE g fs kn r.2 with
        | true => rfl
        | false => rw [hh] at hne; exact absurd hx hne
      rw [hs]
      have hLe := leL_true hx
      have e1 := sumK_set kn 0 i one1 hx
      have e2 := sumK_set kn 0 i (fR g fun r => zE g fs one1 r.2) hx
      rw [Nat.zero_add, fR_at hr] at e2
      have hl' : (kn.set i true).length ≤ g.length := by simp; omega
      have hk10 := sum_ten R hl'
      have hC := Nat.le_trans (sum_c_a (fs := fs) (g := g) (kn.set i true)) (sum_106 R hl')
      have hall := hz.all
      have hsum := hz.sum
      rw [e1] at hk10
      rw [e2] at hC
      generalize sumK kn 0 one1 = k at *
      generalize sumK kn 0 (fR g fun r => zE g fs one1 r.2) = C at *
      have hst := tab_step (k := k) (C := C) (c := zE g fs one1 r.2) (by show k < 10; have : k + 1 ≤ 10 := hk10; omega) hC
      have hzc := z_le_c (g := g) (fs := fs) hall r.2
      have hcg : ∀ j, kn[j]? = some true → zb j = (fun j => if j = i then 1 + zE g fs zb r.2 else zb j) j := fun j hj => by
        have : j ≠ i := by rintro rfl; rw [hx] at hj; cases hj
        simp only [if_neg this]
      refine ⟨fun j => if j = i then 1 + zE g fs zb r.2 else zb j, fun j => ?_, ?_, fun j r' hj hr' => ?_⟩
      · rw [e1, e2]
        show (if j = i then 1 + zE g fs zb r.2 else zb j) ≤ Bt (k + 1) _
        split
        · exact Nat.le_trans (Nat.add_le_add_left hzc 1) hst.1
        · exact Nat.le_trans (hall j) hst.2.1
      · rw [e1, e2, sumK_set kn 0 i _ hx, ← sumK_congr kn 0 zb _ fun j hj => by rw [Nat.zero_add]; exact hcg j hj]
        show sumK kn 0 zb + (if 0 + i = i then _ else _) ≤ Tt (k + 1) _
        rw [if_pos (Nat.zero_add i)]
        exact Nat.le_trans (by omega) hst.2.2
      · by_cases hij : i = j
        · subst hij
          rw [hr] at hr'
          injection hr' with hr'
          subst hr'
          refine ⟨sound_mono hLe _ hs, ?_⟩
          show (if i = i then _ else _) = _
          rw [if_pos rfl]
          exact congrArg (fun x => 1 + x) (z_congr hcg r.2 hs)
        · rw [List.getElem?_set_ne hij] at hj
          obtain ⟨q1, q2⟩ := hz.rule j r' hj hr'
          refine ⟨sound_mono hLe _ q1, ?_⟩
          show (if j = i then _ else _) = _
          rw [if_neg (Ne.symm hij), q2, z_congr hcg _ q1]
  · rw [List.getElem?_replicate] at hi
    split at hi
    · injection hi with hi; cases hi
    · cases hi
/-- what walks cost that take something -/
structure KnG (g : List Rl) (fs : List Fa) (zb : Nat → Nat) (kn : List Bool) (gb : Nat → Nat) : Prop where
  all : ∀ i, gb i ≤ sumK kn 0 (fR g fun r => 1 + aE g zb r.2)
  rule : ∀ (i : Nat) (r : Rl), kn[i]? = some true → g[i]? = some r → soundE g fs kn r.2 = true ∧ gb i = 1 + gE g fs zb gb r.2
theorem kn_g (zb : Nat → Nat) : ∃ gb, KnG g fs zb (knownG g fs) gb := by
  refine (grow_keeps (nx := nxB g fs) (P := fun kn => kn.length = g.length ∧ ∃ gb, KnG g fs zb kn gb) (fun kn i h hi hne => ⟨by simp; exact h.1, ?_⟩) _ _ ⟨by simp, fun _ => 0, fun i => Nat.zero_le _, fun i r hi _ => ?_⟩).1.2
  · obtain ⟨hlen, gb, hz⟩ := h
    obtain ⟨r, hr⟩ : ∃ r, g[i]? = some r := ⟨_, List.getElem?_eq_getElem (by omega)⟩
    have hnx : nxB g fs kn i = soundE g fs kn r.2 := by unfold nxB; rw [hr]
    rw [hnx] at hne ⊢
    have hx : kn[i]? = some kn[i] := List.getElem?_eq_getElem hi
    generalize kn[i] = b at hx
    cases b with
    | true =>
      have := (hz.rule i r hx hr).1
      rw [this] at hne
      exact absurd hx hne
    | false =>
      have hs : soundE g fs kn r.2 = true := by
        cases hh : soundE g fs kn r.2 with
        | true => rfl
        | false => rw [hh] at hne; exact absurd hx hne
      rw [hs]
      have hLe := leL_true hx
      have e2 := sumK_set kn 0 i (fR g fun r => 1 + aE g zb r.2) hx
      rw [Nat.zero_add, fR_at hr] at e2
      have hall := hz.all
      have hga := g_le_a (g := g) (fs := fs) (zb := zb) hall r.2
      have hcg : ∀ j, kn[j]? = some true → gb j = (fun j => if j = i then 1 + gE g fs zb gb r.2 else gb j) j := fun j hj => by
        have : j ≠ i := by rintro rfl; rw [hx] at hj; cases hj
        simp only [if_neg this]
      refine ⟨fun j => if j = i then 1 + gE g fs zb gb r.2 else gb j, fun j => ?_, fun j r' hj hr' => ?_⟩
      · rw [e2]
        show (if j = i then 1 + gE g fs zb gb r.2 else gb j) ≤ _
        have := hall j
        split <;> omega
      · by_cases hij : i = j
        · subst hij
          rw [hr] at hr'
          injection hr' with hr'
          subst hr'
          refine ⟨sound_mono hLe _ hs, ?_⟩
          show (if i = i then _ else _) = _
          rw [if_pos rfl]
          exact congrArg (fun x => 1 + x) (g_congr hcg r.2 hs)
        · rw [List.getElem?_set_ne hij] at hj
          obtain ⟨q1, q2⟩ := hz.rule j r' hj hr'
          refine ⟨sound_mono hLe _ q1, ?_⟩
          show (if j = i then _ else _) = _
          rw [if_neg (Ne.symm hij), q2, g_congr hcg _ q1]
  · rw [List.getElem?_replicate] at hi
    split at hi
    · injection hi with hi; cases hi
    · cases hi
/-- no tree has more nodes -/
theorem tree_few (W : WellG g) (h60 : s.length ≤ 60) {r : Rl} (hr : r ∈ g) {n p q : Nat} (hp : p ≤ s.length) (h : evJ g s n (.ex r.2) p = some (some q)) : 1 + trAll (trJ g s n (.ex r.2) p) ≤ 2700000000000 := by
  have H := fits_of W.right
  obtain ⟨zb, hz⟩ := kn_z (fs := factsG g) W.right
  obtain ⟨gb, hg⟩ := kn_g (g := g) (fs := factsG g) zb
  have hlen : (knownG g (factsG g)).length ≤ g.length := by rw [known_len]; exact Nat.le_refl _
  have hlt : ∀ (i : Nat) (r : Rl), g[i]? = some r → (knownG g (factsG g))[i]? = some true := fun i r hi => W.known i (getElem?_lt hi)
  have hzr : ∀ (i : Nat) (r : Rl), g[i]? = some r → 1 + zE g (factsG g) zb r.2 ≤ zb i := fun i r hi => Nat.le_of_eq (hz.rule i r (hlt i r hi) hi).2.symm
  have hgr : ∀ (i : Nat) (r : Rl), g[i]? = some r → 1 + gE g (factsG g) zb gb r.2 ≤ gb i := fun i r hi => Nat.le_of_eq (hg.rule i r (hlt i r hi) hi).2.symm
  have hgood : ∀ r ∈ g, GoodE g (factsG g) r.2 := fun r hr => W.good hr
  have hk10 := sum_ten W.right hlen
  have hR := sum_106 W.right hlen
  have hz1 := hz.all
  have hz2 := hz.sum
  have hg1 := hg.all
  have hsp : sumK (knownG g (factsG g)) 0 (fR g fun r => aE g one1 r.2) = sumK (knownG g (factsG g)) 0 (fR g fun r => zE g (factsG g) one1 r.2) + sumK (knownG g (factsG g)) 0 (fR g fun r => aE g one1 r.2 - zE g (factsG g) one1 r.2) := by
    rw [← sumK_add]
    refine sumK_congr _ _ _ _ fun j _ => ?_
    rw [Nat.zero_add]
    cases hgj : g[j]? with
    | none => simp only [fR, hgj]
    | some r' =>
      have := z_le_a (g := g) (fs := factsG g) (zb := one1) r'.2
      simp only [fR, hgj]
      omega
  generalize hM : Bt (sumK (knownG g (factsG g)) 0 one1) (sumK (knownG g (factsG g)) 0 (fR g fun r => zE g (factsG g) one1 r.2)) = M at hz1
  have hA : ∀ (i : Nat) (r : Rl), g[i]? = some r → 1 + aE g zb r.2 ≤ zb i + (aE g one1 r.2 - zE g (factsG g) one1 r.2) * M := fun i r hi => by
    have h1 := a_le_c (g := g) (fs := factsG g) hz1 r.2
    have h2 := (hz.rule i r (hlt i r hi) hi).2
    have h3 := z_le_a (g := g) (fs := factsG g) (zb := one1) r.2
    have h4 : zE g (factsG g) one1 r.2 * M + (aE g one1 r.2 - zE g (factsG g) one1 r.2) * M = aE g one1 r.2 * M := by rw [← Nat.add_mul]; congr 1; omega
    omega
  have hSA : sumK (knownG g (factsG g)) 0 (fR g fun r => 1 + aE g zb r.2) ≤ sumK (knownG g (factsG g)) 0 zb + sumK (knownG g (factsG g)) 0 (fR g fun r => aE g one1 r.2 - zE g (factsG g) one1 r.2) * M := by
    rw [← sumK_mul, ← sumK_add]
    refine sumK_le _ _ _ _ fun j hj => ?_
    rw [Nat.zero_add]
    obtain ⟨r', hr'⟩ : ∃ r, g[j]? = some r := ⟨_, List.getElem?_eq_getElem (by have := getElem?_lt hj; omega)⟩
    simp only [fR_at hr']
    exact hA j r' hr'
  have ham : ∀ r ∈ g, aE g zb r.2 ≤ M + sumK (knownG g (factsG g)) 0 (fR g fun r => aE g one1 r.2 - zE g (factsG g) one1 r.2) * M := fun r hr => by
    obtain ⟨i, hi⟩ := List.getElem?_of_mem hr
    have h1 := hA i r hi
    have h2 := hz1 i
    have h3 := sumK_mem _ 0 i (fR g fun r => aE g one1 r.2 - zE g (factsG g) one1 r.2) (hlt i r hi)
    rw [Nat.zero_add, fR_at hi] at h3
    have h4 := Nat.mul_le_mul_right M h3
    omega
  rw [hsp] at hR
  have hE := tab_end hk10 hR
  rw [hM] at hE
  generalize sumK (knownG g (factsG g)) 0 (fR g fun r => aE g one1 r.2 - zE g (factsG g) one1 r.2) = m at *
  generalize sumK (knownG g (factsG g)) 0 (fR g fun r => 1 + aE g zb r.2) = G at *
  generalize sumK (knownG g (factsG g)) 0 zb = Z at *
  generalize Tt (sumK (knownG g (factsG g)) 0 one1) (sumK (knownG g (factsG g)) 0 (fR g fun r => zE g (factsG g) one1 r.2)) = T at *
  have hD : 60 * (M + m * M + G) ≤ 2700000000000 := Nat.le_trans (Nat.mul_le_mul_left 60 (by omega)) hE
  obtain ⟨i, hi⟩ := List.getElem?_of_mem hr
  have ht := told_of H (hgood r hr) hp h
  rcases Nat.lt_or_ge p q with hpq | hpq
  · have h1 := (pLen (s := s) H hgood hzr hgr ham hg1 (Nat.le_refl _) n).ex r.2 p q (hgood r hr) (ham r hr) hp hpq h
    have h2 := hgr i r hi
    have h3 := hg1 i
    have h4 : (q - p - 1) * (M + m * M + G) ≤ 59 * (M + m * M + G) := Nat.mul_le_mul_right _ (by omega)
    omega
  · obtain rfl : q = p := by omega
    have h1 := (zLen (s := s) H hgood hzr n).ex r.2 q (hgood r hr) hp h
    have h2 := hzr i r hi
    have h3 := hz1 i
    omega
end
end Go.Proofs.Ytndhbdbfjkmloaa
