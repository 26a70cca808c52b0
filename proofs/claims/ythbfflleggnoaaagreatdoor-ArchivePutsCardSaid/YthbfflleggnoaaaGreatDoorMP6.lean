/- The code is the program's. The program's data as Lean data, and as the VM's values. Numbers with a point, by their bits: is one none, is one nought. The bytes of an inode, as lists. Numbers as bytes. Bits of 64. Times: both the program's functions and the document's answer the same. The arguments' shapes, as data. Sums of 64 bits: both the program's functions and the document's answer the same. Texts sealed: both functions answer the same. Numbers and texts behind bytes: the program's functions. Numbers and texts behind bytes: the document's functions. Items as the document's. Calls that are the same are equal, if each has a time. Items as bytes, in plain Lean; a chain of numbers and texts behind bytes. archive.Put: what it computes. The document's Put: what it computes. Slices that running code owns: appended to, read, handed back. The calls that lay items, in plain Lean; a slash is cut off. archive.Calls: what it computes. The document's Calls: what it computes. Are items small? What follows if so. The law's own runs, by the kernel. The law ArchivePuts answers true. -/
import Derived.Test.YthbfflleggnoaaaGreatDoorMP0
import Derived.Test.YthbfflleggnoaaaGreatDoorMP2
import Derived.Test.YthbfflleggnoaaaGreatDoorMP3
import Derived.Test.YthbfflleggnoaaaGreatDoorMP5
import Derived.Test.YthbfflleggnoaaaGreatDoorProg
section
set_option maxRecDepth 100000
namespace Go.Vm.Tryz
open Go Go.Vm Go.Proofs
theorem fit4 : fitFn Tryz.prog Tryz.f4 s4 = true := by kernel_rfl
theorem at4 : Tryz.prog.funcs[4]? = some Tryz.f4 := by kernel_rfl
theorem fit6 : fitFn Tryz.prog Tryz.f6 s6 = true := by kernel_rfl
theorem at6 : Tryz.prog.funcs[6]? = some Tryz.f6 := by kernel_rfl
theorem fit9 : fitFn Tryz.prog Tryz.f9 s9 = true := by kernel_rfl
theorem at9 : Tryz.prog.funcs[9]? = some Tryz.f9 := by kernel_rfl
theorem fit13 : fitFn Tryz.prog Tryz.f13 s13 = true := by kernel_rfl
theorem at13 : Tryz.prog.funcs[13]? = some Tryz.f13 := by kernel_rfl
theorem fit14 : fitFn Tryz.prog Tryz.f14 s14 = true := by kernel_rfl
theorem at14 : Tryz.prog.funcs[14]? = some Tryz.f14 := by kernel_rfl
theorem fit15 : fitFn Tryz.prog Tryz.f15 s15 = true := by kernel_rfl
theorem at15 : Tryz.prog.funcs[15]? = some Tryz.f15 := by kernel_rfl
theorem fit16 : fitFn Tryz.prog Tryz.f16 s16 = true := by kernel_rfl
theorem at16 : Tryz.prog.funcs[16]? = some Tryz.f16 := by kernel_rfl
theorem fit17 : fitFn Tryz.prog Tryz.f17 s17 = true := by kernel_rfl
theorem at17 : Tryz.prog.funcs[17]? = some Tryz.f17 := by kernel_rfl
theorem fit18 : fitFn Tryz.prog Tryz.f18 s18 = true := by kernel_rfl
theorem at18 : Tryz.prog.funcs[18]? = some Tryz.f18 := by kernel_rfl
theorem fit19 : fitFn Tryz.prog Tryz.f19 s19 = true := by kernel_rfl
theorem at19 : Tryz.prog.funcs[19]? = some Tryz.f19 := by kernel_rfl
theorem fit20 : fitFn Tryz.prog Tryz.f20 s20 = true := by kernel_rfl
theorem at20 : Tryz.prog.funcs[20]? = some Tryz.f20 := by kernel_rfl
theorem fit28 : fitFn Tryz.prog Tryz.f28 s28 = true := by kernel_rfl
theorem at28 : Tryz.prog.funcs[28]? = some Tryz.f28 := by kernel_rfl
theorem fit29 : fitFn Tryz.prog Tryz.f29 s29 = true := by kernel_rfl
theorem at29 : Tryz.prog.funcs[29]? = some Tryz.f29 := by kernel_rfl
theorem fit30 : fitFn Tryz.prog Tryz.f30 s30 = true := by kernel_rfl
theorem at30 : Tryz.prog.funcs[30]? = some Tryz.f30 := by kernel_rfl
theorem fit31 : fitFn Tryz.prog Tryz.f31 s31 = true := by kernel_rfl
theorem at31 : Tryz.prog.funcs[31]? = some Tryz.f31 := by kernel_rfl
theorem fit32 : fitFn Tryz.prog Tryz.f32 s32 = true := by kernel_rfl
theorem at32 : Tryz.prog.funcs[32]? = some Tryz.f32 := by kernel_rfl
theorem fit33 : fitFn Tryz.prog Tryz.f33 s33 = true := by kernel_rfl
theorem at33 : Tryz.prog.funcs[33]? = some Tryz.f33 := by kernel_rfl
theorem fit34 : fitFn Tryz.prog Tryz.f34 s34 = true := by kernel_rfl
theorem at34 : Tryz.prog.funcs[34]? = some Tryz.f34 := by kernel_rfl
theorem fit35 : fitFn Tryz.prog Tryz.f35 s35 = true := by kernel_rfl
theorem at35 : Tryz.prog.funcs[35]? = some Tryz.f35 := by kernel_rfl
theorem fit36 : fitFn Tryz.prog Tryz.f36 s36 = true := by kernel_rfl
theorem at36 : Tryz.prog.funcs[36]? = some Tryz.f36 := by kernel_rfl
theorem fit37 : fitFn Tryz.prog Tryz.f37 s37 = true := by kernel_rfl
theorem at37 : Tryz.prog.funcs[37]? = some Tryz.f37 := by kernel_rfl
theorem fit38 : fitFn Tryz.prog Tryz.f38 s38 = true := by kernel_rfl
theorem at38 : Tryz.prog.funcs[38]? = some Tryz.f38 := by kernel_rfl
theorem fit39 : fitFn Tryz.prog Tryz.f39 s39 = true := by kernel_rfl
theorem at39 : Tryz.prog.funcs[39]? = some Tryz.f39 := by kernel_rfl
theorem fit40 : fitFn Tryz.prog Tryz.f40 s40 = true := by kernel_rfl
theorem at40 : Tryz.prog.funcs[40]? = some Tryz.f40 := by kernel_rfl
theorem fit41 : fitFn Tryz.prog Tryz.f41 s41 = true := by kernel_rfl
theorem at41 : Tryz.prog.funcs[41]? = some Tryz.f41 := by kernel_rfl
theorem fit42 : fitFn Tryz.prog Tryz.f42 s42 = true := by kernel_rfl
theorem at42 : Tryz.prog.funcs[42]? = some Tryz.f42 := by kernel_rfl
theorem fit43 : fitFn Tryz.prog Tryz.f43 s43 = true := by kernel_rfl
theorem at43 : Tryz.prog.funcs[43]? = some Tryz.f43 := by kernel_rfl
theorem fit44 : fitFn Tryz.prog Tryz.f44 s44 = true := by kernel_rfl
theorem at44 : Tryz.prog.funcs[44]? = some Tryz.f44 := by kernel_rfl
theorem fit45 : fitFn Tryz.prog Tryz.f45 s45 = true := by kernel_rfl
theorem at45 : Tryz.prog.funcs[45]? = some Tryz.f45 := by kernel_rfl
theorem fit52 : fitFn Tryz.prog Tryz.f52 s52 = true := by kernel_rfl
theorem at52 : Tryz.prog.funcs[52]? = some Tryz.f52 := by kernel_rfl
theorem fit53 : fitFn Tryz.prog Tryz.f53 s53 = true := by kernel_rfl
theorem at53 : Tryz.prog.funcs[53]? = some Tryz.f53 := by kernel_rfl
theorem fit54 : fitFn Tryz.prog Tryz.f54 s54 = true := by kernel_rfl
theorem at54 : Tryz.prog.funcs[54]? = some Tryz.f54 := by kernel_rfl
theorem fit55 : fitFn Tryz.prog Tryz.f55 s55 = true := by kernel_rfl
theorem at55 : Tryz.prog.funcs[55]? = some Tryz.f55 := by kernel_rfl
theorem fit56 : fitFn Tryz.prog Tryz.f56 s56 = true := by kernel_rfl
theorem at56 : Tryz.prog.funcs[56]? = some Tryz.f56 := by kernel_rfl
theorem fit57 : fitFn Tryz.prog Tryz.f57 s57 = true := by kernel_rfl
theorem at57 : Tryz.prog.funcs[57]? = some Tryz.f57 := by kernel_rfl
theorem fit58 : fitFn Tryz.prog Tryz.f58 s58 = true := by kernel_rfl
theorem at58 : Tryz.prog.funcs[58]? = some Tryz.f58 := by kernel_rfl
theorem fit59 : fitFn Tryz.prog Tryz.f59 s59 = true := by kernel_rfl
theorem at59 : Tryz.prog.funcs[59]? = some Tryz.f59 := by kernel_rfl
theorem fit60 : fitFn Tryz.prog Tryz.f60 s60 = true := by kernel_rfl
theorem at60 : Tryz.prog.funcs[60]? = some Tryz.f60 := by kernel_rfl
theorem fit61 : fitFn Tryz.prog Tryz.f61 s61 = true := by kernel_rfl
theorem at61 : Tryz.prog.funcs[61]? = some Tryz.f61 := by kernel_rfl
theorem fit62 : fitFn Tryz.prog Tryz.f62 s62 = true := by kernel_rfl
theorem at62 : Tryz.prog.funcs[62]? = some Tryz.f62 := by kernel_rfl
theorem fit63 : fitFn Tryz.prog Tryz.f63 s63 = true := by kernel_rfl
theorem at63 : Tryz.prog.funcs[63]? = some Tryz.f63 := by kernel_rfl
theorem fit64 : fitFn Tryz.prog Tryz.f64 s64 = true := by kernel_rfl
theorem at64 : Tryz.prog.funcs[64]? = some Tryz.f64 := by kernel_rfl
theorem fit65 : fitFn Tryz.prog Tryz.f65 s65 = true := by kernel_rfl
theorem at65 : Tryz.prog.funcs[65]? = some Tryz.f65 := by kernel_rfl
theorem fit66 : fitFn Tryz.prog Tryz.f66 s66 = true := by kernel_rfl
theorem at66 : Tryz.prog.funcs[66]? = some Tryz.f66 := by kernel_rfl
theorem fit67 : fitFn Tryz.prog Tryz.f67 s67 = true := by kernel_rfl
theorem at67 : Tryz.prog.funcs[67]? = some Tryz.f67 := by kernel_rfl
theorem fit68 : fitFn Tryz.prog Tryz.f68 s68 = true := by kernel_rfl
theorem at68 : Tryz.prog.funcs[68]? = some Tryz.f68 := by kernel_rfl
theorem fit69 : fitFn Tryz.prog Tryz.f69 s69 = true := by kernel_rfl
theorem at69 : Tryz.prog.funcs[69]? = some Tryz.f69 := by kernel_rfl
theorem fit70 : fitFn Tryz.prog Tryz.f70 s70 = true := by kernel_rfl
theorem at70 : Tryz.prog.funcs[70]? = some Tryz.f70 := by kernel_rfl
theorem fit71 : fitFn Tryz.prog Tryz.f71 s71 = true := by kernel_rfl
theorem at71 : Tryz.prog.funcs[71]? = some Tryz.f71 := by kernel_rfl
theorem fit72 : fitFn Tryz.prog Tryz.f72 s72 = true := by kernel_rfl
theorem at72 : Tryz.prog.funcs[72]? = some Tryz.f72 := by kernel_rfl
theorem fit73 : fitFn Tryz.prog Tryz.f73 s73 = true := by kernel_rfl
theorem at73 : Tryz.prog.funcs[73]? = some Tryz.f73 := by kernel_rfl
theorem fit74 : fitFn Tryz.prog Tryz.f74 s74 = true := by kernel_rfl
theorem at74 : Tryz.prog.funcs[74]? = some Tryz.f74 := by kernel_rfl
theorem fit75 : fitFn Tryz.prog Tryz.f75 s75 = true := by kernel_rfl
theorem at75 : Tryz.prog.funcs[75]? = some Tryz.f75 := by kernel_rfl
theorem fit76 : fitFn Tryz.prog Tryz.f76 s76 = true := by kernel_rfl
theorem at76 : Tryz.prog.funcs[76]? = some Tryz.f76 := by kernel_rfl
theorem fit77 : fitFn Tryz.prog Tryz.f77 s77 = true := by kernel_rfl
theorem at77 : Tryz.prog.funcs[77]? = some Tryz.f77 := by kernel_rfl
theorem fit79 : fitFn Tryz.prog Tryz.f79 s79 = true := by kernel_rfl
theorem at79 : Tryz.prog.funcs[79]? = some Tryz.f79 := by kernel_rfl
theorem fit80 : fitFn Tryz.prog Tryz.f80 s80 = true := by kernel_rfl
theorem at80 : Tryz.prog.funcs[80]? = some Tryz.f80 := by kernel_rfl
theorem fit81 : fitFn Tryz.prog Tryz.f81 s81 = true := by kernel_rfl
theorem at81 : Tryz.prog.funcs[81]? = some Tryz.f81 := by kernel_rfl
theorem fit82 : fitFn Tryz.prog Tryz.f82 s82 = true := by kernel_rfl
theorem at82 : Tryz.prog.funcs[82]? = some Tryz.f82 := by kernel_rfl
theorem fit83 : fitFn Tryz.prog Tryz.f83 s83 = true := by kernel_rfl
theorem at83 : Tryz.prog.funcs[83]? = some Tryz.f83 := by kernel_rfl
theorem fit84 : fitFn Tryz.prog Tryz.f84 s84 = true := by kernel_rfl
theorem at84 : Tryz.prog.funcs[84]? = some Tryz.f84 := by kernel_rfl
theorem fit85 : fitFn Tryz.prog Tryz.f85 s85 = true := by kernel_rfl
theorem at85 : Tryz.prog.funcs[85]? = some Tryz.f85 := by kernel_rfl
theorem fit86 : fitFn Tryz.prog Tryz.f86 s86 = true := by kernel_rfl
theorem at86 : Tryz.prog.funcs[86]? = some Tryz.f86 := by kernel_rfl
theorem fit87 : fitFn Tryz.prog Tryz.f87 s87 = true := by kernel_rfl
theorem at87 : Tryz.prog.funcs[87]? = some Tryz.f87 := by kernel_rfl
theorem fit88 : fitFn Tryz.prog Tryz.f88 s88 = true := by kernel_rfl
theorem at88 : Tryz.prog.funcs[88]? = some Tryz.f88 := by kernel_rfl
theorem fit89 : fitFn Tryz.prog Tryz.f89 s89 = true := by kernel_rfl
theorem at89 : Tryz.prog.funcs[89]? = some Tryz.f89 := by kernel_rfl
theorem fit90 : fitFn Tryz.prog Tryz.f90 s90 = true := by kernel_rfl
theorem at90 : Tryz.prog.funcs[90]? = some Tryz.f90 := by kernel_rfl
theorem fit92 : fitFn Tryz.prog Tryz.f92 s92 = true := by kernel_rfl
theorem at92 : Tryz.prog.funcs[92]? = some Tryz.f92 := by kernel_rfl
theorem fit93 : fitFn Tryz.prog Tryz.f93 s93 = true := by kernel_rfl
theorem at93 : Tryz.prog.funcs[93]? = some Tryz.f93 := by kernel_rfl
theorem fit94 : fitFn Tryz.prog Tryz.f94 s94 = true := by kernel_rfl
theorem at94 : Tryz.prog.funcs[94]? = some Tryz.f94 := by kernel_rfl
theorem fit95 : fitFn Tryz.prog Tryz.f95 s95 = true := by kernel_rfl
theorem at95 : Tryz.prog.funcs[95]? = some Tryz.f95 := by kernel_rfl
theorem fit107 : fitFn Tryz.prog Tryz.f107 s107 = true := by kernel_rfl
theorem at107 : Tryz.prog.funcs[107]? = some Tryz.f107 := by kernel_rfl
theorem fit110 : fitFn Tryz.prog Tryz.f110 s110 = true := by kernel_rfl
theorem at110 : Tryz.prog.funcs[110]? = some Tryz.f110 := by kernel_rfl
theorem fit111 : fitFn Tryz.prog Tryz.f111 s111 = true := by kernel_rfl
theorem at111 : Tryz.prog.funcs[111]? = some Tryz.f111 := by kernel_rfl
theorem fit112 : fitFn Tryz.prog Tryz.f112 s112 = true := by kernel_rfl
theorem at112 : Tryz.prog.funcs[112]? = some Tryz.f112 := by kernel_rfl
theorem fit113 : fitFn Tryz.prog Tryz.f113 s113 = true := by kernel_rfl
theorem at113 : Tryz.prog.funcs[113]? = some Tryz.f113 := by kernel_rfl
theorem fit114 : fitFn Tryz.prog Tryz.f114 s114 = true := by kernel_rfl
theorem at114 : Tryz.prog.funcs[114]? = some Tryz.f114 := by kernel_rfl
theorem fit115 : fitFn Tryz.prog Tryz.f115 s115 = true := by kernel_rfl
theorem at115 : Tryz.prog.funcs[115]? = some Tryz.f115 := by kernel_rfl
theorem fit116 : fitFn Tryz.prog Tryz.f116 s116 = true := by kernel_rfl
theorem at116 : Tryz.prog.funcs[116]? = some Tryz.f116 := by kernel_rfl
theorem fit117 : fitFn Tryz.prog Tryz.f117 s117 = true := by kernel_rfl
theorem at117 : Tryz.prog.funcs[117]? = some Tryz.f117 := by kernel_rfl
theorem fit118 : fitFn Tryz.prog Tryz.f118 s118 = true := by kernel_rfl
theorem at118 : Tryz.prog.funcs[118]? = some Tryz.f118 := by kernel_rfl
theorem fit119 : fitFn Tryz.prog Tryz.f119 s119 = true := by kernel_rfl
theorem at119 : Tryz.prog.funcs[119]? = some Tryz.f119 := by kernel_rfl
theorem fit120 : fitFn Tryz.prog Tryz.f120 s120 = true := by kernel_rfl
theorem at120 : Tryz.prog.funcs[120]? = some Tryz.f120 := by kernel_rfl
theorem fit121 : fitFn Tryz.prog Tryz.f121 s121 = true := by kernel_rfl
theorem at121 : Tryz.prog.funcs[121]? = some Tryz.f121 := by kernel_rfl
theorem fit122 : fitFn Tryz.prog Tryz.f122 s122 = true := by kernel_rfl
theorem at122 : Tryz.prog.funcs[122]? = some Tryz.f122 := by kernel_rfl
theorem fit123 : fitFn Tryz.prog Tryz.f123 s123 = true := by kernel_rfl
theorem at123 : Tryz.prog.funcs[123]? = some Tryz.f123 := by kernel_rfl
theorem fit124 : fitFn Tryz.prog Tryz.f124 s124 = true := by kernel_rfl
theorem at124 : Tryz.prog.funcs[124]? = some Tryz.f124 := by kernel_rfl
theorem fit125 : fitFn Tryz.prog Tryz.f125 s125 = true := by kernel_rfl
theorem at125 : Tryz.prog.funcs[125]? = some Tryz.f125 := by kernel_rfl
theorem fit126 : fitFn Tryz.prog Tryz.f126 s126 = true := by kernel_rfl
theorem at126 : Tryz.prog.funcs[126]? = some Tryz.f126 := by kernel_rfl
theorem fit127 : fitFn Tryz.prog Tryz.f127 s127 = true := by kernel_rfl
theorem at127 : Tryz.prog.funcs[127]? = some Tryz.f127 := by kernel_rfl
theorem fit129 : fitFn Tryz.prog Tryz.f129 s129 = true := by kernel_rfl
theorem at129 : Tryz.prog.funcs[129]? = some Tryz.f129 := by kernel_rfl
theorem fit130 : fitFn Tryz.prog Tryz.f130 s130 = true := by kernel_rfl
theorem at130 : Tryz.prog.funcs[130]? = some Tryz.f130 := by kernel_rfl
theorem fit131 : fitFn Tryz.prog Tryz.f131 s131 = true := by kernel_rfl
theorem at131 : Tryz.prog.funcs[131]? = some Tryz.f131 := by kernel_rfl
theorem fit132 : fitFn Tryz.prog Tryz.f132 s132 = true := by kernel_rfl
theorem at132 : Tryz.prog.funcs[132]? = some Tryz.f132 := by kernel_rfl
theorem fit133 : fitFn Tryz.prog Tryz.f133 s133 = true := by kernel_rfl
theorem at133 : Tryz.prog.funcs[133]? = some Tryz.f133 := by kernel_rfl
theorem fit140 : fitFn Tryz.prog Tryz.f140 s140 = true := by kernel_rfl
theorem at140 : Tryz.prog.funcs[140]? = some Tryz.f140 := by kernel_rfl
theorem fit141 : fitFn Tryz.prog Tryz.f141 s141 = true := by kernel_rfl
theorem at141 : Tryz.prog.funcs[141]? = some Tryz.f141 := by kernel_rfl
theorem fit142 : fitFn Tryz.prog Tryz.f142 s142 = true := by kernel_rfl
theorem at142 : Tryz.prog.funcs[142]? = some Tryz.f142 := by kernel_rfl
theorem fit143 : fitFn Tryz.prog Tryz.f143 s143 = true := by kernel_rfl
theorem at143 : Tryz.prog.funcs[143]? = some Tryz.f143 := by kernel_rfl
theorem fit148 : fitFn Tryz.prog Tryz.f148 s148 = true := by kernel_rfl
theorem at148 : Tryz.prog.funcs[148]? = some Tryz.f148 := by kernel_rfl
theorem fit149 : fitFn Tryz.prog Tryz.f149 s149 = true := by kernel_rfl
theorem at149 : Tryz.prog.funcs[149]? = some Tryz.f149 := by kernel_rfl
theorem fit150 : fitFn Tryz.prog Tryz.f150 s150 = true := by kernel_rfl
theorem at150 : Tryz.prog.funcs[150]? = some Tryz.f150 := by kernel_rfl
theorem fit151 : fitFn Tryz.prog Tryz.f151 s151 = true := by kernel_rfl
theorem at151 : Tryz.prog.funcs[151]? = some Tryz.f151 := by kernel_rfl
theorem fit152 : fitFn Tryz.prog Tryz.f152 s152 = true := by kernel_rfl
theorem at152 : Tryz.prog.funcs[152]? = some Tryz.f152 := by kernel_rfl
theorem fit153 : fitFn Tryz.prog Tryz.f153 s153 = true := by kernel_rfl
theorem at153 : Tryz.prog.funcs[153]? = some Tryz.f153 := by kernel_rfl
theorem fit154 : fitFn Tryz.prog Tryz.f154 s154 = true := by kernel_rfl
theorem at154 : Tryz.prog.funcs[154]? = some Tryz.f154 := by kernel_rfl
theorem fit155 : fitFn Tryz.prog Tryz.f155 s155 = true := by kernel_rfl
theorem at155 : Tryz.prog.funcs[155]? = some Tryz.f155 := by kernel_rfl
theorem fit160 : fitFn Tryz.prog Tryz.f160 s160 = true := by kernel_rfl
theorem at160 : Tryz.prog.funcs[160]? = some Tryz.f160 := by kernel_rfl
theorem fit162 : fitFn Tryz.prog Tryz.f162 s162 = true := by kernel_rfl
theorem at162 : Tryz.prog.funcs[162]? = some Tryz.f162 := by kernel_rfl
theorem fit166 : fitFn Tryz.prog Tryz.f166 s166 = true := by kernel_rfl
theorem at166 : Tryz.prog.funcs[166]? = some Tryz.f166 := by kernel_rfl
theorem fit167 : fitFn Tryz.prog Tryz.f167 s167 = true := by kernel_rfl
theorem at167 : Tryz.prog.funcs[167]? = some Tryz.f167 := by kernel_rfl
theorem fit168 : fitFn Tryz.prog Tryz.f168 s168 = true := by kernel_rfl
theorem at168 : Tryz.prog.funcs[168]? = some Tryz.f168 := by kernel_rfl
theorem fit169 : fitFn Tryz.prog Tryz.f169 s169 = true := by kernel_rfl
theorem at169 : Tryz.prog.funcs[169]? = some Tryz.f169 := by kernel_rfl
theorem fit170 : fitFn Tryz.prog Tryz.f170 s170 = true := by kernel_rfl
theorem at170 : Tryz.prog.funcs[170]? = some Tryz.f170 := by kernel_rfl
theorem fit171 : fitFn Tryz.prog Tryz.f171 s171 = true := by kernel_rfl
theorem at171 : Tryz.prog.funcs[171]? = some Tryz.f171 := by kernel_rfl
theorem fit172 : fitFn Tryz.prog Tryz.f172 s172 = true := by kernel_rfl
theorem at172 : Tryz.prog.funcs[172]? = some Tryz.f172 := by kernel_rfl
theorem fit180 : fitFn Tryz.prog Tryz.f180 s180 = true := by kernel_rfl
theorem at180 : Tryz.prog.funcs[180]? = some Tryz.f180 := by kernel_rfl
theorem fit181 : fitFn Tryz.prog Tryz.f181 s181 = true := by kernel_rfl
theorem at181 : Tryz.prog.funcs[181]? = some Tryz.f181 := by kernel_rfl
theorem fit182 : fitFn Tryz.prog Tryz.f182 s182 = true := by kernel_rfl
theorem at182 : Tryz.prog.funcs[182]? = some Tryz.f182 := by kernel_rfl
theorem fit183 : fitFn Tryz.prog Tryz.f183 s183 = true := by kernel_rfl
theorem at183 : Tryz.prog.funcs[183]? = some Tryz.f183 := by kernel_rfl
theorem fit184 : fitFn Tryz.prog Tryz.f184 s184 = true := by kernel_rfl
theorem at184 : Tryz.prog.funcs[184]? = some Tryz.f184 := by kernel_rfl
theorem fit185 : fitFn Tryz.prog Tryz.f185 s185 = true := by kernel_rfl
theorem at185 : Tryz.prog.funcs[185]? = some Tryz.f185 := by kernel_rfl
theorem fit188 : fitFn Tryz.prog Tryz.f188 s188 = true := by kernel_rfl
theorem at188 : Tryz.prog.funcs[188]? = some Tryz.f188 := by kernel_rfl
theorem fit189 : fitFn Tryz.prog Tryz.f189 s189 = true := by kernel_rfl
theorem at189 : Tryz.prog.funcs[189]? = some Tryz.f189 := by kernel_rfl
theorem fit190 : fitFn Tryz.prog Tryz.f190 s190 = true := by kernel_rfl
theorem at190 : Tryz.prog.funcs[190]? = some Tryz.f190 := by kernel_rfl
theorem fit191 : fitFn Tryz.prog Tryz.f191 s191 = true := by kernel_rfl
theorem at191 : Tryz.prog.funcs[191]? = some Tryz.f191 := by kernel_rfl
theorem fit192 : fitFn Tryz.prog Tryz.f192 s192 = true := by kernel_rfl
theorem at192 : Tryz.prog.funcs[192]? = some Tryz.f192 := by kernel_rfl
theorem fit193 : fitFn Tryz.prog Tryz.f193 s193 = true := by kernel_rfl
theorem at193 : Tryz.prog.funcs[193]? = some Tryz.f193 := by kernel_rfl
theorem fit194 : fitFn Tryz.prog Tryz.f194 s194 = true := by kernel_rfl
theorem at194 : Tryz.prog.funcs[194]? = some Tryz.f194 := by kernel_rfl
theorem fit195 : fitFn Tryz.prog Tryz.f195 s195 = true := by kernel_rfl
theorem at195 : Tryz.prog.funcs[195]? = some Tryz.f195 := by kernel_rfl
theorem fit196 : fitFn Tryz.prog Tryz.f196 s196 = true := by kernel_rfl
theorem at196 : Tryz.prog.funcs[196]? = some Tryz.f196 := by kernel_rfl
theorem fit197 : fitFn Tryz.prog Tryz.f197 s197 = true := by kernel_rfl
theorem at197 : Tryz.prog.funcs[197]? = some Tryz.f197 := by kernel_rfl
theorem fit198 : fitFn Tryz.prog Tryz.f198 s198 = true := by kernel_rfl
theorem at198 : Tryz.prog.funcs[198]? = some Tryz.f198 := by kernel_rfl
theorem fit199 : fitFn Tryz.prog Tryz.f199 s199 = true := by kernel_rfl
theorem at199 : Tryz.prog.funcs[199]? = some Tryz.f199 := by kernel_rfl
theorem fit203 : fitFn Tryz.prog Tryz.f203 s203 = true := by kernel_rfl
theorem at203 : Tryz.prog.funcs[203]? = some Tryz.f203 := by kernel_rfl
theorem fit205 : fitFn Tryz.prog Tryz.f205 s205 = true := by kernel_rfl
theorem at205 : Tryz.prog.funcs[205]? = some Tryz.f205 := by kernel_rfl
theorem fit207 : fitFn Tryz.prog Tryz.f207 s207 = true := by kernel_rfl
theorem at207 : Tryz.prog.funcs[207]? = some Tryz.f207 := by kernel_rfl
theorem fit208 : fitFn Tryz.prog Tryz.f208 s208 = true := by kernel_rfl
theorem at208 : Tryz.prog.funcs[208]? = some Tryz.f208 := by kernel_rfl
theorem fit217 : fitFn Tryz.prog Tryz.f217 s217 = true := by kernel_rfl
theorem at217 : Tryz.prog.funcs[217]? = some Tryz.f217 := by kernel_rfl
theorem fit218 : fitFn Tryz.prog Tryz.f218 s218 = true := by kernel_rfl
theorem at218 : Tryz.prog.funcs[218]? = some Tryz.f218 := by kernel_rfl
theorem fit219 : fitFn Tryz.prog Tryz.f219 s219 = true := by kernel_rfl
theorem at219 : Tryz.prog.funcs[219]? = some Tryz.f219 := by kernel_rfl
theorem fit221 : fitFn Tryz.prog Tryz.f221 s221 = true := by kernel_rfl
theorem at221 : Tryz.prog.funcs[221]? = some Tryz.f221 := by kernel_rfl
theorem fit222 : fitFn Tryz.prog Tryz.f222 s222 = true := by kernel_rfl
theorem at222 : Tryz.prog.funcs[222]? = some Tryz.f222 := by kernel_rfl
theorem fit223 : fitFn Tryz.prog Tryz.f223 s223 = true := by kernel_rfl
theorem at223 : Tryz.prog.funcs[223]? = some Tryz.f223 := by kernel_rfl
theorem fit224 : fitFn Tryz.prog Tryz.f224 s224 = true := by kernel_rfl
theorem at224 : Tryz.prog.funcs[224]? = some Tryz.f224 := by kernel_rfl
theorem fit225 : fitFn Tryz.prog Tryz.f225 s225 = true := by kernel_rfl
theorem at225 : Tryz.prog.funcs[225]? = some Tryz.f225 := by kernel_rfl
theorem fit226 : fitFn Tryz.prog Tryz.f226 s226 = true := by kernel_rfl
theorem at226 : Tryz.prog.funcs[226]? = some Tryz.f226 := by kernel_rfl
theorem fit227 : fitFn Tryz.prog Tryz.f227 s227 = true := by kernel_rfl
theorem at227 : Tryz.prog.funcs[227]? = some Tryz.f227 := by kernel_rfl
theorem fit229 : fitFn Tryz.prog Tryz.f229 s229 = true := by kernel_rfl
theorem at229 : Tryz.prog.funcs[229]? = some Tryz.f229 := by kernel_rfl
theorem fit230 : fitFn Tryz.prog Tryz.f230 s230 = true := by kernel_rfl
theorem at230 : Tryz.prog.funcs[230]? = some Tryz.f230 := by kernel_rfl
theorem fit231 : fitFn Tryz.prog Tryz.f231 s231 = true := by kernel_rfl
theorem at231 : Tryz.prog.funcs[231]? = some Tryz.f231 := by kernel_rfl
theorem fit240 : fitFn Tryz.prog Tryz.f240 s240 = true := by kernel_rfl
theorem at240 : Tryz.prog.funcs[240]? = some Tryz.f240 := by kernel_rfl
theorem fit241 : fitFn Tryz.prog Tryz.f241 s241 = true := by kernel_rfl
theorem at241 : Tryz.prog.funcs[241]? = some Tryz.f241 := by kernel_rfl
theorem fit250 : fitFn Tryz.prog Tryz.f250 s250 = true := by kernel_rfl
theorem at250 : Tryz.prog.funcs[250]? = some Tryz.f250 := by kernel_rfl
theorem fit251 : fitFn Tryz.prog Tryz.f251 s251 = true := by kernel_rfl
theorem at251 : Tryz.prog.funcs[251]? = some Tryz.f251 := by kernel_rfl
theorem fit252 : fitFn Tryz.prog Tryz.f252 s252 = true := by kernel_rfl
theorem at252 : Tryz.prog.funcs[252]? = some Tryz.f252 := by kernel_rfl
theorem fit253 : fitFn Tryz.prog Tryz.f253 s253 = true := by kernel_rfl
theorem at253 : Tryz.prog.funcs[253]? = some Tryz.f253 := by kernel_rfl
theorem fit254 : fitFn Tryz.prog Tryz.f254 s254 = true := by kernel_rfl
theorem at254 : Tryz.prog.funcs[254]? = some Tryz.f254 := by kernel_rfl
theorem fit258 : fitFn Tryz.prog Tryz.f258 s258 = true := by kernel_rfl
theorem at258 : Tryz.prog.funcs[258]? = some Tryz.f258 := by kernel_rfl
theorem fit259 : fitFn Tryz.prog Tryz.f259 s259 = true := by kernel_rfl
theorem at259 : Tryz.prog.funcs[259]? = some Tryz.f259 := by kernel_rfl
theorem fit260 : fitFn Tryz.prog Tryz.f260 s260 = true := by kernel_rfl
theorem at260 : Tryz.prog.funcs[260]? = some Tryz.f260 := by kernel_rfl
theorem fit261 : fitFn Tryz.prog Tryz.f261 s261 = true := by kernel_rfl
theorem at261 : Tryz.prog.funcs[261]? = some Tryz.f261 := by kernel_rfl
theorem fit264 : fitFn Tryz.prog Tryz.f264 s264 = true := by kernel_rfl
theorem at264 : Tryz.prog.funcs[264]? = some Tryz.f264 := by kernel_rfl
theorem fit267 : fitFn Tryz.prog Tryz.f267 s267 = true := by kernel_rfl
theorem at267 : Tryz.prog.funcs[267]? = some Tryz.f267 := by kernel_rfl
theorem fit269 : fitFn Tryz.prog Tryz.f269 s269 = true := by kernel_rfl
theorem at269 : Tryz.prog.funcs[269]? = some Tryz.f269 := by kernel_rfl
theorem fit270 : fitFn Tryz.prog Tryz.f270 s270 = true := by kernel_rfl
theorem at270 : Tryz.prog.funcs[270]? = some Tryz.f270 := by kernel_rfl
theorem fit272 : fitFn Tryz.prog Tryz.f272 s272 = true := by kernel_rfl
theorem at272 : Tryz.prog.funcs[272]? = some Tryz.f272 := by kernel_rfl
theorem fit273 : fitFn Tryz.prog Tryz.f273 s273 = true := by kernel_rfl
theorem at273 : Tryz.prog.funcs[273]? = some Tryz.f273 := by kernel_rfl
theorem fit283 : fitFn Tryz.prog Tryz.f283 s283 = true := by kernel_rfl
theorem at283 : Tryz.prog.funcs[283]? = some Tryz.f283 := by kernel_rfl
theorem fit284 : fitFn Tryz.prog Tryz.f284 s284 = true := by kernel_rfl
theorem at284 : Tryz.prog.funcs[284]? = some Tryz.f284 := by kernel_rfl
theorem fit288 : fitFn Tryz.prog Tryz.f288 s288 = true := by kernel_rfl
theorem at288 : Tryz.prog.funcs[288]? = some Tryz.f288 := by kernel_rfl
theorem fit290 : fitFn Tryz.prog Tryz.f290 s290 = true := by kernel_rfl
theorem at290 : Tryz.prog.funcs[290]? = some Tryz.f290 := by kernel_rfl
theorem fit295 : fitFn Tryz.prog Tryz.f295 s295 = true := by kernel_rfl
theorem at295 : Tryz.prog.funcs[295]? = some Tryz.f295 := by kernel_rfl
theorem fit322 : fitFn Tryz.prog Tryz.f322 s322 = true := by kernel_rfl
theorem at322 : Tryz.prog.funcs[322]? = some Tryz.f322 := by kernel_rfl
theorem fitsAll : ∀ p ∈ fns, ∃ fn, Tryz.prog.funcs[p.1]? = some fn ∧ fitFn Tryz.prog fn p.2 = true := by
  unfold fns
  simp only [List.forall_mem_cons]
  exact ⟨⟨_, at4, fit4⟩, ⟨_, at6, fit6⟩, ⟨_, at9, fit9⟩, ⟨_, at13, fit13⟩, ⟨_, at14, fit14⟩, ⟨_, at15, fit15⟩, ⟨_, at16, fit16⟩, ⟨_, at17, fit17⟩, ⟨_, at18, fit18⟩, ⟨_, at19, fit19⟩, ⟨_, at20, fit20⟩, ⟨_, at28, fit28⟩, ⟨_, at29, fit29⟩, ⟨_, at30, fit30⟩, ⟨_, at31, fit31⟩, ⟨_, at32, fit32⟩, ⟨_, at33, fit33⟩, ⟨_, at34, fit34⟩, ⟨_, at35, fit35⟩, ⟨_, at36, fit36⟩, ⟨_, at37, fit37⟩, ⟨_, at38, fit38⟩, ⟨_, at39, fit39⟩, ⟨_, at40, fit40⟩, ⟨_, at41, fit41⟩, ⟨_, at42, fit42⟩, ⟨_, at43, fit43⟩, ⟨_, at44, fit44⟩, ⟨_, at45, fit45⟩, ⟨_, at52, fit52⟩, ⟨_, at53, fit53⟩, ⟨_, at54, fit54⟩, ⟨_, at55, fit55⟩, ⟨_, at56, fit56⟩, ⟨_, at57, fit57⟩, ⟨_, at58, fit58⟩, ⟨_, at59, fit59⟩, ⟨_, at60, fit60⟩, ⟨_, at61, fit61⟩, ⟨_, at62, fit62⟩, ⟨_, at63, fit63⟩, ⟨_, at64, fit64⟩, ⟨_, at65, fit65⟩, ⟨_, at66, fit66⟩, ⟨_, at67, fit67⟩, ⟨_, at68, fit68⟩, ⟨_, at69, fit69⟩, ⟨_, at70, fit70⟩, ⟨_, at71, fit71⟩, ⟨_, at72, fit72⟩, ⟨_, at73, fit73⟩, ⟨_, at74, fit74⟩, ⟨_, at75, fit75⟩, ⟨_, at76, fit76⟩, ⟨_, at77, fit77⟩, ⟨_, at79, fit79⟩, ⟨_, at80, fit80⟩, ⟨_, at81, fit81⟩, ⟨_, at82, fit82⟩, ⟨_, at83, fit83⟩, ⟨_, at84, fit84⟩, ⟨_, at85, fit85⟩, ⟨_, at86, fit86⟩, ⟨_, at87, fit87⟩, ⟨_, at88, fit88⟩, ⟨_, at89, fit89⟩, ⟨_, at90, fit90⟩, ⟨_, at92, fit92⟩, ⟨_, at93, fit93⟩, ⟨_, at94, fit94⟩, ⟨_, at95, fit95⟩, ⟨_, at107, fit107⟩, ⟨_, at110, fit110⟩, ⟨_, at111, fit111⟩, ⟨_, at112, fit112⟩, ⟨_, at113, fit113⟩, ⟨_, at114, fit114⟩, ⟨_, at115, fit115⟩, ⟨_, at116, fit116⟩, ⟨_, at117, fit117⟩, ⟨_, at118, fit118⟩, ⟨_, at119, fit119⟩, ⟨_, at120, fit120⟩, ⟨_, at121, fit121⟩, ⟨_, at122, fit122⟩, ⟨_, at123, fit123⟩, ⟨_, at124, fit124⟩, ⟨_, at125, fit125⟩, ⟨_, at126, fit126⟩, ⟨_, at127, fit127⟩, ⟨_, at129, fit129⟩, ⟨_, at130, fit130⟩, ⟨_, at131, fit131⟩, ⟨_, at132, fit132⟩, ⟨_, at133, fit133⟩, ⟨_, at140, fit140⟩, ⟨_, at141, fit141⟩, ⟨_, at142, fit142⟩, ⟨_, at143, fit143⟩, ⟨_, at148, fit148⟩, ⟨_, at149, fit149⟩, ⟨_, at150, fit150⟩, ⟨_, at151, fit151⟩, ⟨_, at152, fit152⟩, ⟨_, at153, fit153⟩, ⟨_, at154, fit154⟩, ⟨_, at155, fit155⟩, ⟨_, at160, fit160⟩, ⟨_, at162, fit162⟩, ⟨_, at166, fit166⟩, ⟨_, at167, fit167⟩, ⟨_, at168, fit168⟩, ⟨_, at169, fit169⟩, ⟨_, at170, fit170⟩, ⟨_, at171, fit171⟩, ⟨_, at172, fit172⟩, ⟨_, at180, fit180⟩, ⟨_, at181, fit181⟩, ⟨_, at182, fit182⟩, ⟨_, at183, fit183⟩, ⟨_, at184, fit184⟩, ⟨_, at185, fit185⟩, ⟨_, at188, fit188⟩, ⟨_, at189, fit189⟩, ⟨_, at190, fit190⟩, ⟨_, at191, fit191⟩, ⟨_, at192, fit192⟩, ⟨_, at193, fit193⟩, ⟨_, at194, fit194⟩, ⟨_, at195, fit195⟩, ⟨_, at196, fit196⟩, ⟨_, at197, fit197⟩, ⟨_, at198, fit198⟩, ⟨_, at199, fit199⟩, ⟨_, at203, fit203⟩, ⟨_, at205, fit205⟩, ⟨_, at207, fit207⟩, ⟨_, at208, fit208⟩, ⟨_, at217, fit217⟩, ⟨_, at218, fit218⟩, ⟨_, at219, fit219⟩, ⟨_, at221, fit221⟩, ⟨_, at222, fit222⟩, ⟨_, at223, fit223⟩, ⟨_, at224, fit224⟩, ⟨_, at225, fit225⟩, ⟨_, at226, fit226⟩, ⟨_, at227, fit227⟩, ⟨_, at229, fit229⟩, ⟨_, at230, fit230⟩, ⟨_, at231, fit231⟩, ⟨_, at240, fit240⟩, ⟨_, at241, fit241⟩, ⟨_, at250, fit250⟩, ⟨_, at251, fit251⟩, ⟨_, at252, fit252⟩, ⟨_, at253, fit253⟩, ⟨_, at254, fit254⟩, ⟨_, at258, fit258⟩, ⟨_, at259, fit259⟩, ⟨_, at260, fit260⟩, ⟨_, at261, fit261⟩, ⟨_, at264, fit264⟩, ⟨_, at267, fit267⟩, ⟨_, at269, fit269⟩, ⟨_, at270, fit270⟩, ⟨_, at272, fit272⟩, ⟨_, at273, fit273⟩, ⟨_, at283, fit283⟩, ⟨_, at284, fit284⟩, ⟨_, at288, fit288⟩, ⟨_, at290, fit290⟩, ⟨_, at295, fit295⟩, ⟨_, at322, fit322⟩, by simp⟩
theorem ext_ok : ∀ f e, X.ext f = some e → ExtOK Tryz.prog f e := by
  intro f e h
  change extOf f = some e at h
  unfold extOf at h
  split at h
  · rename_i hf
    subst hf
    cases h
    exact xBits_ok (fn := Tryz.f49) (by kernel_rfl) (by kernel_rfl) (by kernel_rfl) (by kernel_rfl) (by kernel_rfl)
  split at h
  · rename_i hf
    subst hf
    cases h
    exact xFromBits_ok (fn := Tryz.f91) (by kernel_rfl) (by kernel_rfl) (by kernel_rfl) (by kernel_rfl) (by kernel_rfl)
  split at h
  · rename_i hf
    subst hf
    cases h
    exact xCount_ok (fn := Tryz.f294) (by kernel_rfl) (by kernel_rfl) (by kernel_rfl) (by kernel_rfl) (by kernel_rfl)
  split at h
  · rename_i hf
    subst hf
    cases h
    exact xIndex_ok (fn := Tryz.f337) (by kernel_rfl) (by kernel_rfl) (by kernel_rfl) (by kernel_rfl) (by kernel_rfl)
  cases h
theorem X_ok : X.OK Tryz.prog where
  mixed := by kernel_rfl
  fn f sf h := by
    obtain ⟨p, hp, rfl⟩ := Option.map_eq_some_iff.1 (show (fns.find? fun p => p.1 == f).map (·.2) = some sf from h)
    have h1 := List.find?_some hp
    obtain ⟨fn, h2, h3⟩ := fitsAll p (List.mem_of_find?_eq_some hp)
    have : p.1 = f := by simpa using h1
    rw [this] at h2
    exact ⟨fn, h2, h3⟩
  ext := ext_ok
end Go.Vm.Tryz
end

section
set_option linter.unusedSimpArgs false
set_option linter.unusedVariables false
namespace Go.Vm.Tryz
open Go Go.Vm

abbrev I (n : Int) : V := .int .i64 n
abbrev B (b : Bool) : V := .bool b
abbrev Str := List UInt8
abbrev S (s : Str) : V := .str s
def R (n : Int) : Prop := -9223372036854775808 ≤ n ∧ n ≤ 9223372036854775807

/-- A slice: nil, or one that holds a list. -/
abbrev Sl (α : Type) := Option (List α)
def Sl.l {α : Type} : Sl α → List α
  | none => []
  | some l => l
def Sl.v {α : Type} (f : α → V) : Sl α → V
  | none => .nils
  | some l => .snap (l.map f)
@[simp] theorem Sl.l_none {α : Type} : Sl.l (none : Sl α) = [] := rfl
@[simp] theorem Sl.l_some {α : Type} (l : List α) : Sl.l (some l) = l := rfl
@[simp] theorem Sl.v_none {α : Type} (f : α → V) : Sl.v f none = .nils := rfl
@[simp] theorem Sl.v_some {α : Type} (f : α → V) (l : List α) : Sl.v f (some l) = .snap (l.map f) := rfl
/-- A slice that holds a list. -/
def Row {α : Type} (f : α → V) (v : V) (l : List α) : Prop := v = .nils ∧ l = [] ∨ v = .snap (l.map f)
theorem Sl.row {α : Type} (f : α → V) : ∀ o : Sl α, Row f (Sl.v f o) (Sl.l o)
  | none => .inl ⟨rfl, rfl⟩
  | some _ => .inr rfl

structure Stamp where
  time : Int
  who : Int
  deriving DecidableEq
structure Piece where
  index : Int
  at_ : Stamp
  data : Str
  deriving DecidableEq
structure Xattr where
  name : Str
  at_ : Stamp
  val : Str
  gone : Bool
  deriving DecidableEq
structure Inode where
  id : Stamp
  kind : Int
  text : Str
  aAt : Stamp
  mode : Int
  time : Int
  sAt : Stamp
  n : Int
  pieces : Sl Piece
  xattrs : Sl Xattr
  deriving DecidableEq
/-- A vector: eight numbers. -/
structure Vec where
  l : List Int
  len : l.length = 8
  deriving DecidableEq
abbrev Vec.c (v : Vec) : List V := v.l.map I
@[simp] theorem Vec.len_ (v : Vec) : v.l.length = 8 := v.len
structure Link where
  id : Stamp
  node : Stamp
  at_ : Stamp
  parent : Stamp
  name : Str
  alive : Vec
  dead : Vec
  deriving DecidableEq
structure State where
  seen : Vec
  nodes : Sl Inode
  links : Sl Link
  deriving DecidableEq
structure Stat where
  node : Stamp
  kind : Int
  mode : Int
  time : Int
  size : Int
  links : Int
  deriving DecidableEq
structure Answer where
  err : Int
  data : Str
  names : Sl Str
  stat : Stat
  deriving DecidableEq

structure Item where
  path : Str
  kind : Int
  mode : Int
  time : Int
  body : Str
  xattrs : Sl Xattr
  same : Int
  deriving DecidableEq
structure RItem where
  path : Str
  kind : Int
  mode : Int
  time : Int
  body : Str
  xattrs : Sl Xattr
  same : Int
  node : Stamp
  deriving DecidableEq
/-- A call; its time: the number's bits. -/
structure Call where
  kind : Int
  path : Str
  to : Str
  off : Int
  n : Int
  data : Str
  time : Nat
  deriving DecidableEq

abbrev Piece.v (p : Piece) : V := .agg [I p.index, I p.at_.time, I p.at_.who, S p.data]
abbrev Xattr.v (x : Xattr) : V := .agg [S x.name, I x.at_.time, I x.at_.who, S x.val, B x.gone]
abbrev Inode.c (n : Inode) : List V := [I n.id.time, I n.id.who, I n.kind, S n.text, I n.aAt.time, I n.aAt.who, I n.mode, .int .u64 n.time, I n.sAt.time, I n.sAt.who, I n.n,
  Sl.v Piece.v n.pieces, Sl.v Xattr.v n.xattrs]
abbrev Inode.v (n : Inode) : V := .agg n.c
abbrev Link.c (l : Link) : List V := [I l.id.time, I l.id.who, I l.node.time, I l.node.who, I l.at_.time, I l.at_.who, I l.parent.time, I l.parent.who, S l.name] ++ (l.alive.c ++ l.dead.c)
abbrev Link.v (l : Link) : V := .agg l.c
abbrev State.c (s : State) : List V := s.seen.c ++ [Sl.v Inode.v s.nodes, Sl.v Link.v s.links]
abbrev State.v (s : State) : V := .agg s.c
abbrev Stat.c (s : Stat) : List V := [I s.node.time, I s.node.who, I s.kind, I s.mode, .int .u64 s.time, I s.size, I s.links]
abbrev Answer.v (a : Answer) : V := .agg ([I a.err, S a.data, Sl.v S a.names] ++ a.stat.c)
abbrev Item.c (i : Item) : List V := [S i.path, I i.kind, I i.mode, .int .u64 i.time, S i.body, Sl.v Xattr.v i.xattrs, I i.same]
abbrev Item.v (i : Item) : V := .agg i.c
abbrev RItem.c (i : RItem) : List V := [S i.path, I i.kind, I i.mode, .int .u64 i.time, S i.body, Sl.v Xattr.v i.xattrs, I i.same, I i.node.time, I i.node.who]
abbrev RItem.v (i : RItem) : V := .agg i.c
abbrev Call.c (c : Call) : List V := [I c.kind, S c.path, S c.to, I c.off, I c.n, S c.data, .float .f64 c.time]
abbrev Call.v (c : Call) : V := .agg c.c
end Go.Vm.Tryz
end

section
set_option linter.unusedVariables false
namespace Go.Vm
open Go

/-- Bits of no number. -/
def nanB (x : Nat) : Bool := decide (9218868437227405312 < x % 9223372036854775808)

theorem double_read (x : Nat) : Ieee.double.read x =
    (if x % 9223372036854775808 < 4503599627370496 then .number (x / 9223372036854775808 % 2 == 1) (x % 9223372036854775808) Ieee.double.leastPlace
    else if x % 9223372036854775808 < 9218868437227405312 then .number (x / 9223372036854775808 % 2 == 1) (4503599627370496 + x % 9223372036854775808 % 4503599627370496) (Ieee.double.leastPlace + (x % 9223372036854775808 / 4503599627370496 - 1 : Nat))
    else if x % 9223372036854775808 = 9218868437227405312 then .infinity (x / 9223372036854775808 % 2 == 1)
    else .nan (x / 9223372036854775808 % 2 == 1) (x % 9223372036854775808 - 9218868437227405312)) := rfl

theorem order_self (x : Nat) : (FloatKind.f64.format.order x x == some .eq) = !(nanB x) := by
  show ((Ieee.double.read x).order (Ieee.double.read x) == some .eq) = _
  rw [double_read]
  unfold nanB
  split
  · rename_i h
    have : ¬ 9218868437227405312 < x % 9223372036854775808 := by omega
    simp [Ieee.Datum.order, this, Std.ReflCmp.compare_self]
  · split
    · rename_i h
      have : ¬ 9218868437227405312 < x % 9223372036854775808 := by omega
      simp [Ieee.Datum.order, this, Std.ReflCmp.compare_self]
    · split
      · rename_i h
        simp [Ieee.Datum.order, h, Std.ReflCmp.compare_self]
      · have : 9218868437227405312 < x % 9223372036854775808 := by omega
        simp [Ieee.Datum.order, this]

theorem signed_zero (b : Bool) (up : Nat) : Ieee.signed b 0 up = 0 := by
  cases b <;> simp [Ieee.signed]
theorem signed_pos (b : Bool) (m up : Nat) (h : 0 < m) : Ieee.signed b m up ≠ 0 := by
  have h1 : 0 < m <<< up := by rw [Nat.shiftLeft_eq]; exact Nat.mul_pos h (Nat.pow_pos (by decide))
  cases b <;> simp [Ieee.signed] <;> omega

theorem order_zero (x : Nat) : (FloatKind.f64.format.order x 0 == some .eq) = (x % 9223372036854775808 == 0) := by
  show ((Ieee.double.read x).order (Ieee.double.read 0) == some .eq) = _
  have h0 : Ieee.double.read 0 = .number false 0 Ieee.double.leastPlace := rfl
  rw [double_read, h0]
  have key : ∀ (s : Bool) (m : Nat) (i : Int), ((Ieee.Datum.number s m i).order (.number false 0 Ieee.double.leastPlace) == some .eq) = (m == 0) := by
    intro s m i
    simp only [Ieee.Datum.order, signed_zero]
    rw [Bool.eq_iff_iff]
    simp only [beq_iff_eq, Option.some.injEq, Std.compare_eq_iff_eq]
    constructor
    · intro h
      rcases Nat.eq_zero_or_pos m with h1 | h1
      · exact h1
      · exact absurd h (signed_pos _ _ _ h1)
    · rintro rfl
      exact signed_zero _ _
  split
  · rw [key]
  · split
    · rw [key]
      rw [Bool.eq_iff_iff]
      simp only [beq_iff_eq]
      omega
    · split
      · rename_i h
        rw [h]
        simp [Ieee.Datum.order]
        split <;> simp
      · simp [Ieee.Datum.order]
        omega
end Go.Vm
end

section
set_option linter.unusedSimpArgs false
set_option linter.unusedVariables false
namespace Go.Vm.Tryz
open Go Go.Vm

theorem unbytes_bytesV (s : Str) : unbytes (bytesV s) = some s := by
  induction s with
  | nil => rfl
  | cons b s ih =>
    show (unbytes (bytesV s)).bind _ = _
    rw [ih]
    have : (0 : Int) ≤ b.toNat ∧ (b.toNat : Int) < 256 := ⟨by omega, by have := b.toNat_lt; omega⟩
    simp [this]
@[simp] theorem bytesV_len (s : Str) : (bytesV s).length = s.length := by simp [bytesV]
theorem bytesV_take (s : Str) (n : Nat) : (bytesV s).take n = bytesV (s.take n) := by simp [bytesV, List.map_take]
theorem bytesV_drop (s : Str) (n : Nat) : (bytesV s).drop n = bytesV (s.drop n) := by simp [bytesV, List.map_drop]
theorem bytesV_app (s t : Str) : bytesV s ++ bytesV t = bytesV (s ++ t) := by simp [bytesV]
theorem bytesV_set (s : Str) (i : Nat) (b : UInt8) : (bytesV s).set i (.int .u8 b.toNat) = bytesV (s.set i b) := by simp [bytesV, List.map_set]
theorem bytesV_rep (n : Nat) : List.replicate n (V.int .u8 0) = bytesV (List.replicate n 0) := by simp [bytesV]
theorem bytesV_get (s : Str) (i : Nat) : (bytesV s)[i]? = s[i]?.map fun b => V.int .u8 b.toNat := by simp [bytesV]
theorem bytesV_getE (s : Str) (i : Nat) (h : i < (bytesV s).length) : (bytesV s)[i] = V.int .u8 (s[i]'(by simpa using h)).toNat := by simp [bytesV]
theorem bytesV_all (s : Str) : ((bytesV s).all fun v => v.cells.length == 1) = true := by
  induction s with
  | nil => rfl
  | cons b s ih => simp only [bytesV, List.map_cons, List.all_cons] at ih ⊢; rw [ih]; rfl
theorem bytesV_all' (s : Str) : (∀ x, x ∈ bytesV s → x.cells.length = 1) = True := by
  have := bytesV_all s
  rw [List.all_eq_true] at this
  exact eq_true fun x hx => by simpa using this x hx
theorem bytesV_pure (s : Str) : V.pure.pures (bytesV s) = true := by
  induction s with
  | nil => rfl
  | cons b s ih => simp only [bytesV, List.map_cons, V.pure.pures] at ih ⊢; rw [ih]; rfl

/-- A piece's first j bytes, put at its place. -/
def put (bs : Str) (p : Piece) (j : Nat) : Str :=
  if 0 ≤ p.index ∧ p.index < 16 then bs.take (p.index.toNat * 64) ++ (p.data.take j).take (bs.length - p.index.toNat * 64) ++ bs.drop (p.index.toNat * 64 + j) else bs

theorem put_len (bs : Str) (p : Piece) (j : Nat) (hj : j ≤ p.data.length) : (put bs p j).length = bs.length := by
  unfold put
  split
  · simp; omega
  · rfl

theorem put_zero (bs : Str) (p : Piece) : put bs p 0 = bs := by
  unfold put
  split <;> simp

theorem put_step (bs : Str) (p : Piece) (j : Nat) (hj : j < p.data.length) (hi : 0 ≤ p.index ∧ p.index < 16) (ho : p.index.toNat * 64 + j < bs.length) :
    put bs p (j + 1) = (put bs p j).set (p.index.toNat * 64 + j) p.data[j] := by
  unfold put
  rw [if_pos hi, if_pos hi]
  generalize p.index.toNat * 64 = o at ho ⊢
  generalize p.data = d at hj ⊢
  apply List.ext_getElem?
  intro k
  simp only [List.getElem?_append, List.getElem?_set, List.getElem?_take, List.getElem?_drop, List.length_append, List.length_take, List.length_drop]
  rcases Nat.lt_trichotomy k (o + j) with hk | hk | hk
  · have h0 : ¬ o + j = k := by omega
    simp only [h0, if_false]
    by_cases h1 : k < o
    · have h2 : k < min o bs.length := by omega
      have h3 : k < min o bs.length + min (bs.length - o) (min (j + 1) d.length) := by omega
      have h4 : k < min o bs.length + min (bs.length - o) (min j d.length) := by omega
      simp only [h2, h3, h4, if_true]
    · have h2 : ¬ k < min o bs.length := by omega
      have h3 : k < min o bs.length + min (bs.length - o) (min (j + 1) d.length) := by omega
      have h4 : k < min o bs.length + min (bs.length - o) (min j d.length) := by omega
      have h5 : k - min o bs.length < bs.length - o := by omega
      have h6 : k - min o bs.length < j + 1 := by omega
      have h7 : k - min o bs.length < j := by omega
      simp only [h2, h3, h4, h5, h6, h7, if_true, if_false]
  · subst hk
    have h2 : ¬ o + j < min o bs.length := by omega
    have h3 : o + j < min o bs.length + min (bs.length - o) (min (j + 1) d.length) := by omega
    have h5 : o + j - min o bs.length < bs.length - o := by omega
    have h6 : o + j - min o bs.length < j + 1 := by omega
    have h8 : o + j - min o bs.length = j := by omega
    have h9 : o + j < min o bs.length + min (bs.length - o) (min j d.length) + (bs.length - (o + j)) := by omega
    have h10 : j < bs.length - o := by omega
    have h11 : j < j + 1 := by omega
    simp only [h2, h3, h5, h6, if_true, if_false, h8, h9, h10, h11, List.getElem?_eq_getElem hj]
  · have h0 : ¬ o + j = k := by omega
    have h3 : ¬ k < min o bs.length + min (bs.length - o) (min (j + 1) d.length) := by omega
    have h4 : ¬ k < min o bs.length + min (bs.length - o) (min j d.length) := by omega
    simp only [h0, h3, h4, if_false]
    congr 1
    omega

theorem put_none (bs : Str) (p : Piece) (j : Nat) (hi : ¬ (0 ≤ p.index ∧ p.index < 16)) : put bs p j = bs := by
  unfold put
  rw [if_neg hi]

theorem put_over (bs : Str) (p : Piece) (j : Nat) (ho : bs.length ≤ p.index.toNat * 64) : put bs p j = bs := by
  unfold put
  split
  · rw [List.take_of_length_le ho, List.drop_eq_nil_of_le (by omega), show bs.length - p.index.toNat * 64 = 0 by omega]; simp
  · rfl

theorem put_stop (bs : Str) (p : Piece) (j : Nat) (ho : bs.length ≤ p.index.toNat * 64 + j) : put bs p (j + 1) = put bs p j := by
  unfold put
  split
  · rw [List.drop_eq_nil_of_le (by omega), List.drop_eq_nil_of_le (by omega), List.take_take, List.take_take, show min (bs.length - p.index.toNat * 64) (j + 1) = min (bs.length - p.index.toNat * 64) j by omega]
  · rfl

/-- Until there is no room. -/
theorem put_copy (bs : Str) (p : Piece) (k : Nat) (hi : 0 ≤ p.index ∧ p.index < 16) (hk : k ≤ p.data.length) (ho : p.index.toNat * 64 ≤ bs.length) :
    put bs p k = bs.take (p.index.toNat * 64) ++ (p.data.take k).take (min k (bs.length - p.index.toNat * 64)) ++ bs.drop (p.index.toNat * 64 + min k (bs.length - p.index.toNat * 64)) := by
  unfold put
  rw [if_pos hi]
  rcases Nat.le_total k (bs.length - p.index.toNat * 64) with h | h
  · rw [Nat.min_eq_left h, List.take_of_length_le (l := p.data.take k) (by simp; omega), List.take_of_length_le (l := p.data.take k) (by simp; omega)]
  · rw [Nat.min_eq_right h, List.drop_eq_nil_of_le (by omega), List.drop_eq_nil_of_le (by omega)]

def putAll (bs : Str) (ps : List Piece) : Str := ps.foldl (fun bs p => put bs p (min p.data.length 64)) bs

theorem putAll_len (ps : List Piece) : ∀ bs, (putAll bs ps).length = bs.length := by
  induction ps with
  | nil => intro bs; rfl
  | cons p ps ih => intro bs; unfold putAll at ih ⊢; rw [List.foldl_cons, ih, put_len _ _ _ (by omega)]

theorem putAll_step (bs : Str) (ps : List Piece) (i : Nat) (hi : i < ps.length) : putAll bs (ps.take (i + 1)) = put (putAll bs (ps.take i)) ps[i] (min ps[i].data.length 64) := by
  unfold putAll
  rw [List.take_succ_eq_append_getElem hi, List.foldl_append]
  rfl

/-- The bytes that both functions answer. -/
def bytesOf (n : Int) (ps : List Piece) : Str := putAll (List.replicate (max 0 (min n 1024)).toNat 0) ps

end Go.Vm.Tryz
end

section
set_option linter.unusedVariables false
namespace Go.Vm.Tryz
open Go Go.Vm

/-- The byte of a number at a place, the lowest one is 0. -/
def byteAt (n : Int) (i : Nat) : UInt8 := UInt8.ofNat (n.fdiv (2 ^ (8 * i)) % 256).toNat
/-- A number's lowest bytes, the highest first. -/
def be (n : Int) : Nat → Str
  | 0 => []
  | j + 1 => byteAt n j :: be n j

theorem u8_wrap (x : Int) : IntKind.u8.wrap x = x % 256 := by
  simp [IntKind.wrap, IntKind.bits, IntKind.signed]
theorem u64_wrap (x : Int) : IntKind.u64.wrap x = x % 18446744073709551616 := by
  simp [IntKind.wrap, IntKind.bits, IntKind.signed]

theorem byteAt_val (n : Int) (i : Nat) : ((byteAt n i).toNat : Int) = n.fdiv (2 ^ (8 * i)) % 256 := by
  have h1 : 0 ≤ n.fdiv (2 ^ (8 * i)) % 256 := Int.emod_nonneg _ (by decide)
  have h2 : n.fdiv (2 ^ (8 * i)) % 256 < 256 := Int.emod_lt_of_pos _ (by decide)
  unfold byteAt
  rw [UInt8.toNat_ofNat']
  omega

theorem be_len (n : Int) (w : Nat) : (be n w).length = w := by
  induction w with
  | zero => rfl
  | succ w ih => simp [be, ih]

theorem be_get (n : Int) : ∀ (w i : Nat), i < w → (be n w)[i]? = some (byteAt n (w - 1 - i))
  | 0, i, h => by omega
  | w + 1, 0, _ => by simp [be]
  | w + 1, i + 1, h => by
    simp only [be, List.getElem?_cons_succ]
    rw [be_get n w i (by omega)]
    congr 2
    omega

/-- What is left of a number when its lowest bytes are taken. -/
def rest (n : Int) (j : Nat) : Int := (n % 18446744073709551616) / 2 ^ (8 * j)

theorem rest_nonneg (n : Int) (j : Nat) : 0 ≤ rest n j := Int.ediv_nonneg (Int.emod_nonneg _ (by decide)) (by have := Int.pow_pos (n := 2) (m := 8 * j) (by decide); omega)
theorem rest_step (n : Int) (j : Nat) : (rest n j).tdiv 256 = rest n (j + 1) := by
  rw [Int.tdiv_eq_ediv_of_nonneg (rest_nonneg n j)]
  unfold rest
  rw [Int.ediv_ediv_of_nonneg (by have := Int.pow_pos (n := 2) (m := 8 * j) (by decide); omega)]
  congr 1
  rw [show 8 * (j + 1) = 8 * j + 8 by omega, Int.pow_add]
  rfl
theorem rest_lt (n : Int) (j : Nat) : rest n j < 18446744073709551616 := by
  unfold rest
  have h1 : n % 18446744073709551616 < 18446744073709551616 := Int.emod_lt_of_pos _ (by decide)
  have h2 : 0 ≤ n % 18446744073709551616 := Int.emod_nonneg _ (by decide)
  have h3 := Int.ediv_le_self (2 ^ (8 * j)) h2
  omega
theorem low_byte (n : Int) (k : Nat) (hk : k ≤ 56) : n % 18446744073709551616 / 2 ^ k % 256 = n / 2 ^ k % 256 := by
  have hp : (0 : Int) < 2 ^ k := Int.pow_pos (by decide)
  have h64 : (18446744073709551616 : Int) = 2 ^ k * (256 * 2 ^ (56 - k)) := by
    have e1 : (2 : Int) ^ k * (2 ^ 8 * 2 ^ (56 - k)) = 2 ^ 64 := by
      rw [← Int.pow_add, ← Int.pow_add]
      congr 1
      omega
    have e2 : (2 : Int) ^ 64 = 18446744073709551616 := by decide
    have e3 : (2 : Int) ^ 8 = 256 := by decide
    rw [e3, e2] at e1
    exact e1.symm
  have e : n = n % 18446744073709551616 + 2 ^ k * (256 * 2 ^ (56 - k) * (n / 18446744073709551616)) := by
    rw [← Int.mul_assoc, ← h64]
    exact (Int.emod_add_mul_ediv n _).symm
  conv => rhs; rw [e]
  rw [Int.add_mul_ediv_left _ _ (by omega), Int.mul_assoc, Int.add_mul_emod_self_left]

theorem rest_byte (n : Int) (j : Nat) (hj : j < 8) : (rest n j).tmod 256 = n.fdiv (2 ^ (8 * j)) % 256 := by
  rw [Int.tmod_eq_emod_of_nonneg (rest_nonneg n j)]
  unfold rest
  have hp : (0 : Int) < 2 ^ (8 * j) := Int.pow_pos (by decide)
  rw [Int.fdiv_eq_ediv_of_nonneg _ (by omega)]
  exact low_byte n (8 * j) (by omega)
end Go.Vm.Tryz
end

section
set_option linter.unusedVariables false
namespace Go.Vm.Tryz
open Go Go.Vm

theorem ofInt_toNat (n : Nat) (h : n < 18446744073709551616) : (BitVec.ofInt 64 (n : Int)).toNat = n := by
  rw [BitVec.toNat_ofInt]
  omega

theorem nat_and_top (n : Nat) (h : n < 2 ^ 64) : n &&& 2 ^ 63 = if n < 2 ^ 63 then 0 else 2 ^ 63 := by
  apply Nat.eq_of_testBit_eq
  intro i
  rw [Nat.testBit_and, Nat.testBit_two_pow]
  by_cases hi : 63 = i
  · subst hi
    split
    · rename_i hn
      rw [Nat.testBit_lt_two_pow hn]
      simp
    · rename_i hn
      have : n.testBit 63 = true := by
        rw [Nat.testBit_eq_decide_div_mod_eq]
        simp
        omega
      rw [this, Nat.testBit_two_pow]
      simp
  · split
    · simp [hi]
    · rw [Nat.testBit_two_pow]
      simp [hi]

theorem and_top (n : Nat) (h : n < 18446744073709551616) : (BitVec.ofInt 64 (n : Int) &&& BitVec.ofInt 64 9223372036854775808).toNat = if n < 9223372036854775808 then 0 else 9223372036854775808 := by
  have e : (BitVec.ofInt 64 9223372036854775808).toNat = 2 ^ 63 := by decide
  rw [BitVec.toNat_and, ofInt_toNat n h, e, nat_and_top n h]

theorem xor_all (n : Nat) (h : n < 18446744073709551616) : (BitVec.ofInt 64 18446744073709551615 ^^^ BitVec.ofInt 64 (n : Int)).toNat = 18446744073709551615 - n := by
  have e : BitVec.ofInt 64 18446744073709551615 = BitVec.allOnes 64 := by decide
  rw [e, BitVec.allOnes_xor, BitVec.toNat_not, ofInt_toNat n h]

theorem or_top (n : Nat) (h : n < 9223372036854775808) : (BitVec.ofInt 64 (n : Int) ||| BitVec.ofInt 64 9223372036854775808).toNat = n + 9223372036854775808 := by
  have e : (BitVec.ofInt 64 9223372036854775808).toNat = 2 ^ 63 * 1 := by decide
  rw [BitVec.toNat_or, ofInt_toNat n (by omega), e, Nat.or_comm, ← Nat.two_pow_add_eq_or_of_lt (show n < 2 ^ 63 by omega)]
  omega

theorem andNot_top (n : Nat) (h : n < 18446744073709551616) : (BitVec.ofInt 64 (n : Int) &&& ~~~(BitVec.ofInt 64 9223372036854775808)).toNat = n % 9223372036854775808 := by
  have e : (~~~(BitVec.ofInt 64 9223372036854775808)).toNat = 2 ^ 63 - 1 := by decide
  rw [BitVec.toNat_and, ofInt_toNat n h, e, Nat.and_two_pow_sub_one_eq_mod]

theorem mod64 (n : Nat) (h : n < 18446744073709551616) : ((n : Int) % 18446744073709551616).toNat = n := by omega
theorem and_topN (n : Nat) (h : n < 18446744073709551616) : n &&& 9223372036854775808 = if n < 9223372036854775808 then 0 else 9223372036854775808 := nat_and_top n h
theorem or_topN (n : Nat) (h : n < 9223372036854775808) : n ||| 9223372036854775808 = n + 9223372036854775808 := by
  have e := or_top n h
  rwa [BitVec.toNat_or, ofInt_toNat n (by omega)] at e
theorem xor_allN (n : Nat) (h : n < 18446744073709551616) : 18446744073709551615 ^^^ n = 18446744073709551615 - n := by
  have e := xor_all n h
  rwa [BitVec.toNat_xor, ofInt_toNat n h] at e

/-- A time's bits: a number, and what is wrong. -/
def timeOf (x : Nat) : Int × Int :=
  if nanB x then (0, 202) else if x % 9223372036854775808 = 0 then (9223372036854775808, 0) else if x < 9223372036854775808 then ((x : Int) + 9223372036854775808, 0) else (18446744073709551615 - (x : Int), 0)
/-- What bits would be. -/
def toBack (k : Int) : Nat := if k < 9223372036854775808 then (18446744073709551615 - k).toNat else (k - 9223372036854775808).toNat
def timeGood (k : Int) : Bool := timeOf (toBack k) == (k, 0)
def timeTo (k : Int) : Nat × Int := if timeGood k then (toBack k, 0) else (0, 202)

theorem toBack_lt {k : Int} (h : 0 ≤ k ∧ k ≤ 18446744073709551615) : toBack k < 18446744073709551616 := by
  unfold toBack
  split <;> omega
end Go.Vm.Tryz
end

section
set_option linter.unusedVariables false
set_option linter.unusedSimpArgs false
set_option maxRecDepth 10000
namespace Go.Vm.Tryz
open Go Go.Vm

@[simp] theorem u64_bits : IntKind.u64.bits = 64 := rfl
@[simp] theorem u64_signed : IntKind.u64.signed = false := rfl
theorem u64_max : IntKind.u64.max = 18446744073709551615 := by decide

theorem call49 (x : Nat) (h : List HO) : VC X 49 [.float .f64 x] h = some (.ret (.int .u64 x), h) := (VC_ext (X := X) (e := xBits) rfl _ _).trans rfl
theorem call91 (k : Int) (h : List HO) : VC X 91 [.int .u64 k] h = some (.ret (.float .f64 k.toNat), h) := (VC_ext (X := X) (e := xFromBits) rfl _ _).trans rfl

theorem order_ne (x : Nat) : (FloatKind.f64.format.order x x != some .eq) = nanB x := by
  have e := order_self x
  unfold bne
  rw [e]
  simp

theorem nan113 (x : Nat) (h : List HO) : VC X 113 [.float .f64 x] h = some (.ret (B (nanB x)), h) := by
  rw [v113]
  refine Ans.eq (ans_wp ?_)
  simp [s113, order_ne]

theorem u64_small (n : Int) (h : 0 ≤ n ∧ n ≤ 18446744073709551615) : IntKind.u64.wrap n = n := by
  rw [u64_wrap]; omega

theorem of67 (x : Nat) (hx : x < 18446744073709551616) (h : List HO) : VC X 67 [.float .f64 x] h = some (.ret (.tuple [.int .u64 (timeOf x).1, I (timeOf x).2]), h) := by
  rw [v67]
  refine Ans.eq (ans_wp ?_)
  by_cases h1 : nanB x
  · simp [s67, nan113, h1, timeOf]
  · by_cases h2 : x % 9223372036854775808 = 0
    · simp [s67, nan113, h1, h2, timeOf, order_zero]
    · have h2' : (x % 9223372036854775808 == 0) = false := by simpa using h2
      by_cases h3 : x < 9223372036854775808
      · have hm := mod64 x hx
        have e1 := and_topN x hx
        rw [if_pos h3] at e1
        have e2 := or_topN x h3
        have e3 : IntKind.u64.wrap ((x : Int) + 9223372036854775808) = x + 9223372036854775808 := u64_small _ (by omega)
        simp [s67, nan113, h1, h2, h2', h3, timeOf, order_zero, call49, hm, e1, e2, e3, u64_small]
      · have hm := mod64 x hx
        have e1 := and_topN x hx
        rw [if_neg h3] at e1
        have e2 := xor_allN x hx
        have e3 : ((18446744073709551615 - x : Nat) : Int) = 18446744073709551615 - (x : Int) := by omega
        have e4 : IntKind.u64.wrap (18446744073709551615 - (x : Int)) = 18446744073709551615 - (x : Int) := u64_small _ (by omega)
        simp [s67, nan113, h1, h2, h2', h3, timeOf, order_zero, call49, hm, e1, e2, e3, e4, u64_max, u64_small]
theorem back90 (k : Int) (hk : 0 ≤ k ∧ k ≤ 18446744073709551615) (h : List HO) : VC X 90 [.int .u64 k] h = some (.ret (.float .f64 (toBack k)), h) := by
  rw [v90]
  refine Ans.eq (ans_wp ?_)
  obtain ⟨n, rfl⟩ : ∃ n : Nat, k = n := ⟨k.toNat, by omega⟩
  have hn : n < 18446744073709551616 := by omega
  by_cases h3 : n < 9223372036854775808
  · have hm := mod64 n hn
    have e1 := and_topN n hn
    rw [if_pos h3] at e1
    have e2 := xor_allN n hn
    have e3 : (n : Int) < 9223372036854775808 := by omega
    have e4 : IntKind.u64.wrap ((18446744073709551615 - n : Nat) : Int) = ((18446744073709551615 - n : Nat) : Int) := u64_small _ (by omega)
    have e5 : toBack n = 18446744073709551615 - n := by unfold toBack; rw [if_pos e3]; omega
    simp [s90, call91, hm, e1, e2, e4, e5, u64_max, u64_small]
  · have hm := mod64 n hn
    have e1 := and_topN n hn
    rw [if_neg h3] at e1
    have e2 : n &&& 9223372036854775807 = n % 9223372036854775808 := Nat.and_two_pow_sub_one_eq_mod n 63
    have e3 : ¬ (n : Int) < 9223372036854775808 := by omega
    have e4 : IntKind.u64.wrap ((n : Int) % 9223372036854775808) = (n : Int) % 9223372036854775808 := u64_small _ (by omega)
    have e5 : toBack n = n % 9223372036854775808 := by unfold toBack; rw [if_neg e3]; omega
    simp [s90, call91, hm, e1, e2, e5, u64_small]
    rw [e4]
    omega

theorem good89 (k : Int) (hk : 0 ≤ k ∧ k ≤ 18446744073709551615) (h : List HO) : VC X 89 [.int .u64 k] h = some (.ret (B (timeGood k)), h) := by
  rw [v89]
  refine Ans.eq (ans_wp ?_)
  have e1 := back90 k hk h
  have e2 := of67 (toBack k) (toBack_lt hk) h
  obtain ⟨q, hq⟩ : ∃ q, q = timeGood k := ⟨_, rfl⟩
  rw [← hq]
  unfold timeGood at hq
  rcases ht : timeOf (toBack k) with ⟨a, b⟩
  rw [ht] at e2 hq
  simp [s89, e1, e2]
  repeat' (first | refine wp_cond (fun hc => ?_) (fun hc => ?_) | refine wp_guardT (fun hc => ?_) (fun hc => ?_) | refine wp_guardF (fun hc => ?_) (fun hc => ?_) | refine wp_guardDT (fun hc => ?_) (fun hc => ?_) | refine wp_guardDF (fun hc => ?_) (fun hc => ?_)) <;> (have hc' := hc; (try simp at hc'); simp [hc, hc'])
  all_goals simp_all
  rw [Bool.eq_iff_iff]
  simp

theorem to38 (k : Int) (hk : 0 ≤ k ∧ k ≤ 18446744073709551615) (h : List HO) : VC X 38 [.int .u64 k] h = some (.ret (.tuple [.float .f64 (timeTo k).1, I (timeTo k).2]), h) := by
  rw [v38]
  refine Ans.eq (ans_wp ?_)
  have e1 := back90 k hk h
  have e2 := good89 k hk h
  cases hg : timeGood k
  · rw [hg] at e2
    simp [s38, e1, e2, timeTo, hg]
  · rw [hg] at e2
    simp [s38, e1, e2, timeTo, hg]

theorem of92 (x : Nat) (hx : x < 18446744073709551616) (h : List HO) : VC X 92 [.float .f64 x] h = some (.ret (.tuple [.int .u64 (timeOf x).1, I (timeOf x).2]), h) := by
  rw [v92]
  refine Ans.eq (ans_wp ?_)
  have em : (x : Int).tmod 9223372036854775808 = (x : Int) % 9223372036854775808 := Int.tmod_eq_emod_of_nonneg (by omega)
  have en : nanB x = decide (9218868437227405312 < x % 9223372036854775808) := rfl
  by_cases h1 : 9218868437227405312 < x % 9223372036854775808
  · have h1' : (9218868437227405312 : Int) < (x : Int) % 9223372036854775808 := by omega
    simp [s92, call49, em, h1, h1', timeOf, en]
  · have h1' : ¬ (9218868437227405312 : Int) < (x : Int) % 9223372036854775808 := by omega
    by_cases h2 : x % 9223372036854775808 = 0
    · have h2' : ((x : Int) % 9223372036854775808 == 0) = true := by simp; omega
      simp [s92, call49, em, h1, h1', h2, h2', timeOf, en]
    · have h2' : ((x : Int) % 9223372036854775808 == 0) = false := by simp; omega
      by_cases h3 : x < 9223372036854775808
      · have h3' : (x : Int) < 9223372036854775808 := by omega
        have e3 : IntKind.u64.wrap ((x : Int) + 9223372036854775808) = x + 9223372036854775808 := u64_small _ (by omega)
        simp [s92, call49, em, h1, h1', h2, h2', h3, h3', e3, timeOf, en]
      · have h3' : ¬ (x : Int) < 9223372036854775808 := by omega
        have e4 : IntKind.u64.wrap (18446744073709551615 - (x : Int)) = 18446744073709551615 - (x : Int) := u64_small _ (by omega)
        simp [s92, call49, em, h1, h1', h2, h2', h3, h3', e4, timeOf, en]

theorem to39 (k : Int) (hk : 0 ≤ k ∧ k ≤ 18446744073709551615) (h : List HO) : VC X 39 [.int .u64 k] h = some (.ret (.tuple [.float .f64 (timeTo k).1, I (timeTo k).2]), h) := by
  rw [v39]
  refine Ans.eq (ans_wp ?_)
  have e2 := of92 (toBack k) (toBack_lt hk) h
  obtain ⟨q, hq⟩ : ∃ q, q = timeTo k := ⟨_, rfl⟩
  rw [← hq]
  unfold timeTo timeGood at hq
  rcases ht : timeOf (toBack k) with ⟨a, b⟩
  rw [ht] at e2 hq
  have hb : ((a, b) == (k, (0 : Int))) = decide (a = k ∧ b = 0) := by rw [Bool.eq_iff_iff]; simp
  rw [hb] at hq
  by_cases h3 : k < 9223372036854775808
  · have e4 : IntKind.u64.wrap (18446744073709551615 - k) = 18446744073709551615 - k := u64_small _ (by omega)
    have e5 : (18446744073709551615 - k).toNat = toBack k := by unfold toBack; rw [if_pos h3]
    simp [s39, call91, h3, e4, e5, e2]
    repeat' (first | refine wp_cond (fun hc => ?_) (fun hc => ?_) | refine wp_guardT (fun hc => ?_) (fun hc => ?_) | refine wp_guardF (fun hc => ?_) (fun hc => ?_) | refine wp_guardDT (fun hc => ?_) (fun hc => ?_) | refine wp_guardDF (fun hc => ?_) (fun hc => ?_)) <;> (have hc' := hc; (try simp at hc'); simp [hc, hc'])
    all_goals simp [hq, *]
  · have e4 : IntKind.u64.wrap (k - 9223372036854775808) = k - 9223372036854775808 := u64_small _ (by omega)
    have e5 : (k - 9223372036854775808).toNat = toBack k := by unfold toBack; rw [if_neg h3]
    simp [s39, call91, h3, e4, e5, e2]
    repeat' (first | refine wp_cond (fun hc => ?_) (fun hc => ?_) | refine wp_guardT (fun hc => ?_) (fun hc => ?_) | refine wp_guardF (fun hc => ?_) (fun hc => ?_) | refine wp_guardDT (fun hc => ?_) (fun hc => ?_) | refine wp_guardDF (fun hc => ?_) (fun hc => ?_)) <;> (have hc' := hc; (try simp at hc'); simp [hc, hc'])
    all_goals simp [hq, *]

theorem good112 (k : Int) (hk : 0 ≤ k ∧ k ≤ 18446744073709551615) (h : List HO) : VC X 112 [.int .u64 k] h = some (.ret (B (timeGood k)), h) := by
  rw [v112]
  refine Ans.eq (ans_wp ?_)
  have e2 := to39 k hk h
  cases hg : timeGood k
  · simp [timeTo, hg] at e2
    simp [s112, e2]
  · simp [timeTo, hg] at e2
    simp [s112, e2]
end Go.Vm.Tryz
end

section
set_option linter.unusedSimpArgs false
set_option linter.unusedVariables false
namespace Go.Vm.Tryz
open Go Go.Vm

def N63 : Nat := 9223372036854775808

theorem R_of {n : Int} (h1 : IntKind.i64.min ≤ n) (h2 : n ≤ IntKind.i64.max) : R n := by
  have e1 : IntKind.i64.min = -9223372036854775808 := by decide
  have e2 : IntKind.i64.max = 9223372036854775807 := by decide
  unfold R; omega
def RU (n : Int) : Prop := 0 ≤ n ∧ n ≤ 18446744073709551615
theorem RU_of {n : Int} (h1 : IntKind.u64.min ≤ n) (h2 : n ≤ IntKind.u64.max) : RU n := by
  have e1 : IntKind.u64.min = 0 := by decide
  have e2 : IntKind.u64.max = 18446744073709551615 := by decide
  unfold RU; omega

theorem ofSlice {α : Type} {s : Sh} (f : α → V) (ok : α → Prop) (h1 : ∀ v, HasV s v → ∃ a, v = f a ∧ ok a) {cs : List V} (h : HasCs (.slice s) cs) :
    ∃ l : List α, cs = [Sl.v f (some l)] ∧ l.length < N63 ∧ ∀ a ∈ l, ok a := by
  simp only [HasCs] at h
  obtain ⟨l, rfl, hl, hv⟩ := h
  have key : ∀ l : List V, (∀ v ∈ l, ∃ c, mkS s c v ∧ HasCs s c) → ∃ l' : List α, l = l'.map f ∧ ∀ a ∈ l', ok a := by
    intro l
    induction l with
    | nil => exact fun _ => ⟨[], rfl, fun _ h => by cases h⟩
    | cons v l ih =>
      intro hv
      obtain ⟨a, rfl, ha⟩ := h1 v (hv v (by simp))
      obtain ⟨l', rfl, hl'⟩ := ih fun v h => hv v (by simp [h])
      refine ⟨a :: l', rfl, fun b hb => ?_⟩
      rcases List.mem_cons.1 hb with rfl | hb
      · exact ha
      · exact hl' b hb
  obtain ⟨l', rfl, hok⟩ := key l hv
  exact ⟨l', rfl, by simpa [N63] using hl, hok⟩

theorem ofAgg {l : List Sh} {v : V} (h : HasV (.struct l) v) : ∃ cs, v = .agg cs ∧ HasL l cs := by
  obtain ⟨cs, h1, h2⟩ := h
  simp only [mkS, Sh.isAgg, if_true] at h1
  simp only [HasCs] at h2
  exact ⟨cs, h1, h2⟩

def okStr (s : Str) : Prop := s.length < N63
theorem ofStr {cs : List V} (h : HasCs .str cs) : ∃ s, cs = [S s] ∧ okStr s := by
  simp only [HasCs] at h
  obtain ⟨s, rfl, h⟩ := h
  exact ⟨s, rfl, by simpa [okStr, N63] using h⟩
theorem ofStrV {v : V} (h : HasV .str v) : ∃ s, v = S s ∧ okStr s := by
  obtain ⟨cs, h1, h2⟩ := h
  obtain ⟨s, rfl, h⟩ := ofStr h2
  simp [mkS, Sh.isAgg] at h1
  exact ⟨s, h1.symm, h⟩
theorem ofI {cs : List V} (h : HasCs (.int .i64) cs) : ∃ n, cs = [I n] ∧ R n := by
  simp only [HasCs] at h
  obtain ⟨n, rfl, h1, h2⟩ := h
  exact ⟨n, rfl, R_of h1 h2⟩
theorem ofU {cs : List V} (h : HasCs (.int .u64) cs) : ∃ n, cs = [.int .u64 n] ∧ RU n := by
  simp only [HasCs] at h
  obtain ⟨n, rfl, h1, h2⟩ := h
  exact ⟨n, rfl, RU_of h1 h2⟩
theorem ofB {cs : List V} (h : HasCs .bool cs) : ∃ b, cs = [B b] := by
  simpa only [HasCs] using h

/-- One field, and the others. -/
theorem ofField {s : Sh} {r : List Sh} {cs : List V} (h : HasL (s :: r) cs) : ∃ a b, cs = a ++ b ∧ HasCs s a ∧ HasL r b := by
  simpa only [HasL] using h
theorem ofEnd {cs : List V} (h : HasL [] cs) : cs = [] := by
  simpa only [HasL] using h

def shStamp : Sh := .struct [.int .i64, .int .i64]
def okStamp (s : Stamp) : Prop := R s.time ∧ R s.who
abbrev Stamp.c (s : Stamp) : List V := [I s.time, I s.who]
theorem ofStamp {cs : List V} (h : HasCs shStamp cs) : ∃ s : Stamp, cs = s.c ∧ okStamp s := by
  simp only [shStamp, HasCs] at h
  obtain ⟨_, _, rfl, h1, h⟩ := ofField h
  obtain ⟨_, _, rfl, h2, h⟩ := ofField h
  obtain rfl := ofEnd h
  obtain ⟨a, rfl, ha⟩ := ofI h1
  obtain ⟨b, rfl, hb⟩ := ofI h2
  exact ⟨⟨a, b⟩, rfl, ha, hb⟩

def shPiece : Sh := .struct [.int .i64, shStamp, .str]
def okPiece (p : Piece) : Prop := R p.index ∧ okStamp p.at_ ∧ okStr p.data
theorem ofPiece (v : V) (h : HasV shPiece v) : ∃ p : Piece, v = p.v ∧ okPiece p := by
  obtain ⟨cs, rfl, h0⟩ := ofAgg h
  clear h
  have h := h0
  obtain ⟨_, _, rfl, h1, h⟩ := ofField h
  obtain ⟨_, _, rfl, h2, h⟩ := ofField h
  obtain ⟨_, _, rfl, h3, h⟩ := ofField h
  obtain rfl := ofEnd h
  obtain ⟨a, rfl, ha⟩ := ofI h1
  obtain ⟨b, rfl, hb⟩ := ofStamp h2
  obtain ⟨c, rfl, hc⟩ := ofStr h3
  exact ⟨⟨a, b, c⟩, rfl, ha, hb, hc⟩

def shXattr : Sh := .struct [.str, shStamp, .str, .bool]
def okXattr (x : Xattr) : Prop := okStr x.name ∧ okStamp x.at_ ∧ okStr x.val
theorem ofXattr (v : V) (h : HasV shXattr v) : ∃ x : Xattr, v = x.v ∧ okXattr x := by
  obtain ⟨cs, rfl, h0⟩ := ofAgg h
  clear h
  have h := h0
  obtain ⟨_, _, rfl, h1, h⟩ := ofField h
  obtain ⟨_, _, rfl, h2, h⟩ := ofField h
  obtain ⟨_, _, rfl, h3, h⟩ := ofField h
  obtain ⟨_, _, rfl, h4, h⟩ := ofField h
  obtain rfl := ofEnd h
  obtain ⟨a, rfl, ha⟩ := ofStr h1
  obtain ⟨b, rfl, hb⟩ := ofStamp h2
  obtain ⟨c, rfl, hc⟩ := ofStr h3
  obtain ⟨d, rfl⟩ := ofB h4
  exact ⟨⟨a, b, c, d⟩, rfl, ha, hb, hc⟩

def shInode : Sh := .struct [shStamp, .int .i64, .str, .struct [shStamp, .int .i64, .int .u64], .struct [shStamp, .int .i64], .slice shPiece, .slice shXattr]
structure okInode (n : Inode) : Prop where
  id : okStamp n.id
  kind : R n.kind
  text : okStr n.text
  aAt : okStamp n.aAt
  mode : R n.mode
  time : RU n.time
  sAt : okStamp n.sAt
  size : R n.n
  pieces : n.pieces.l.length < N63 ∧ ∀ p ∈ n.pieces.l, okPiece p
  xattrs : n.xattrs.l.length < N63 ∧ ∀ p ∈ n.xattrs.l, okXattr p
theorem ofInode (v : V) (h : HasV shInode v) : ∃ n : Inode, v = n.v ∧ okInode n := by
  obtain ⟨cs, rfl, h0⟩ := ofAgg h
  clear h
  have h := h0
  obtain ⟨_, _, rfl, h1, h⟩ := ofField h
  obtain ⟨_, _, rfl, h2, h⟩ := ofField h
  obtain ⟨_, _, rfl, h3, h⟩ := ofField h
  obtain ⟨_, _, rfl, h4, h⟩ := ofField h
  obtain ⟨_, _, rfl, h5, h⟩ := ofField h
  obtain ⟨_, _, rfl, h6, h⟩ := ofField h
  obtain ⟨_, _, rfl, h7, h⟩ := ofField h
  obtain rfl := ofEnd h
  simp only [HasCs] at h4 h5
  obtain ⟨_, _, rfl, h41, h⟩ := ofField h4
  obtain ⟨_, _, rfl, h42, h⟩ := ofField h
  obtain ⟨_, _, rfl, h43, h⟩ := ofField h
  obtain rfl := ofEnd h
  obtain ⟨_, _, rfl, h51, h⟩ := ofField h5
  obtain ⟨_, _, rfl, h52, h⟩ := ofField h
  obtain rfl := ofEnd h
  obtain ⟨a, rfl, ha⟩ := ofStamp h1
  obtain ⟨b, rfl, hb⟩ := ofI h2
  obtain ⟨c, rfl, hc⟩ := ofStr h3
  obtain ⟨d, rfl, hd⟩ := ofStamp h41
  obtain ⟨e, rfl, he⟩ := ofI h42
  obtain ⟨f, rfl, hf⟩ := ofU h43
  obtain ⟨g, rfl, hg⟩ := ofStamp h51
  obtain ⟨i, rfl, hi⟩ := ofI h52
  obtain ⟨j, rfl, hj⟩ := ofSlice Piece.v okPiece ofPiece h6
  obtain ⟨k, rfl, hk⟩ := ofSlice Xattr.v okXattr ofXattr h7
  exact ⟨⟨a, b, c, d, e, f, g, i, some j, some k⟩, rfl, ha, hb, hc, hd, he, hf, hg, hi, hj, hk⟩

def shStat : Sh := .struct [shStamp, .int .i64, .int .i64, .int .u64, .int .i64, .int .i64]
structure okStat (s : Stat) : Prop where
  node : okStamp s.node
  kind : R s.kind
  mode : R s.mode
  time : RU s.time
  size : R s.size
  links : R s.links
theorem ofStat {cs : List V} (h : HasCs shStat cs) : ∃ s : Stat, cs = s.c ∧ okStat s := by
  simp only [shStat, HasCs] at h
  obtain ⟨_, _, rfl, h1, h⟩ := ofField h
  obtain ⟨_, _, rfl, h2, h⟩ := ofField h
  obtain ⟨_, _, rfl, h3, h⟩ := ofField h
  obtain ⟨_, _, rfl, h4, h⟩ := ofField h
  obtain ⟨_, _, rfl, h5, h⟩ := ofField h
  obtain ⟨_, _, rfl, h6, h⟩ := ofField h
  obtain rfl := ofEnd h
  obtain ⟨a, rfl, ha⟩ := ofStamp h1
  obtain ⟨b, rfl, hb⟩ := ofI h2
  obtain ⟨c, rfl, hc⟩ := ofI h3
  obtain ⟨d, rfl, hd⟩ := ofU h4
  obtain ⟨e, rfl, he⟩ := ofI h5
  obtain ⟨f, rfl, hf⟩ := ofI h6
  exact ⟨⟨a, b, c, d, e, f⟩, rfl, ha, hb, hc, hd, he, hf⟩

def shAnswer : Sh := .struct [.int .i64, .str, .slice .str, shStat]
structure okAnswer (a : Answer) : Prop where
  err : R a.err
  data : okStr a.data
  names : a.names.l.length < N63 ∧ ∀ s ∈ a.names.l, okStr s
  stat : okStat a.stat
theorem ofAnswer (v : V) (h : HasV shAnswer v) : ∃ a : Answer, v = a.v ∧ okAnswer a := by
  obtain ⟨cs, rfl, h0⟩ := ofAgg h
  clear h
  have h := h0
  obtain ⟨_, _, rfl, h1, h⟩ := ofField h
  obtain ⟨_, _, rfl, h2, h⟩ := ofField h
  obtain ⟨_, _, rfl, h3, h⟩ := ofField h
  obtain ⟨_, _, rfl, h4, h⟩ := ofField h
  obtain rfl := ofEnd h
  obtain ⟨a, rfl, ha⟩ := ofI h1
  obtain ⟨b, rfl, hb⟩ := ofStr h2
  obtain ⟨c, rfl, hc⟩ := ofSlice S okStr (fun v h => ofStrV h) h3
  obtain ⟨d, rfl, hd⟩ := ofStat h4
  exact ⟨⟨a, b, some c, d⟩, by simp, ha, hb, hc, hd⟩

def shItem : Sh := .struct [.str, .int .i64, .int .i64, .int .u64, .str, .slice shXattr, .int .i64]
structure okItem (i : Item) : Prop where
  path : okStr i.path
  kind : R i.kind
  mode : R i.mode
  time : RU i.time
  body : okStr i.body
  xattrs : i.xattrs.l.length < N63 ∧ ∀ p ∈ i.xattrs.l, okXattr p
  same : R i.same
  some_ : ∃ x, i.xattrs = some x
theorem ofItem (v : V) (h : HasV shItem v) : ∃ i : Item, v = i.v ∧ okItem i := by
  obtain ⟨cs, rfl, h0⟩ := ofAgg h
  clear h
  have h := h0
  obtain ⟨_, _, rfl, h1, h⟩ := ofField h
  obtain ⟨_, _, rfl, h2, h⟩ := ofField h
  obtain ⟨_, _, rfl, h3, h⟩ := ofField h
  obtain ⟨_, _, rfl, h4, h⟩ := ofField h
  obtain ⟨_, _, rfl, h5, h⟩ := ofField h
  obtain ⟨_, _, rfl, h6, h⟩ := ofField h
  obtain ⟨_, _, rfl, h7, h⟩ := ofField h
  obtain rfl := ofEnd h
  obtain ⟨a, rfl, ha⟩ := ofStr h1
  obtain ⟨b, rfl, hb⟩ := ofI h2
  obtain ⟨c, rfl, hc⟩ := ofI h3
  obtain ⟨d, rfl, hd⟩ := ofU h4
  obtain ⟨e, rfl, he⟩ := ofStr h5
  obtain ⟨f, rfl, hf⟩ := ofSlice Xattr.v okXattr ofXattr h6
  obtain ⟨g, rfl, hg⟩ := ofI h7
  exact ⟨⟨a, b, c, d, e, some f, g⟩, rfl, ha, hb, hc, hd, he, hf, hg, f, rfl⟩
theorem ofItems (v : V) (h : HasV (.slice shItem) v) : ∃ l : List Item, v = .snap (l.map Item.v) ∧ l.length < N63 ∧ ∀ i ∈ l, okItem i := by
  obtain ⟨cs, h1, h2⟩ := h
  obtain ⟨l, rfl, hl, hi⟩ := ofSlice Item.v okItem ofItem h2
  simp [mkS, Sh.isAgg] at h1
  exact ⟨l, h1.symm, hl, hi⟩
end Go.Vm.Tryz
end

section
set_option linter.unusedVariables false
set_option linter.unusedSimpArgs false
set_option maxRecDepth 10000
namespace Go.Vm.Tryz
open Go Go.Vm

theorem wrapI {n : Int} (h : R n) : IntKind.i64.wrap n = n := by
  unfold R at h
  simp [IntKind.wrap, IntKind.bits, IntKind.signed]; omega

def crcStep (c : Nat) : Nat := if c % 2 = 1 then (c / 2) ^^^ 14514072000185962306 else c / 2
def stepN : Nat → Nat → Nat
  | 0, c => c
  | j + 1, c => crcStep (stepN j c)
def crcByte (c : Nat) (b : UInt8) : Nat := stepN 8 (c ^^^ b.toNat)
def crcAll (c : Nat) (s : Str) : Nat := s.foldl crcByte c
def crcOf (s : Str) : Nat := 18446744073709551615 - crcAll 18446744073709551615 s

theorem crcStep_lt {c : Nat} (h : c < 18446744073709551616) : crcStep c < 18446744073709551616 := by
  unfold crcStep
  split
  · exact Nat.xor_lt_two_pow (n := 64) (by omega) (by omega)
  · omega
theorem stepN_lt {c : Nat} (h : c < 18446744073709551616) : ∀ j, stepN j c < 18446744073709551616
  | 0 => h
  | j + 1 => crcStep_lt (stepN_lt h j)
theorem xorByte_lt {c : Nat} (h : c < 18446744073709551616) (b : UInt8) : c ^^^ b.toNat < 18446744073709551616 :=
  Nat.xor_lt_two_pow (n := 64) (by omega) (by have := b.toNat_lt; omega)
theorem crcByte_lt {c : Nat} (h : c < 18446744073709551616) (b : UInt8) : crcByte c b < 18446744073709551616 := stepN_lt (xorByte_lt h b) 8
theorem crcAll_lt (s : Str) : ∀ {c : Nat}, c < 18446744073709551616 → crcAll c s < 18446744073709551616 := by
  induction s with
  | nil => exact fun h => h
  | cons b s ih => exact fun h => ih (crcByte_lt h b)

/-- The rounds of crc.More. -/
theorem more171_in (c0 : Nat) (hc0 : c0 < 18446744073709551616) (h : List HO) (σ : St) (hh : σ.h = h) (v1 v11 v12 : T) (h1 : σ.e 1 = v1) (h11 : σ.e 11 = v11) (h12 : σ.e 12 = v12) (h5 : σ.e 5 = .v (.int .u64 c0)) (h21 : σ.e 21 = .v (I 0)) (K : List It) (Q : Ex → St → Prop)
    (hK : ∀ σ' : St, σ'.h = h → σ'.e 1 = v1 → σ'.e 11 = v11 → σ'.e 12 = v12 → σ'.e 5 = .v (.int .u64 (stepN 8 c0)) → wp (contK X K (.exit 2) σ') Q) :
    wp (run X (.c L171_1 :: K) σ) Q := by
  refine wp_loop (fun n σ => σ.h = h ∧ σ.e 1 = v1 ∧ σ.e 11 = v11 ∧ σ.e 12 = v12 ∧ ∃ j : Nat, n + j = 8 ∧ σ.e 21 = .v (I j) ∧ σ.e 5 = .v (.int .u64 (stepN j c0))) ?_ 8 _ ⟨hh, h1, h11, h12, 0, rfl, h21, h5⟩
  clear hh h1 h11 h12 h5 h21 σ
  rintro n ⟨e, m, g, rb, h'⟩ ⟨rfl, h1, h11, h12, j, hj, h21, h5⟩
  dsimp only at h1 h11 h12 h21 h5
  by_cases hlt : j < 8
  · have hj' : (j : Int) < 8 := by omega
    have hw := wrapI (n := (j : Int) + 1) (by unfold R; omega)
    obtain ⟨c, hc⟩ : ∃ c, c = stepN j c0 := ⟨_, rfl⟩
    have hcl : c < 18446744073709551616 := by rw [hc]; exact stepN_lt hc0 j
    rw [← hc] at h5
    have hm := mod64 c hcl
    have h1' : c &&& 1 = c % 2 := Nat.and_one_is_mod c
    have hst : stepN (j + 1) c0 = crcStep c := by rw [hc]; rfl
    have fin : ∀ x : Int, x = crcStep c → ∃ k, k < n ∧ ∃ j' : Nat, k + j' = 8 ∧ IntKind.i64.wrap (↑j + 1) = ↑j' ∧ x = ↑(stepN j' c0) :=
      fun x hx => ⟨n - 1, by omega, j + 1, by omega, by simp [hw], by rw [hst, hx]⟩
    have hd : (c : Int).fdiv 2 = ((c / 2 : Nat) : Int) := by rw [Int.fdiv_eq_ediv_of_nonneg _ (by decide)]; omega
    have hm2 : ((c : Int) / 2 % 18446744073709551616).toNat = c / 2 := by omega
    have hx : c / 2 ^^^ 14514072000185962306 < 18446744073709551616 := Nat.xor_lt_two_pow (n := 64) (by omega) (by omega)
    rcases Nat.mod_two_eq_zero_or_one c with hp | hp
    · have hcs : crcStep c = c / 2 := by unfold crcStep; rw [if_neg (by omega)]
      rw [hp] at h1'
      simp [h1, h11, h12, h21, h5, hj', hm, h1', hd, hm2]
      have e0 : (IntKind.u64.wrap ↑(14514072000185962306 &&& (IntKind.u64.wrap (-IntKind.u64.wrap 0) % 18446744073709551616).toNat) % 18446744073709551616).toNat = 0 := by decide
      refine fin _ ?_
      rw [e0, Nat.xor_zero, hcs, u64_small _ (by omega)]
    · have hcs : crcStep c = c / 2 ^^^ 14514072000185962306 := by unfold crcStep; rw [if_pos hp]
      rw [hp] at h1'
      simp [h1, h11, h12, h21, h5, hj', hm, h1', hd, hm2]
      have e0 : (IntKind.u64.wrap ↑(14514072000185962306 &&& (IntKind.u64.wrap (-IntKind.u64.wrap 1) % 18446744073709551616).toNat) % 18446744073709551616).toNat = 14514072000185962306 := by decide
      refine fin _ ?_
      rw [e0, hcs, u64_small _ (by omega)]
  · have : j = 8 := by omega
    subst this
    simp [h1, h11, h12, h21, h5]
    apply hK <;> simp

theorem more171 (s : Str) (hs : s.length < N63) (h : List HO) : VC X 171 [.int .u64 0, S s] h = some (.ret (.int .u64 (crcOf s)), h) := by
  unfold N63 at hs
  rw [v171]
  refine Ans.eq (ans_wp ?_)
  have hall := crcAll_lt s (c := 18446744073709551615) (by decide)
  simp [s171]
  refine wp_loop (fun n σ => σ.h = h ∧ σ.e 1 = .v (S s) ∧ σ.e 11 = .v (I s.length) ∧ ∃ i : Nat, n + i = s.length ∧ σ.e 12 = .v (I i) ∧ σ.e 5 = .v (.int .u64 (crcAll 18446744073709551615 (s.take i)))) ?_ s.length _ ⟨rfl, rfl, rfl, 0, by simp, rfl, ?_⟩
  · rintro n ⟨e, m, g, rb, h'⟩ ⟨rfl, h1, h11, i, hi, h12, h5⟩
    dsimp only at h1 h11 h12 h5
    by_cases hlt : i < s.length
    · have hb : s[i]? = some s[i] := List.getElem?_eq_getElem hlt
      have hw := wrapI (n := (i : Int) + 1) (by unfold R; omega)
      obtain ⟨c, hc⟩ : ∃ c, c = crcAll 18446744073709551615 (s.take i) := ⟨_, rfl⟩
      have hcl : c < 18446744073709551616 := by rw [hc]; exact crcAll_lt _ (by decide)
      rw [← hc] at h5
      have hm := mod64 c hcl
      have hst : crcAll 18446744073709551615 (s.take (i + 1)) = crcByte c s[i] := by
        unfold crcAll at hc ⊢
        rw [List.take_succ_eq_append_getElem hlt, List.foldl_append, ← hc]
        rfl
      have hbn := s[i].toNat_lt
      have hm2 : IntKind.u64.wrap (s[i].toNat : Int) = (s[i].toNat : Int) := u64_small _ (by omega)
      have hm3 := mod64 s[i].toNat (by omega)
      have hx := xorByte_lt hcl s[i]
      have hm4 : IntKind.u64.wrap ((c ^^^ s[i].toNat : Nat) : Int) = ((c ^^^ s[i].toNat : Nat) : Int) := u64_small _ (by omega)
      simp [h1, h11, h12, h5, hlt, hb, hm, hm2, hm3, hm4]
      refine more171_in _ hx _ _ rfl _ _ _ rfl rfl rfl rfl rfl _ _ ?_
      rintro ⟨e', m', g', rb', h''⟩ k0 k1 k11 k12 k5
      dsimp only at k0 k1 k11 k12 k5
      subst k0
      simp [k1, k11, k12, k5, hw]
      exact ⟨n - 1, by omega, i + 1, by omega, by simp, by rw [hst]; rfl⟩
    · have : s.take i = s := List.take_of_length_le (by omega)
      rw [this] at h5
      simp [h1, h11, h12, h5, hlt, s171]
      have e0 : (IntKind.u64.max % 18446744073709551616).toNat = 18446744073709551615 := by decide
      rw [e0, mod64 _ hall, xor_allN _ hall, u64_small _ (by omega)]
      rfl
  · have e0 : IntKind.u64.wrap (max (IntKind.u64.max % 18446744073709551616) 0) = 18446744073709551615 := by decide
    show T.v (V.int .u64 (IntKind.u64.wrap (max (IntKind.u64.max % 18446744073709551616) 0))) = _
    rw [e0]
    rfl

theorem of94 (s : Str) (hs : s.length < N63) (h : List HO) : VC X 94 [S s] h = some (.ret (.int .u64 (crcOf s)), h) := by
  rw [v94]
  refine Ans.eq (ans_wp ?_)
  have e := more171 s hs h
  simp [s94, e]

/-- The rounds of ref03.More. -/
theorem more172_in (c0 : Nat) (hc0 : c0 < 18446744073709551616) (h : List HO) (σ : St) (hh : σ.h = h) (v1 v11 v12 : T) (h1 : σ.e 1 = v1) (h11 : σ.e 11 = v11) (h12 : σ.e 12 = v12) (h5 : σ.e 5 = .v (.int .u64 c0)) (h21 : σ.e 21 = .v (I 0)) (K : List It) (Q : Ex → St → Prop)
    (hK : ∀ σ' : St, σ'.h = h → σ'.e 1 = v1 → σ'.e 11 = v11 → σ'.e 12 = v12 → σ'.e 5 = .v (.int .u64 (stepN 8 c0)) → wp (contK X K (.exit 2) σ') Q) :
    wp (run X (.c L172_1 :: K) σ) Q := by
  refine wp_loop (fun n σ => σ.h = h ∧ σ.e 1 = v1 ∧ σ.e 11 = v11 ∧ σ.e 12 = v12 ∧ ∃ j : Nat, n + j = 8 ∧ σ.e 21 = .v (I j) ∧ σ.e 5 = .v (.int .u64 (stepN j c0))) ?_ 8 _ ⟨hh, h1, h11, h12, 0, rfl, h21, h5⟩
  clear hh h1 h11 h12 h5 h21 σ
  rintro n ⟨e, m, g, rb, h'⟩ ⟨rfl, h1, h11, h12, j, hj, h21, h5⟩
  dsimp only at h1 h11 h12 h21 h5
  by_cases hlt : j < 8
  · have hj' : (j : Int) < 8 := by omega
    have hw := wrapI (n := (j : Int) + 1) (by unfold R; omega)
    obtain ⟨c, hc⟩ : ∃ c, c = stepN j c0 := ⟨_, rfl⟩
    have hcl : c < 18446744073709551616 := by rw [hc]; exact stepN_lt hc0 j
    rw [← hc] at h5
    have hst : stepN (j + 1) c0 = crcStep c := by rw [hc]; rfl
    have fin : ∀ x : Int, x = crcStep c → ∃ k, k < n ∧ ∃ j' : Nat, k + j' = 8 ∧ IntKind.i64.wrap (↑j + 1) = ↑j' ∧ x = ↑(stepN j' c0) :=
      fun x hx => ⟨n - 1, by omega, j + 1, by omega, by simp [hw], by rw [hst, hx]⟩
    have hm : (c : Int).tmod 2 = (c : Int) % 2 := Int.tmod_eq_emod_of_nonneg (by omega)
    have hd : (c : Int).tdiv 2 = (c : Int) / 2 := Int.tdiv_eq_ediv_of_nonneg (by omega)
    have hd2 : IntKind.u64.wrap ((c : Int) / 2) = (c : Int) / 2 := u64_small _ (by omega)
    have hm2 : ((c : Int) / 2 % 18446744073709551616).toNat = c / 2 := by omega
    have hx : c / 2 ^^^ 14514072000185962306 < 18446744073709551616 := Nat.xor_lt_two_pow (n := 64) (by omega) (by omega)
    rcases Nat.mod_two_eq_zero_or_one c with hp | hp
    · have hcs : crcStep c = c / 2 := by unfold crcStep; rw [if_neg (by omega)]
      have hp' : (c : Int) % 2 = 0 := by omega
      simp [h1, h11, h12, h21, h5, hj', hm, hp', hd, hd2]
      refine fin _ ?_
      rw [hcs]; omega
    · have hcs : crcStep c = c / 2 ^^^ 14514072000185962306 := by unfold crcStep; rw [if_pos hp]
      have hp' : (c : Int) % 2 = 1 := by omega
      simp [h1, h11, h12, h21, h5, hj', hm, hp', hd, hd2, hm2]
      refine fin _ ?_
      rw [hcs, u64_small _ (by omega)]
  · have : j = 8 := by omega
    subst this
    simp [h1, h11, h12, h21, h5]
    apply hK <;> simp

theorem more172 (s : Str) (hs : s.length < N63) (h : List HO) : VC X 172 [.int .u64 0, S s] h = some (.ret (.int .u64 (crcOf s)), h) := by
  unfold N63 at hs
  rw [v172]
  refine Ans.eq (ans_wp ?_)
  have hall := crcAll_lt s (c := 18446744073709551615) (by decide)
  simp [s172]
  refine wp_loop (fun n σ => σ.h = h ∧ σ.e 1 = .v (S s) ∧ σ.e 11 = .v (I s.length) ∧ ∃ i : Nat, n + i = s.length ∧ σ.e 12 = .v (I i) ∧ σ.e 5 = .v (.int .u64 (crcAll 18446744073709551615 (s.take i)))) ?_ s.length _ ⟨rfl, rfl, rfl, 0, by simp, rfl, ?_⟩
  · rintro n ⟨e, m, g, rb, h'⟩ ⟨rfl, h1, h11, i, hi, h12, h5⟩
    dsimp only at h1 h11 h12 h5
    by_cases hlt : i < s.length
    · have hb : s[i]? = some s[i] := List.getElem?_eq_getElem hlt
      have hw := wrapI (n := (i : Int) + 1) (by unfold R; omega)
      obtain ⟨c, hc⟩ : ∃ c, c = crcAll 18446744073709551615 (s.take i) := ⟨_, rfl⟩
      have hcl : c < 18446744073709551616 := by rw [hc]; exact crcAll_lt _ (by decide)
      rw [← hc] at h5
      have hm := mod64 c hcl
      have hst : crcAll 18446744073709551615 (s.take (i + 1)) = crcByte c s[i] := by
        unfold crcAll at hc ⊢
        rw [List.take_succ_eq_append_getElem hlt, List.foldl_append, ← hc]
        rfl
      have hbn := s[i].toNat_lt
      have hm2 : IntKind.u64.wrap (s[i].toNat : Int) = (s[i].toNat : Int) := u64_small _ (by omega)
      have hm3 := mod64 s[i].toNat (by omega)
      have hx := xorByte_lt hcl s[i]
      have hm4 : IntKind.u64.wrap ((c ^^^ s[i].toNat : Nat) : Int) = ((c ^^^ s[i].toNat : Nat) : Int) := u64_small _ (by omega)
      simp [h1, h11, h12, h5, hlt, hb, hm, hm2, hm3, hm4]
      refine more172_in _ hx _ _ rfl _ _ _ rfl rfl rfl rfl rfl _ _ ?_
      rintro ⟨e', m', g', rb', h''⟩ k0 k1 k11 k12 k5
      dsimp only at k0 k1 k11 k12 k5
      subst k0
      simp [k1, k11, k12, k5, hw]
      exact ⟨n - 1, by omega, i + 1, by omega, by simp, by rw [hst]; rfl⟩
    · have : s.take i = s := List.take_of_length_le (by omega)
      rw [this] at h5
      simp [h1, h11, h12, h5, hlt, s172]
      rw [u64_small _ (by omega)]
      unfold crcOf
      omega
  · simp [u64_small, crcAll]

theorem of95 (s : Str) (hs : s.length < N63) (h : List HO) : VC X 95 [S s] h = some (.ret (.int .u64 (crcOf s)), h) := by
  rw [v95]
  refine Ans.eq (ans_wp ?_)
  have e := more172 s hs h
  simp [s95, e]
end Go.Vm.Tryz
end

section
set_option linter.unusedVariables false
set_option linter.unusedSimpArgs false
set_option maxRecDepth 10000
namespace Go.Vm.Tryz
open Go Go.Vm

/-- A number's lowest bytes, the lowest first. -/
def le (n : Int) (j : Nat) : Str := (List.range j).map (byteAt n)
def sealOf (s : Str) : Str := s ++ le (crcOf s) 8

theorem le_len (n : Int) (j : Nat) : (le n j).length = j := by simp [le]
theorem le_step (n : Int) (j : Nat) : le n (j + 1) = le n j ++ [byteAt n j] := by simp [le, List.range_succ]

theorem seal42 (s : Str) (hs : s.length < 1152921504606846976) (h : List HO) : VC X 42 [S s] h = some (.ret (S (sealOf s)), h) := by
  rw [v42]
  refine Ans.eq (ans_wp ?_)
  have ec := of94 s (by unfold N63; omega) h
  have hn : crcOf s < 18446744073709551616 := by unfold crcOf; omega
  have hso : sealOf s = s ++ le (crcOf s) 8 := rfl
  generalize crcOf s = n at ec hn hso
  simp [s42, ec]
  refine wp_loop (fun k σ => σ.h = h ∧ σ.e 0 = .v (S s) ∧ σ.e 3 = .v (.int .u64 n) ∧ σ.e 4 = .loc 4 0 0 ∧ ∃ i : Nat, k + i = 8 ∧ σ.e 8 = .v (I i) ∧ σ.m 4 = some (0, bytesV (le n i ++ List.replicate (8 - i) 0))) ?_ 8 _ ⟨rfl, rfl, rfl, rfl, 0, rfl, rfl, rfl⟩
  rintro k ⟨e, m, g, rb, h'⟩ ⟨rfl, h0, h3, h4, i, hi, h8, m4⟩
  dsimp only at h0 h3 h4 h8 m4
  by_cases hlt : i < 8
  · have hlt' : (i : Int) < 8 := by omega
    have hw := wrapI (n := (i : Int) + 1) (by unfold R; omega)
    have hw8 := wrapI (n := 8 * (i : Int)) (by unfold R; omega)
    have hsn : ¬ (8 * (i : Int) < 0) := by omega
    have hmin : min (8 * (i : Int)).toNat 64 = 8 * i := by omega
    have hby : IntKind.u8.wrap ((n : Int).fdiv (2 ^ (8 * i))) = ((byteAt n i).toNat : Int) := by rw [u8_wrap, byteAt_val]
    have h18 : 1 ≤ 8 - i := by omega
    simp [h0, h3, h4, h8, m4, hlt', hlt, hw8, hsn, hmin, hby, le_len, h18, hw]
    refine ⟨k - 1, by omega, i + 1, by omega, by simp, ?_⟩
    have e1 : List.take i (bytesV (le n i ++ List.replicate (8 - i) 0)) = bytesV (le n i) := by
      rw [bytesV_take, List.take_append_of_le_length (by rw [le_len]; omega), List.take_of_length_le (by rw [le_len]; omega)]
    have e2 : List.drop (i + 1) (bytesV (le n i ++ List.replicate (8 - i) 0)) = bytesV (List.replicate (8 - (i + 1)) 0) := by
      rw [bytesV_drop, List.drop_append, List.drop_eq_nil_of_le (by rw [le_len]; omega), le_len, List.nil_append, List.drop_replicate, show 8 - i - (i + 1 - i) = 8 - (i + 1) by omega]
    rw [e1, e2, le_step]
    simp [bytesV]
  · have : i = 8 := by omega
    subst this
    have hl : s.length + 8 < 4611686018427387904 := by omega
    simp [h0, h3, h4, h8, m4, effO, le_len, bytesV_all', unbytes_bytesV, hl, s42]
    exact hso.symm

theorem seal45 (s : Str) (hs : s.length < 1152921504606846976) (h : List HO) : VC X 45 [S s] h = some (.ret (S (sealOf s)), h) := by
  rw [v45]
  refine Ans.eq (ans_wp ?_)
  have ec := of95 s (by unfold N63; omega) h
  have hn : crcOf s < 18446744073709551616 := by unfold crcOf; omega
  have hso : sealOf s = s ++ le (crcOf s) 8 := rfl
  generalize crcOf s = n at ec hn hso
  have hr0 : rest n 0 = n := by unfold rest; simp; omega
  simp [s45, ec]
  refine wp_loop (fun k σ => σ.h = h ∧ ∃ i : Nat, k + i = 8 ∧ σ.e 8 = .v (I i) ∧ σ.e 3 = .v (S (s ++ le n i)) ∧ σ.e 4 = .v (.int .u64 (rest n i))) ?_ 8 _ ⟨rfl, 0, rfl, rfl, by simp [le], by rw [hr0]; rfl⟩
  rintro k ⟨e, m, g, rb, h'⟩ ⟨rfl, i, hi, h8, h3, h4⟩
  dsimp only at h3 h4 h8
  by_cases hlt : i < 8
  · have hlt' : (i : Int) < 8 := by omega
    have hw := wrapI (n := (i : Int) + 1) (by unfold R; omega)
    have hby : IntKind.u8.wrap ((rest n i).tmod 256) = ((byteAt n i).toNat : Int) := by rw [rest_byte n i hlt, u8_wrap, byteAt_val]; omega
    have hq : (rest n i).tdiv 256 = rest n (i + 1) := rest_step n i
    have hqw : IntKind.u64.wrap (rest n (i + 1)) = rest n (i + 1) := u64_small _ ⟨rest_nonneg _ _, by have := rest_lt n (i + 1); omega⟩
    have hub : unbytes [V.int .u8 ((byteAt n i).toNat : Int)] = some [byteAt n i] := unbytes_bytesV [byteAt n i]
    have hll : (s ++ le n i).length = s.length + i := by simp [le_len]
    have hl2 : s.length + i + 1 < 4611686018427387904 := by omega
    simp [h3, h4, h8, hlt', hby, hq, hqw, hub, le_len, hw, hl2]
    exact ⟨k - 1, by omega, i + 1, by omega, by simp, by rw [le_step], rfl⟩
  · have : i = 8 := by omega
    subst this
    simp [h3, h4, h8, s45]
    exact hso.symm
end Go.Vm.Tryz
end

section
set_option linter.unusedVariables false
set_option linter.unusedSimpArgs false
set_option maxRecDepth 10000
namespace Go.Vm.Tryz
open Go Go.Vm

@[simp] theorem i64_bits : IntKind.i64.bits = 64 := rfl

/-- Bytes that running code holds. -/
def Held (h : List HO) (v : V) (bs : Str) : Prop := v = .nils ∧ bs = [] ∨ ∃ id ver, v = .sl id ver 1 0 bs.length ∧ h[id]? = some (.row ver (bytesV bs))

theorem Held.app {h : List HO} {v : V} {bs : Str} (hh : Held h v bs) (l : List HO) : Held (h ++ l) v bs := by
  rcases hh with hh | ⟨id, ver, rfl, e⟩
  · exact .inl hh
  · refine .inr ⟨id, ver, rfl, ?_⟩
    have hlt : id < h.length := by
      rcases Nat.lt_or_ge id h.length with hl | hl
      · exact hl
      · rw [List.getElem?_eq_none hl] at e; cases e
    rw [List.getElem?_append_left hlt]; exact e

theorem wide93 (w : Nat) (hw : 1 ≤ w ∧ w ≤ 8) (h : List HO) : VC X 93 [I w] h = some (.ret (B true), h) := by
  rw [v93]
  refine Ans.eq (ans_wp ?_)
  have h1 : (1 : Int) ≤ w := by omega
  have h2 : (w : Int) ≤ 8 := by omega
  simp [s93, h1, h2]

theorem be_take_step (n : Int) (w k : Nat) (hk : k < w) : (be n w).take (k + 1) = (be n w).take k ++ [byteAt n (w - 1 - k)] := by
  rw [List.take_add_one, be_get n w k hk]
  rfl

theorem put40 (v : V) (bs : Str) (n : Int) (w : Nat) (hw : 1 ≤ w ∧ w ≤ 8) (hl : bs.length < 1000000) (h : List HO) (hh : Held h v bs) :
    Ans (VC X 40 [v, I n, I w] h) fun r h' => ∃ ver, r = .ret (.sl h.length ver 1 0 (bs.length + w)) ∧ h' = h ++ [.row ver (bytesV (bs ++ be n w))] := by
  rw [v40]
  refine ans_wp ?_
  have main : ∀ σ : St, σ.e 1 = .v (I n) → σ.e 7 = .v (.sl h.length 1 1 0 bs.length) → σ.e 8 = .v (I ((w : Int) - 1)) → σ.h = h ++ [.row 1 (bytesV bs)] →
      wp (run X [.c L40_1, .e 0 [7] [], .c c40_20] σ) (endP s40 h fun r h' => ∃ ver, r = .ret (.sl h.length ver 1 0 (bs.length + w)) ∧ h' = h ++ [.row ver (bytesV (bs ++ be n w))]) := by
    intro σ k1 k7 k8 kh
    refine wp_loop (fun c σ => σ.e 1 = .v (I n) ∧ ∃ k : Nat, c + k = w ∧ σ.e 8 = .v (I ((w : Int) - 1 - k)) ∧ σ.e 7 = .v (.sl h.length (1 + k) 1 0 (bs.length + k)) ∧ σ.h = h ++ [.row (1 + k) (bytesV (bs ++ (be n w).take k))]) ?_ w _ ⟨k1, 0, by simp, by simpa using k8, k7, by simpa using kh⟩
    clear k1 k7 k8 kh σ
    rintro c ⟨e, m, g, rb, h'⟩ ⟨k1, k, hk, k8, k7, kh⟩
    dsimp only at k1 k7 k8 kh
    subst kh
    by_cases hlt : k < w
    · have h0 : (0 : Int) ≤ (w : Int) - 1 - k := by omega
      obtain ⟨j, hj⟩ : ∃ j, j = w - 1 - k := ⟨_, rfl⟩
      have hj' : (w : Int) - 1 - k = (j : Int) := by omega
      rw [hj'] at k8 h0
      have hw8 := wrapI (n := 8 * (j : Int)) (by unfold R; omega)
      have hw1 := wrapI (n := (j : Int) - 1) (by unfold R; omega)
      have hsn : ¬ (8 * (j : Int) < 0) := by omega
      have hmin : min (8 * (j : Int)).toNat 64 = 8 * j := by omega
      have hby : IntKind.u8.wrap (n.fdiv (2 ^ (8 * j))) = ((byteAt n j).toNat : Int) := by rw [u8_wrap, byteAt_val]
      have hlen : ((be n w).take k).length = k := by rw [List.length_take, be_len]; omega
      have hlf : bs.length + k + 1 < 4294967296 := by omega
      have htk : List.take (bs.length + k) (bytesV (bs ++ (be n w).take k)) = bytesV (bs ++ (be n w).take k) := List.take_of_length_le (by simp [hlen])
      simp [k1, k7, k8, h0, hw8, hsn, hmin, hby, effO, St.srcV, far, hlen, be_len, hlf, htk, hw1]
      refine ⟨c - 1, by omega, k + 1, by omega, by omega, ⟨by omega, by omega⟩, by omega, ?_⟩
      rw [be_take_step n w k hlt, ← hj]
      simp [bytesV]
    · have hkw : k = w := by omega
      subst hkw
      have h0 : ¬ (k : Int) ≤ (k : Int) - 1 := by omega
      have htk : (be n k).take k = be n k := List.take_of_length_le (by rw [be_len]; omega)
      simp [k1, k7, k8, h0, htk, s40, finish]
  have hwd := wide93 w hw (h ++ [.row 1 (bytesV bs)])
  have hlf : bs.length < 4294967296 := by omega
  have hw1 := wrapI (n := (w : Int) - 1) (by unfold R; omega)
  have hap := hh.app [.row 0 []]
  rcases hh with ⟨rfl, rfl⟩ | ⟨id, ver, rfl, e⟩
  · have hb0 : bytesV [] = [] := rfl
    rw [hb0] at hwd
    simp [hb0] at main
    simp [s40, effO, St.srcV, far, hwd, hw1]
    exact main _ rfl rfl rfl rfl
  · have hlt : id < h.length := by
      rcases Nat.lt_or_ge id h.length with hl | hl
      · exact hl
      · rw [List.getElem?_eq_none hl] at e; cases e
    have e2 : (h ++ [HO.row 0 []])[id]? = some (.row ver (bytesV bs)) := by rw [List.getElem?_append_left hlt]; exact e
    have htk : List.take bs.length (bytesV bs) = bytesV bs := List.take_of_length_le (by simp)
    simp [s40, effO, St.srcV, far, e2, htk, bytesV_all', hlf, hwd, hw1]
    exact main _ rfl rfl rfl rfl

theorem putText41 (v : V) (bs s : Str) (hl : bs.length < 1000000) (hs : s.length ≤ 65535) (h : List HO) (hh : Held h v bs) :
    Ans (VC X 41 [v, S s] h) fun r h' => ∃ ver, r = .ret (.sl h.length ver 1 0 (bs.length + 2 + s.length)) ∧ h' = h ++ [.row ver (bytesV (bs ++ be s.length 2 ++ s))] := by
  obtain ⟨r, h', e, ver, rfl, rfl⟩ := (put40 v bs s.length 2 (by omega) hl h hh).ex
  rw [v41]
  refine ans_wp ?_
  have hm : (if (65535 : Int) < s.length then 65535 else (s.length : Int)) = s.length := by rw [if_neg (by omega)]
  have e' : VC X 40 [v, I s.length, I 2] h = _ := e
  have hlf : bs.length + 2 + s.length < 4294967296 := by omega
  have htk : List.take (bs.length + 2) (bytesV (bs ++ be s.length 2)) = bytesV (bs ++ be s.length 2) := List.take_of_length_le (by simp [be_len])
  simp [s41, hm, e', effO, St.srcV, far, be_len, bytesV_all', htk, hlf]
  exact ⟨ver + 1, rfl, by simp [finish, bytesV]⟩
end Go.Vm.Tryz
end

section
set_option linter.unusedVariables false
set_option linter.unusedSimpArgs false
set_option maxRecDepth 10000
namespace Go.Vm.Tryz
open Go Go.Vm

theorem put43 (v : V) (bs : Str) (n : Int) (w : Nat) (hw : 1 ≤ w ∧ w ≤ 8) (hl : bs.length < 1000000) (h : List HO) (hh : Held h v bs) :
    Ans (VC X 43 [v, I n, I w] h) fun r h' => ∃ ver junk, r = .ret (.sl h.length ver 1 0 (bs.length + w)) ∧ h' = h ++ (.row ver (bytesV (bs ++ be n w)) :: junk) := by
  rw [v43]
  refine ans_wp ?_
  have main : ∀ σ : St, σ.e 7 = .v (.sl h.length 1 1 0 bs.length) → σ.e 8 = .v (.int .u64 (rest n 0)) → σ.e 9 = .v .nils → σ.e 22 = .v (I w) → σ.e 23 = .v (I 0) → σ.h = h ++ [.row 1 (bytesV bs)] →
      wp (run X [.c L43_1, .e 0 [7, 9] [], .c c43_24] σ) (endP s43 h fun r h' => ∃ ver junk, r = .ret (.sl h.length ver 1 0 (bs.length + w)) ∧ h' = h ++ (.row ver (bytesV (bs ++ be n w)) :: junk)) := by
    intro σ k7 k8 k9 k22 k23 kh
    refine wp_loop (fun c σ => σ.e 7 = .v (.sl h.length 1 1 0 bs.length) ∧ σ.e 22 = .v (I w) ∧ ∃ (j : Nat) (v9 : V) (junk : List HO), c + j = w ∧ σ.e 23 = .v (I j) ∧ σ.e 8 = .v (.int .u64 (rest n j)) ∧ σ.e 9 = .v v9 ∧ σ.h = h ++ (.row 1 (bytesV bs) :: junk) ∧ Held (h ++ (.row 1 (bytesV bs) :: junk)) v9 (be n j)) ?_ w _ ⟨k7, k22, 0, .nils, [], by simp, k23, k8, k9, kh, .inl ⟨rfl, rfl⟩⟩
    clear k7 k8 k9 k22 k23 kh σ
    rintro c ⟨e, m, g, rb, h'⟩ ⟨k7, k22, j, v9, junk, hj, k23, k8, k9, kh, k9h⟩
    dsimp only at k7 k8 k9 k22 k23 kh
    subst kh
    obtain ⟨H, hH⟩ : ∃ H, H = h ++ (HO.row 1 (bytesV bs) :: junk) := ⟨_, rfl⟩
    rw [← hH] at k9h ⊢
    by_cases hlt : j < w
    · have hlt' : (j : Int) < w := by omega
      have hw1 := wrapI (n := (j : Int) + 1) (by unfold R; omega)
      have hby : IntKind.u8.wrap ((rest n j).tmod 256) = ((byteAt n j).toNat : Int) := by rw [rest_byte n j (by omega), u8_wrap, byteAt_val]; omega
      have hq : (rest n j).tdiv 256 = rest n (j + 1) := rest_step n j
      have hqw : IntKind.u64.wrap (rest n (j + 1)) = rest n (j + 1) := u64_small _ ⟨rest_nonneg _ _, by have := rest_lt n (j + 1); omega⟩
      have hlf : 1 + j < 4294967296 := by omega
      have fin : ∀ (H' : List HO) (vv : V), H' = H ++ [HO.row 1 (bytesV (be n (j + 1)))] → vv = V.sl H.length 1 1 0 (j + 1) → ∃ k, k < c ∧ ∃ j' : Nat, k + j' = w ∧ IntKind.i64.wrap (↑j + 1) = ↑j' ∧ rest n (j + 1) = rest n j' ∧ ∃ x, H' = h ++ HO.row 1 (bytesV bs) :: x ∧ Held (h ++ HO.row 1 (bytesV bs) :: x) vv (be n j') := by
        intro H' vv e1 e2
        have e3 : h ++ (HO.row 1 (bytesV bs) :: (junk ++ [HO.row 1 (bytesV (be n (j + 1)))])) = H ++ [HO.row 1 (bytesV (be n (j + 1)))] := by rw [hH]; simp
        refine ⟨c - 1, by omega, j + 1, by omega, by simp [hw1], rfl, junk ++ [HO.row 1 (bytesV (be n (j + 1)))], by rw [e1, e3], .inr ⟨H.length, 1, by rw [e2, be_len], ?_⟩⟩
        rw [e3]
        simp
      rcases k9h with ⟨rfl, hbe⟩ | ⟨id, ver, rfl, eid⟩
      · have hj0 : j = 0 := by have := be_len n j; rw [hbe] at this; simpa using this.symm
        simp [k7, k8, k9, k22, k23, hlt', hby, hq, hqw, effO, St.srcV, far]
        exact fin _ _ (by rw [be, hbe]; rfl) (by rw [hj0])
      · have hlt2 : id < H.length := by
          rcases Nat.lt_or_ge id H.length with hl | hl
          · exact hl
          · rw [List.getElem?_eq_none hl] at eid; cases eid
        have e2 : (H ++ [HO.row 0 [V.int .u8 ((byteAt n j).toNat : Int)]])[id]? = some (.row ver (bytesV (be n j))) := by rw [List.getElem?_append_left hlt2]; exact eid
        have htk : List.take j (bytesV (be n j)) = bytesV (be n j) := List.take_of_length_le (by simp [be_len])
        simp [k7, k8, k9, k22, k23, hlt', hby, hq, hqw, effO, St.srcV, far, e2, be_len, htk, bytesV_all', hlf]
        exact fin _ _ (by rw [be]; rfl) (by rw [Nat.add_comm])
    · have hjw : j = w := by omega
      subst hjw
      rcases k9h with ⟨rfl, hbe⟩ | ⟨id, ver, rfl, eid⟩
      · have := be_len n j; rw [hbe] at this; simp at this; omega
      · have hrow : H[h.length]? = some (.row 1 (bytesV bs)) := by rw [hH]; simp
        have htk : List.take j (bytesV (be n j)) = bytesV (be n j) := List.take_of_length_le (by simp [be_len])
        have htk2 : List.take bs.length (bytesV bs) = bytesV bs := List.take_of_length_le (by simp)
        have hlf : bs.length + j < 4294967296 := by omega
        have hset : ∀ o, H.set h.length o = h ++ (o :: junk) := by intro o; rw [hH]; simp
        simp [k7, k8, k9, k22, k23, effO, St.srcV, far, eid, hrow, be_len, htk, htk2, bytesV_all', hlf, hset, s43, finish]
        exact bytesV_app _ _
  have hlf : bs.length < 4294967296 := by omega
  have h1 : ¬ (w : Int) < 1 := by omega
  have h2 : ¬ (8 : Int) < w := by omega
  have hr : IntKind.u64.wrap n = rest n 0 := by rw [u64_wrap]; unfold rest; simp
  rcases hh with ⟨rfl, rfl⟩ | ⟨id, ver, rfl, e⟩
  · have hb0 : bytesV [] = [] := rfl
    simp [hb0] at main
    simp [s43, effO, St.srcV, far, h1, h2, hr]
    exact main _ rfl rfl rfl rfl rfl rfl
  · have hlt : id < h.length := by
      rcases Nat.lt_or_ge id h.length with hl | hl
      · exact hl
      · rw [List.getElem?_eq_none hl] at e; cases e
    have e2 : (h ++ [HO.row 0 []])[id]? = some (.row ver (bytesV bs)) := by rw [List.getElem?_append_left hlt]; exact e
    have htk : List.take bs.length (bytesV bs) = bytesV bs := List.take_of_length_le (by simp)
    simp at main
    simp [s43, effO, St.srcV, far, e2, htk, bytesV_all', hlf, h1, h2, hr]
    exact main _ rfl rfl rfl rfl rfl rfl

/-- The loop of ref01.PutText. -/
theorem text44_loop (s : Str) (hs : s.length ≤ 65535) (bs : Str) (hl : bs.length < 2000000) (h junk : List HO) (ver : Nat) (σ : St) (k1 : σ.e 1 = .v (S s)) (k6 : σ.e 6 = .v (.sl h.length ver 1 0 bs.length)) (k14 : σ.e 14 = .v (I s.length)) (k15 : σ.e 15 = .v (I 0)) (kh : σ.h = h ++ (.row ver (bytesV bs) :: junk)) :
    wp (run X [.c L44_1, .e 0 [6] [], .c c44_18] σ) (endP s44 h fun r h' => ∃ ver, r = .ret (.sl h.length ver 1 0 (bs.length + s.length)) ∧ h' = h ++ (.row ver (bytesV (bs ++ s)) :: junk)) := by
  refine wp_loop (fun c σ => σ.e 1 = .v (S s) ∧ σ.e 14 = .v (I s.length) ∧ ∃ i : Nat, c + i = s.length ∧ σ.e 15 = .v (I i) ∧ σ.e 6 = .v (.sl h.length (ver + i) 1 0 (bs.length + i)) ∧ σ.h = h ++ (.row (ver + i) (bytesV (bs ++ s.take i)) :: junk)) ?_ s.length _ ⟨k1, k14, 0, by simp, k15, k6, by simpa using kh⟩
  clear k1 k6 k14 k15 kh σ
  rintro c ⟨e, m, g, rb, h'⟩ ⟨k1, k14, i, hi, k15, k6, kh⟩
  dsimp only at k1 k6 k14 k15 kh
  subst kh
  by_cases hlt : i < s.length
  · have hb : s[i]? = some s[i] := List.getElem?_eq_getElem hlt
    have hw1 := wrapI (n := (i : Int) + 1) (by unfold R; omega)
    have hlf : bs.length + i + 1 < 4294967296 := by omega
    have hlen : (s.take i).length = i := by rw [List.length_take]; omega
    have htk : List.take (bs.length + i) (bytesV (bs ++ s.take i)) = bytesV (bs ++ s.take i) := List.take_of_length_le (by simp; omega)
    simp [k1, k6, k14, k15, hlt, hb, effO, St.srcV, far, hlf, htk, hw1, hlen]
    exact ⟨c - 1, by omega, i + 1, by omega, by omega, ⟨by omega, by omega⟩, by omega, by rw [List.take_succ_eq_append_getElem hlt, ← List.append_assoc]; exact bytesV_app _ [s[i]]⟩
  · have : i = s.length := by omega
    subst this
    simp [k1, k6, k14, k15, s44, finish]

theorem putText44 (v : V) (bs s : Str) (hl : bs.length < 1000000) (hs : s.length ≤ 65535) (h : List HO) (hh : Held h v bs) :
    Ans (VC X 44 [v, S s] h) fun r h' => ∃ ver junk, r = .ret (.sl h.length ver 1 0 (bs.length + 2 + s.length)) ∧ h' = h ++ (.row ver (bytesV (bs ++ be s.length 2 ++ s)) :: junk) := by
  obtain ⟨r, h', e, ver, junk, rfl, rfl⟩ := (put43 v bs s.length 2 (by omega) hl h hh).ex
  have key : Ans (VC X 44 [v, S s] h) fun r h' => ∃ ver, r = .ret (.sl h.length ver 1 0 (bs.length + 2 + s.length)) ∧ h' = h ++ (.row ver (bytesV (bs ++ be s.length 2 ++ s)) :: junk) := by
    rw [v44]
    refine ans_wp ?_
    have hm : (if (65535 : Int) < s.length then 65535 else (s.length : Int)) = s.length := by rw [if_neg (by omega)]
    have e' : VC X 43 [v, I s.length, I 2] h = _ := e
    have main := fun σ => text44_loop s hs (bs ++ be s.length 2) (by simp [be_len]; omega) h junk ver σ
    have hl2 : (bs ++ be s.length 2).length = bs.length + 2 := by simp [be_len]
    rw [hl2] at main
    simp at main
    simp [s44, hm, e']
    exact main _ rfl rfl rfl rfl rfl
  obtain ⟨r, h', e2, ver2, rfl, rfl⟩ := key.ex
  rw [e2]
  exact ⟨ver2, junk, rfl, rfl⟩
end Go.Vm.Tryz
end

section
set_option linter.unusedVariables false
set_option linter.unusedSimpArgs false
set_option maxRecDepth 10000
namespace Go.Vm.Tryz
open Go Go.Vm

@[simp] theorem Sl.cells_v {α : Type} (f : α → V) (o : Sl α) : (Sl.v f o).cells = [Sl.v f o] := by cases o <;> rfl

def alsoI (i : Item) : RItem := ⟨i.path, i.kind, i.mode, i.time, i.body, i.xattrs, i.same, ⟨0, 0⟩⟩
def alsoS (l : List Item) : Sl RItem := some (l.map alsoI)

theorem pures_map {α : Type} (f : α → V) (l : List α) (hf : ∀ a ∈ l, (f a).pure = true) : V.pure.pures (l.map f) = true := by
  induction l with
  | nil => rfl
  | cons a l ih =>
    simp only [List.map_cons, V.pure.pures, Bool.and_eq_true]
    exact ⟨hf a (by simp), ih fun b hb => hf b (by simp [hb])⟩
theorem pure_xs (l : List Xattr) : (Sl.v Xattr.v (some l)).pure = true := pures_map _ _ fun a _ => rfl
theorem pures_items (l : List Item) (hx : ∀ i ∈ l, ∃ x, i.xattrs = some x) : V.pure.pures (l.map fun i => (alsoI i).v) = true :=
  pures_map (fun i => (alsoI i).v) l fun i hi => by
    obtain ⟨x, e⟩ := hx i hi
    have := pure_xs x
    simp [V.pure, V.pure.pures, alsoI, e] at this ⊢
    exact this

theorem also17 (l : List Item) (lv : V) (hlv : Row Item.v lv l) (hl : l.length < 1000000) (hx : ∀ i ∈ l, ∃ x, i.xattrs = some x) (h : List HO) : VC X 17 [lv] h = some (.ret (Sl.v RItem.v (alsoS l)), h) := by
  rw [v17]
  refine Ans.eq (ans_wp ?_)
  have main : ∀ σ : St, σ.e 3 = .v .nils → σ.e 6 = .v lv → σ.e 7 = .v (I l.length) → σ.e 8 = .v (I 0) → σ.h = h →
      wp (run X [.c L17_1, .e 0 [3] [], .c c17_17] σ) (endP s17 h fun r' h' => r' = .ret (Sl.v RItem.v (alsoS l)) ∧ h' = h) := by
    intro σ k3 k6 k7 k8 kh
    refine wp_loop (fun n σ => σ.e 6 = .v lv ∧ σ.e 7 = .v (I l.length) ∧ ∃ i : Nat, n + i = l.length ∧ σ.e 8 = .v (I i) ∧ (i = 0 ∧ σ.e 3 = .v .nils ∧ σ.h = h ∨ ∃ ver, 0 < i ∧ σ.e 3 = .v (.sl h.length ver 9 0 i) ∧ σ.h = h ++ [.row ver ((l.take i).map fun i => (alsoI i).v)])) ?_ l.length _ ⟨k6, k7, 0, by simp, k8, .inl ⟨rfl, k3, kh⟩⟩
    clear k3 k6 k7 k8 kh σ
    rintro n ⟨e, m, g, rb, h'⟩ ⟨k6, k7, i, hi, k8, k3⟩
    dsimp only at k3 k6 k7 k8
    by_cases hlt : i < l.length
    · rcases hlv with ⟨rfl, rfl⟩ | rfl
      · simp at hlt
      have ha : l[i]? = some l[i] := List.getElem?_eq_getElem hlt
      have hw := wrapI (n := (i : Int) + 1) (by unfold R; omega)
      rcases k3 with ⟨rfl, k3, rfl⟩ | ⟨ver, hpos, k3, rfl⟩
      · simp [k3, k6, k7, k8, hlt, ha, effO, St.srcV, far]
        have e1 : List.take 1 (List.map (fun i => (alsoI i).v) l) = [(alsoI l[0]).v] := by
          rw [← List.map_take, List.take_succ_eq_append_getElem hlt]; rfl
        exact ⟨n - 1, by omega, 1, by omega, by decide, by omega, 0, ⟨rfl, rfl⟩, rfl, e1.symm⟩
      · have hc : i ≤ min i l.length ∧ (i + 1) * 104 < 4294967296 ∧ i + 1 < 4294967296 := by omega
        have e1 : List.take (i + 1) (List.map (fun i => (alsoI i).v) l) = List.take i (List.map (fun i => (alsoI i).v) l) ++ [(alsoI l[i]).v] := by
          rw [← List.map_take, List.take_succ_eq_append_getElem hlt, List.map_append, List.map_take]; rfl
        simp [k3, k6, k7, k8, hlt, ha, effO, St.srcV, far, hc, hw]
        exact ⟨n - 1, by omega, i + 1, by omega, by omega, by omega, ver + 1, ⟨rfl, rfl⟩, rfl, by rw [e1, List.take_take, Nat.min_self]; rfl⟩
    · have hil : i = l.length := by omega
      rcases k3 with ⟨rfl, k3, rfl⟩ | ⟨ver, hpos, k3, rfl⟩
      · have : l = [] := List.length_eq_zero_iff.1 hil.symm
        subst this
        have hfn : finS h' .nils = (.ret (.snap []), h') := by unfold finS finish; simp [frzF, frz, frz2, frz1, V.pure]
        simp [k3, k6, k7, k8, s17, alsoS, hfn]
      · have hne : l ≠ [] := by rintro rfl; simp at hil; omega
        have hpu : V.pure.pures (l.map fun i => (alsoI i).v) = true := pures_items l hx
        have hfr := finish_row h [HO.row ver (l.map fun i => (alsoI i).v)] 0 ver 9 (l.map fun i => (alsoI i).v) rfl hpu 0 l.length (by simp)
        subst hil
        rw [Nat.add_zero] at hfr
        simp [k3, k6, k7, k8, s17, alsoS, hne]
        rw [hfr]
        simp
        exact List.take_of_length_le (by simp)
  rcases hlv with ⟨rfl, rfl⟩ | rfl
  · simp [s17]
    exact main _ rfl rfl rfl rfl rfl
  · simp [s17]
    exact main _ rfl rfl rfl rfl rfl
end Go.Vm.Tryz
end

section
set_option linter.unusedVariables false
set_option linter.unusedSimpArgs false
set_option maxRecDepth 10000
namespace Go.Vm.Tryz
open Go Go.Vm

theorem equal20 (l : List Call) (hl : l.length < 1000000) (ht : ∀ c ∈ l, nanB c.time = false) (h : List HO) : VC X 20 [.snap (l.map Call.v), .snap (l.map Call.v)] h = some (.ret (B true), h) := by
  rw [v20]
  refine Ans.eq (ans_wp ?_)
  simp [s20]
  refine wp_loop (fun n σ => σ.h = h ∧ σ.e 0 = .v (.snap (l.map Call.v)) ∧ σ.e 1 = .v (.snap (l.map Call.v)) ∧ σ.e 12 = .v (I l.length) ∧ ∃ i : Nat, n + i = l.length ∧ σ.e 13 = .v (I i)) ?_ l.length _ ⟨rfl, rfl, rfl, rfl, 0, by simp, rfl⟩
  rintro n ⟨e, m, g, rb, h⟩ ⟨rfl, h0, h1, h12, i, hi, h13⟩
  dsimp only at h0 h1 h12 h13
  by_cases hlt : i < l.length
  · have ha : l[i]? = some l[i] := List.getElem?_eq_getElem hlt
    have hw := wrapI (n := (i : Int) + 1) (by unfold R; omega)
    have hn := order_self l[i].time
    rw [ht l[i] (List.getElem_mem hlt)] at hn
    simp [h0, h1, h12, h13, hlt, ha, hn, hw]
    exact ⟨n - 1, by omega, i + 1, by omega, by simp⟩
  · simp [h0, h1, h12, h13, hlt, s20]
end Go.Vm.Tryz
end

section
set_option linter.unusedVariables false
set_option linter.unusedSimpArgs false
set_option maxRecDepth 10000
namespace Go.Vm.Tryz
open Go Go.Vm

def xattrBytes (x : Xattr) : Str := be x.name.length 2 ++ x.name ++ (be x.val.length 2 ++ x.val)
def xattrsBytes (l : List Xattr) : Str := (l.map xattrBytes).flatten
def itemBytes (i : Item) : Str :=
  be i.path.length 2 ++ i.path ++ be i.kind 1 ++ be (IntKind.i64.wrap (i.same + 1)) 2 ++ be i.mode 2 ++ be (i.time / 4294967296) 4 ++ be (i.time % 4294967296) 4 ++ be i.body.length 2 ++ i.body ++ be i.xattrs.l.length 1 ++ xattrsBytes i.xattrs.l
def itemsBytes (l : List Item) : Str := be l.length 2 ++ (l.map itemBytes).flatten

theorem xattrBytes_len (x : Xattr) : (xattrBytes x).length = 4 + x.name.length + x.val.length := by simp [xattrBytes, be_len]; omega
theorem itemBytes_len (i : Item) : (itemBytes i).length = 18 + i.path.length + i.body.length + (xattrsBytes i.xattrs.l).length := by simp [itemBytes, be_len]; omega

theorem put40x (v : V) (bs : Str) (n : Int) (w : Nat) (wi : Int) (hwi : wi = w) (hw : 1 ≤ w ∧ w ≤ 8) (hl : bs.length < 1000000) (h : List HO) (hh : Held h v bs) :
    ∃ v' j, VC X 40 [v, I n, I wi] h = some (.ret v', h ++ j) ∧ Held (h ++ j) v' (bs ++ be n w) := by
  obtain ⟨r, h', e, ver, rfl, rfl⟩ := (put40 v bs n w hw hl h hh).ex
  subst hwi
  exact ⟨_, _, e, .inr ⟨h.length, ver, by simp [be_len], by simp⟩⟩
theorem text41x (v : V) (bs s : Str) (hl : bs.length < 1000000) (hs : s.length ≤ 65535) (h : List HO) (hh : Held h v bs) :
    ∃ v' j, VC X 41 [v, S s] h = some (.ret v', h ++ j) ∧ Held (h ++ j) v' (bs ++ be s.length 2 ++ s) := by
  obtain ⟨r, h', e, ver, rfl, rfl⟩ := (putText41 v bs s hl hs h hh).ex
  exact ⟨_, _, e, .inr ⟨h.length, ver, by simp [be_len, Nat.add_assoc], by simp⟩⟩
theorem put43x (v : V) (bs : Str) (n : Int) (w : Nat) (wi : Int) (hwi : wi = w) (hw : 1 ≤ w ∧ w ≤ 8) (hl : bs.length < 1000000) (h : List HO) (hh : Held h v bs) :
    ∃ v' j, VC X 43 [v, I n, I wi] h = some (.ret v', h ++ j) ∧ Held (h ++ j) v' (bs ++ be n w) := by
  obtain ⟨r, h', e, ver, junk, rfl, rfl⟩ := (put43 v bs n w hw hl h hh).ex
  subst hwi
  exact ⟨_, _, e, .inr ⟨h.length, ver, by simp [be_len], by simp⟩⟩
theorem text44x (v : V) (bs s : Str) (hl : bs.length < 1000000) (hs : s.length ≤ 65535) (h : List HO) (hh : Held h v bs) :
    ∃ v' j, VC X 44 [v, S s] h = some (.ret v', h ++ j) ∧ Held (h ++ j) v' (bs ++ be s.length 2 ++ s) := by
  obtain ⟨r, h', e, ver, junk, rfl, rfl⟩ := (putText44 v bs s hl hs h hh).ex
  exact ⟨_, _, e, .inr ⟨h.length, ver, by simp [be_len, Nat.add_assoc], by simp⟩⟩

theorem Held.elems {h : List HO} {v : V} {bs : Str} (hh : Held h v bs) (e : Nat → T) (m : Nat → Option (Nat × List V)) (g rb : Nat) : St.elems ⟨e, m, g, rb, h⟩ v = some (bytesV bs) := by
  rcases hh with ⟨rfl, rfl⟩ | ⟨id, ver, rfl, e⟩
  · rfl
  · simp [e, List.take_of_length_le]

theorem flat_len_le {α : Type} (f : α → Str) (l : List α) (i : Nat) (hi : i < l.length) : (((l.take i).map f).flatten ++ f l[i]).length ≤ ((l.map f).flatten).length := by
  have e : l = l.take i ++ l[i] :: l.drop (i + 1) := by simp
  have e2 : (l.map f).flatten = ((l.take i).map f).flatten ++ (f l[i] ++ ((l.drop (i + 1)).map f).flatten) := by
    conv => lhs; rw [e]
    simp only [List.map_append, List.map_cons, List.flatten_append, List.flatten_cons]
  rw [e2]
  simp only [List.length_append]
  omega
theorem flat_succ {α : Type} (f : α → Str) (l : List α) (i : Nat) (hi : i < l.length) : ((l.take (i + 1)).map f).flatten = ((l.take i).map f).flatten ++ f l[i] := by
  rw [List.take_succ_eq_append_getElem hi]
  simp only [List.map_append, List.map_cons, List.map_nil, List.flatten_append, List.flatten_cons, List.flatten_nil, List.append_nil]
end Go.Vm.Tryz
end

section
set_option linter.unusedVariables false
set_option linter.unusedSimpArgs false
set_option maxRecDepth 10000
namespace Go.Vm.Tryz
open Go Go.Vm

/-- Items that are small. -/
def okX (x : Xattr) : Prop := x.name.length ≤ 65535 ∧ x.val.length ≤ 65535
structure okI (i : Item) : Prop where
  path : i.path.length ≤ 65535
  body : i.body.length ≤ 65535
  time : RU i.time
  same : R i.same
  xs : i.xattrs.l.length < 1000000 ∧ ∀ x ∈ i.xattrs.l, okX x

theorem put18_xs (xs : List Xattr) (pv : V) (hp : Row Xattr.v pv xs) (hl : xs.length < 1000000) (hx : ∀ x ∈ xs, okX x) (base : Str) (hb : (base ++ xattrsBytes xs).length < 900000)
    (h : List HO) (σ : St) (v11 v12 v13 : T) (v : V) (junk : List HO) (kh : σ.h = h ++ junk) (hv : Held (h ++ junk) v base) (k3 : σ.e 3 = .v v) (k11 : σ.e 11 = v11) (k12 : σ.e 12 = v12) (k13 : σ.e 13 = v13)
    (k52 : σ.e 52 = .v pv) (k53 : σ.e 53 = .v (I xs.length)) (k54 : σ.e 54 = .v (I 0)) (K : List It) (Q : Ex → St → Prop)
    (hK : ∀ (σ' : St) v junk, σ'.h = h ++ junk → Held (h ++ junk) v (base ++ xattrsBytes xs) → σ'.e 3 = .v v → σ'.e 11 = v11 → σ'.e 12 = v12 → σ'.e 13 = v13 → wp (contK X K (.exit 2) σ') Q) :
    wp (run X (.c L18_1 :: K) σ) Q := by
  refine wp_loop (fun n σ => σ.e 11 = v11 ∧ σ.e 12 = v12 ∧ σ.e 13 = v13 ∧ σ.e 52 = .v pv ∧ σ.e 53 = .v (I xs.length) ∧ ∃ (j : Nat) (v : V) (junk : List HO), n + j = xs.length ∧ σ.e 54 = .v (I j) ∧ σ.e 3 = .v v ∧ σ.h = h ++ junk ∧ Held (h ++ junk) v (base ++ ((xs.take j).map xattrBytes).flatten)) ?_ xs.length _ ⟨k11, k12, k13, k52, k53, 0, v, junk, by simp, k54, k3, kh, by simpa using hv⟩
  clear kh hv k3 k11 k12 k13 k52 k53 k54 v junk σ
  rintro n ⟨e, m, g, rb, h'⟩ ⟨k11, k12, k13, k52, k53, j, v, junk, hj, k54, k3, kh, hv⟩
  dsimp only at k3 k11 k12 k13 k52 k53 k54 kh
  subst kh
  by_cases hlt : j < xs.length
  · rcases hp with ⟨rfl, rfl⟩ | rfl
    · simp at hlt
    have ha : xs[j]? = some xs[j] := List.getElem?_eq_getElem hlt
    have hw := wrapI (n := (j : Int) + 1) (by unfold R; omega)
    obtain ⟨hn, hvl⟩ := hx xs[j] (List.getElem_mem hlt)
    have hle := flat_len_le xattrBytes xs j hlt
    have hle2 : (base ++ ((xs.take j).map xattrBytes).flatten).length + (xattrBytes xs[j]).length < 900000 := by
      simp only [List.length_append] at hle hb ⊢
      unfold xattrsBytes at hb
      omega
    rw [xattrBytes_len] at hle2
    have hsu := flat_succ xattrBytes xs j hlt
    generalize hbs : base ++ ((xs.take j).map xattrBytes).flatten = bs at hle2 hv
    obtain ⟨v1, j1, e1, h1⟩ := text41x v bs xs[j].name (by omega) hn _ hv
    obtain ⟨v2, j2, e2, h2⟩ := text41x v1 (bs ++ be xs[j].name.length 2 ++ xs[j].name) xs[j].val (by simp [be_len]; omega) hvl _ h1
    simp only [List.append_assoc] at e1 e2 h1 h2
    simp [k3, k11, k12, k13, k52, k53, k54, hlt, ha, e1, e2, hw]
    have e : base ++ ((xs.take (j + 1)).map xattrBytes).flatten = bs ++ xattrBytes xs[j] := by rw [hsu, ← List.append_assoc, hbs]
    refine ⟨n - 1, by omega, j + 1, by omega, by simp, ?_⟩
    rw [← List.map_take, e]
    simpa [xattrBytes] using h2
  · have hjl : j = xs.length := by omega
    subst hjl
    rw [List.take_of_length_le (Nat.le_refl _)] at hv
    simp [k3, k11, k12, k13, k52, k53, k54]
    exact hK _ v junk rfl hv rfl rfl rfl rfl

theorem put18 (l : List Item) (lv : V) (hlv : Row Item.v lv l) (hl : l.length < 1000000) (hi : ∀ i ∈ l, okI i) (hb : (itemsBytes l).length < 900000) (h : List HO) : VC X 18 [lv] h = some (.ret (S (sealOf (itemsBytes l))), h) := by
  rw [v18]
  refine Ans.eq (ans_wp ?_)
  have main : ∀ (σ : St) v junk, σ.h = h ++ junk → Held (h ++ junk) v (be l.length 2) → σ.e 3 = .v v → σ.e 11 = .v lv → σ.e 12 = .v (I l.length) → σ.e 13 = .v (I 0) →
      wp (run X [.c L18_2, .e 0 [3] [], .c c18_37] σ) (endP s18 h fun r' h' => r' = .ret (S (sealOf (itemsBytes l))) ∧ h' = h) := by
    intro σ v junk kh hv k3 k11 k12 k13
    refine wp_loop (fun n σ => σ.e 11 = .v lv ∧ σ.e 12 = .v (I l.length) ∧ ∃ (i : Nat) (v : V) (junk : List HO), n + i = l.length ∧ σ.e 13 = .v (I i) ∧ σ.e 3 = .v v ∧ σ.h = h ++ junk ∧ Held (h ++ junk) v (be l.length 2 ++ ((l.take i).map itemBytes).flatten)) ?_ l.length _ ⟨k11, k12, 0, v, junk, by simp, k13, k3, kh, by simpa using hv⟩
    clear kh hv k3 k11 k12 k13 v junk σ
    rintro n ⟨e, m, g, rb, h'⟩ ⟨k11, k12, i, v, junk, hin, k13, k3, kh, hv⟩
    dsimp only at k3 k11 k12 k13 kh
    subst kh
    by_cases hlt : i < l.length
    · have hlv0 := hlv
      rcases hlv with ⟨rfl, rfl⟩ | rfl
      · simp at hlt
      have ha : l[i]? = some l[i] := List.getElem?_eq_getElem hlt
      have hw := wrapI (n := (i : Int) + 1) (by unfold R; omega)
      obtain ⟨hpa, hbo, hti, hsa, hxl, hxs⟩ := hi l[i] (List.getElem_mem hlt)
      have hle := flat_len_le itemBytes l i hlt
      have hle2 : (be l.length 2 ++ ((l.take i).map itemBytes).flatten).length + (itemBytes l[i]).length < 900000 := by
        unfold itemsBytes at hb
        simp only [List.length_append] at hle hb ⊢
        omega
      rw [itemBytes_len] at hle2
      have hsu := flat_succ itemBytes l i hlt
      generalize hbs : be l.length 2 ++ ((l.take i).map itemBytes).flatten = bs at hle2 hv
      generalize hit : l[i] = it at *
      obtain ⟨v1, j1, e1, h1⟩ := text41x v bs it.path (by omega) hpa _ hv
      obtain ⟨v2, j2, e2, h2⟩ := put40x v1 _ it.kind 1 1 rfl (by omega) (by simp [be_len]; omega) _ h1
      obtain ⟨v3, j3, e3, h3⟩ := put40x v2 _ (IntKind.i64.wrap (it.same + 1)) 2 2 rfl (by omega) (by simp [be_len]; omega) _ h2
      obtain ⟨v4, j4, e4, h4⟩ := put40x v3 _ it.mode 2 2 rfl (by omega) (by simp [be_len]; omega) _ h3
      obtain ⟨v5, j5, e5, h5⟩ := put40x v4 _ (it.time / 4294967296) 4 4 rfl (by omega) (by simp [be_len]; omega) _ h4
      obtain ⟨v6, j6, e6, h6⟩ := put40x v5 _ (it.time % 4294967296) 4 4 rfl (by omega) (by simp [be_len]; omega) _ h5
      obtain ⟨v7, j7, e7, h7⟩ := text41x v6 _ it.body (by simp [be_len]; omega) hbo _ h6
      obtain ⟨v8, j8, e8, h8⟩ := put40x v7 _ it.xattrs.l.length 1 1 rfl (by omega) (by simp [be_len]; omega) _ h7
      simp only [List.append_assoc] at e1 e2 e3 e4 e5 e6 e7 e8
      have hshr : IntKind.i64.wrap (it.time.fdiv 4294967296) = it.time / 4294967296 := by
        obtain ⟨a, b⟩ := hti
        rw [Int.fdiv_eq_ediv_of_nonneg _ (by decide), wrapI (by unfold R; omega)]
      have hand : IntKind.i64.wrap (IntKind.u64.wrap ((it.time % 18446744073709551616).toNat &&& 4294967295 : Nat)) = it.time % 4294967296 := by
        obtain ⟨a, b⟩ := hti
        rw [show (4294967295 : Nat) = 2 ^ 32 - 1 by decide, Nat.and_two_pow_sub_one_eq_mod, u64_small _ (by omega), wrapI (by unfold R; omega)]
        omega
      rcases hxn : it.xattrs with _ | xs
      all_goals
        rw [hxn] at hxl hxs e8 h8 hle2
        simp at e8 h8
        simp [k3, k11, k12, k13, hlt, ha, hit, e1, e2, e3, e4, e5, e6, e7, e8, hshr, hand, hxn]
      all_goals
        refine put18_xs _ _ (by first | exact .inl ⟨rfl, rfl⟩ | exact .inr rfl) hxl hxs _ (by simp [xattrsBytes, be_len] at hle2 ⊢; omega) h _ _ _ _ v8 _ rfl h8 rfl rfl rfl rfl rfl rfl rfl _ _ ?_
        rintro ⟨e', m', g', rb', h'⟩ w junk' q0 q1 q2 q3 q4 q5
        dsimp only at q0 q2 q3 q4 q5
        subst q0
        simp [q2, q3, q4, q5, hw]
        refine ⟨n - 1, by omega, i + 1, by omega, by simp, ?_⟩
        have e : be l.length 2 ++ ((l.take (i + 1)).map itemBytes).flatten = bs ++ itemBytes it := by rw [hsu, ← List.append_assoc, hbs]
        rw [← List.map_take, e]
        simpa [itemBytes, hxn] using q1
    · have hil : i = l.length := by omega
      subst hil
      rw [List.take_of_length_le (Nat.le_refl _)] at hv
      have hbl : (be l.length 2 ++ (l.map itemBytes).flatten).length = (itemsBytes l).length := rfl
      have hse := fun h => seal42 (itemsBytes l) (by omega) h
      have hfi := finish_app h junk (S (sealOf (itemsBytes l))) rfl
      unfold itemsBytes at hse hfi
      rcases hv with ⟨rfl, hbe⟩ | ⟨id, ver, rfl, eid⟩
      · have : (be (l.length : Int) 2).length = 0 := by rw [List.append_eq_nil_iff] at hbe; rw [hbe.1]; rfl
        rw [be_len] at this; cases this
      · have hqe : be (l.length : Int) 2 ++ (l.map itemBytes).flatten = itemsBytes l := rfl
        generalize be (l.length : Int) 2 ++ (l.map itemBytes).flatten = q at *
        have htk : List.take q.length (bytesV q) = bytesV q := List.take_of_length_le (by simp)
        simp [k3, k11, k12, k13, eid, htk, unbytes_bytesV, hse, s18, hfi]
        try exact congrArg sealOf hqe
  obtain ⟨v1, j1, e1, h1⟩ := put40x .nils [] l.length 2 2 rfl (by omega) (by simp) h (.inl ⟨rfl, rfl⟩)
  rcases hlv with ⟨rfl, rfl⟩ | rfl
  · try simp at e1
    simp [s18, e1]
    exact main _ v1 j1 rfl h1 rfl rfl rfl rfl
  · try simp at e1
    simp [s18, e1]
    exact main _ v1 j1 rfl h1 rfl rfl rfl rfl
end Go.Vm.Tryz
end

section
set_option linter.unusedVariables false
set_option linter.unusedSimpArgs false
set_option maxRecDepth 10000
namespace Go.Vm.Tryz
open Go Go.Vm

theorem put19_xs (xs : List Xattr) (pv : V) (hp : Row Xattr.v pv xs) (hl : xs.length < 1000000) (hx : ∀ x ∈ xs, okX x) (base : Str) (hb : (base ++ xattrsBytes xs).length < 900000)
    (h : List HO) (σ : St) (v11 v12 v13 : T) (v : V) (junk : List HO) (kh : σ.h = h ++ junk) (hv : Held (h ++ junk) v base) (k3 : σ.e 3 = .v v) (k11 : σ.e 11 = v11) (k12 : σ.e 12 = v12) (k13 : σ.e 13 = v13)
    (k56 : σ.e 56 = .v pv) (k57 : σ.e 57 = .v (I xs.length)) (k58 : σ.e 58 = .v (I 0)) (K : List It) (Q : Ex → St → Prop)
    (hK : ∀ (σ' : St) v junk, σ'.h = h ++ junk → Held (h ++ junk) v (base ++ xattrsBytes xs) → σ'.e 3 = .v v → σ'.e 11 = v11 → σ'.e 12 = v12 → σ'.e 13 = v13 → wp (contK X K (.exit 2) σ') Q) :
    wp (run X (.c L19_1 :: K) σ) Q := by
  refine wp_loop (fun n σ => σ.e 11 = v11 ∧ σ.e 12 = v12 ∧ σ.e 13 = v13 ∧ σ.e 56 = .v pv ∧ σ.e 57 = .v (I xs.length) ∧ ∃ (j : Nat) (v : V) (junk : List HO), n + j = xs.length ∧ σ.e 58 = .v (I j) ∧ σ.e 3 = .v v ∧ σ.h = h ++ junk ∧ Held (h ++ junk) v (base ++ ((xs.take j).map xattrBytes).flatten)) ?_ xs.length _ ⟨k11, k12, k13, k56, k57, 0, v, junk, by simp, k58, k3, kh, by simpa using hv⟩
  clear kh hv k3 k11 k12 k13 k56 k57 k58 v junk σ
  rintro n ⟨e, m, g, rb, h'⟩ ⟨k11, k12, k13, k56, k57, j, v, junk, hj, k58, k3, kh, hv⟩
  dsimp only at k3 k11 k12 k13 k56 k57 k58 kh
  subst kh
  by_cases hlt : j < xs.length
  · rcases hp with ⟨rfl, rfl⟩ | rfl
    · simp at hlt
    have ha : xs[j]? = some xs[j] := List.getElem?_eq_getElem hlt
    have hw := wrapI (n := (j : Int) + 1) (by unfold R; omega)
    obtain ⟨hn, hvl⟩ := hx xs[j] (List.getElem_mem hlt)
    have hle := flat_len_le xattrBytes xs j hlt
    have hle2 : (base ++ ((xs.take j).map xattrBytes).flatten).length + (xattrBytes xs[j]).length < 900000 := by
      simp only [List.length_append] at hle hb ⊢
      unfold xattrsBytes at hb
      omega
    rw [xattrBytes_len] at hle2
    have hsu := flat_succ xattrBytes xs j hlt
    generalize hbs : base ++ ((xs.take j).map xattrBytes).flatten = bs at hle2 hv
    obtain ⟨v1, j1, e1, h1⟩ := text44x v bs xs[j].name (by omega) hn _ hv
    obtain ⟨v2, j2, e2, h2⟩ := text44x v1 (bs ++ be xs[j].name.length 2 ++ xs[j].name) xs[j].val (by simp [be_len]; omega) hvl _ h1
    simp only [List.append_assoc] at e1 e2 h1 h2
    simp [k3, k11, k12, k13, k56, k57, k58, hlt, ha, e1, e2, hw]
    have e : base ++ ((xs.take (j + 1)).map xattrBytes).flatten = bs ++ xattrBytes xs[j] := by rw [hsu, ← List.append_assoc, hbs]
    refine ⟨n - 1, by omega, j + 1, by omega, by simp, ?_⟩
    rw [← List.map_take, e]
    simpa [xattrBytes] using h2
  · have hjl : j = xs.length := by omega
    subst hjl
    rw [List.take_of_length_le (Nat.le_refl _)] at hv
    simp [k3, k11, k12, k13, k56, k57, k58]
    exact hK _ v junk rfl hv rfl rfl rfl rfl

theorem put19 (l : List Item) (lv : V) (hlv : Row (fun i => (alsoI i).v) lv l) (hl : l.length < 1000000) (hi : ∀ i ∈ l, okI i) (hb : (itemsBytes l).length < 900000) (h : List HO) : VC X 19 [lv] h = some (.ret (S (sealOf (itemsBytes l))), h) := by
  rw [v19]
  refine Ans.eq (ans_wp ?_)
  have main : ∀ (σ : St) v junk, σ.h = h ++ junk → Held (h ++ junk) v (be l.length 2) → σ.e 3 = .v v → σ.e 11 = .v lv → σ.e 12 = .v (I l.length) → σ.e 13 = .v (I 0) →
      wp (run X [.c L19_2, .e 0 [3] [], .c c19_47] σ) (endP s19 h fun r' h' => r' = .ret (S (sealOf (itemsBytes l))) ∧ h' = h) := by
    intro σ v junk kh hv k3 k11 k12 k13
    refine wp_loop (fun n σ => σ.e 11 = .v lv ∧ σ.e 12 = .v (I l.length) ∧ ∃ (i : Nat) (v : V) (junk : List HO), n + i = l.length ∧ σ.e 13 = .v (I i) ∧ σ.e 3 = .v v ∧ σ.h = h ++ junk ∧ Held (h ++ junk) v (be l.length 2 ++ ((l.take i).map itemBytes).flatten)) ?_ l.length _ ⟨k11, k12, 0, v, junk, by simp, k13, k3, kh, by simpa using hv⟩
    clear kh hv k3 k11 k12 k13 v junk σ
    rintro n ⟨e, m, g, rb, h'⟩ ⟨k11, k12, i, v, junk, hin, k13, k3, kh, hv⟩
    dsimp only at k3 k11 k12 k13 kh
    subst kh
    by_cases hlt : i < l.length
    · have hlv0 := hlv
      rcases hlv with ⟨rfl, rfl⟩ | rfl
      · simp at hlt
      have ha : l[i]? = some l[i] := List.getElem?_eq_getElem hlt
      have hw := wrapI (n := (i : Int) + 1) (by unfold R; omega)
      obtain ⟨hpa, hbo, hti, hsa, hxl, hxs⟩ := hi l[i] (List.getElem_mem hlt)
      have hle := flat_len_le itemBytes l i hlt
      have hle2 : (be l.length 2 ++ ((l.take i).map itemBytes).flatten).length + (itemBytes l[i]).length < 900000 := by
        unfold itemsBytes at hb
        simp only [List.length_append] at hle hb ⊢
        omega
      rw [itemBytes_len] at hle2
      have hsu := flat_succ itemBytes l i hlt
      generalize hbs : be l.length 2 ++ ((l.take i).map itemBytes).flatten = bs at hle2 hv
      generalize hit : l[i] = it at *
      obtain ⟨v1, j1, e1, h1⟩ := text44x v bs it.path (by omega) hpa _ hv
      obtain ⟨v2, j2, e2, h2⟩ := put43x v1 _ it.kind 1 1 rfl (by omega) (by simp [be_len]; omega) _ h1
      obtain ⟨v3, j3, e3, h3⟩ := put43x v2 _ (IntKind.i64.wrap (it.same + 1)) 2 2 rfl (by omega) (by simp [be_len]; omega) _ h2
      obtain ⟨v4, j4, e4, h4⟩ := put43x v3 _ it.mode 2 2 rfl (by omega) (by simp [be_len]; omega) _ h3
      obtain ⟨v5, j5, e5, h5⟩ := put43x v4 _ (it.time / 4294967296) 4 4 rfl (by omega) (by simp [be_len]; omega) _ h4
      obtain ⟨v6, j6, e6, h6⟩ := put43x v5 _ (it.time % 4294967296) 4 4 rfl (by omega) (by simp [be_len]; omega) _ h5
      obtain ⟨v7, j7, e7, h7⟩ := text44x v6 _ it.body (by simp [be_len]; omega) hbo _ h6
      obtain ⟨v8, j8, e8, h8⟩ := put43x v7 _ it.xattrs.l.length 1 1 rfl (by omega) (by simp [be_len]; omega) _ h7
      simp only [List.append_assoc] at e1 e2 e3 e4 e5 e6 e7 e8
      have hshr : IntKind.i64.wrap (IntKind.u64.wrap (it.time.tdiv 4294967296)) = it.time / 4294967296 := by
        obtain ⟨a, b⟩ := hti
        rw [Int.tdiv_eq_ediv_of_nonneg a, u64_small _ (by omega), wrapI (by unfold R; omega)]
      have hand : IntKind.i64.wrap (it.time.tmod 4294967296) = it.time % 4294967296 := by
        obtain ⟨a, b⟩ := hti
        rw [Int.tmod_eq_emod_of_nonneg a, wrapI (by unfold R; omega)]
      rcases hxn : it.xattrs with _ | xs
      all_goals
        rw [hxn] at hxl hxs e8 h8 hle2
        simp at e8 h8
        simp [alsoI, k3, k11, k12, k13, hlt, ha, hit, e1, e2, e3, e4, e5, e6, e7, e8, hshr, hand, hxn]
      all_goals
        refine put19_xs _ _ (by first | exact .inl ⟨rfl, rfl⟩ | exact .inr rfl) hxl hxs _ (by simp [xattrsBytes, be_len] at hle2 ⊢; omega) h _ _ _ _ v8 _ rfl h8 rfl rfl rfl rfl rfl rfl rfl _ _ ?_
        rintro ⟨e', m', g', rb', h'⟩ w junk' q0 q1 q2 q3 q4 q5
        dsimp only at q0 q2 q3 q4 q5
        subst q0
        simp [q2, q3, q4, q5, hw]
        refine ⟨n - 1, by omega, i + 1, by omega, by simp, ?_⟩
        have e : be l.length 2 ++ ((l.take (i + 1)).map itemBytes).flatten = bs ++ itemBytes it := by rw [hsu, ← List.append_assoc, hbs]
        rw [← List.map_take, e]
        simpa [itemBytes, hxn] using q1
    · have hil : i = l.length := by omega
      subst hil
      rw [List.take_of_length_le (Nat.le_refl _)] at hv
      have hbl : (be l.length 2 ++ (l.map itemBytes).flatten).length = (itemsBytes l).length := rfl
      have hse := fun h => seal45 (itemsBytes l) (by omega) h
      have hfi := finish_app h junk (S (sealOf (itemsBytes l))) rfl
      unfold itemsBytes at hse hfi
      rcases hv with ⟨rfl, hbe⟩ | ⟨id, ver, rfl, eid⟩
      · have : (be (l.length : Int) 2).length = 0 := by rw [List.append_eq_nil_iff] at hbe; rw [hbe.1]; rfl
        rw [be_len] at this; cases this
      · have hqe : be (l.length : Int) 2 ++ (l.map itemBytes).flatten = itemsBytes l := rfl
        generalize be (l.length : Int) 2 ++ (l.map itemBytes).flatten = q at *
        have htk : List.take q.length (bytesV q) = bytesV q := List.take_of_length_le (by simp)
        simp [k3, k11, k12, k13, eid, htk, unbytes_bytesV, hse, s19, hfi]
        try exact congrArg sealOf hqe
  obtain ⟨v1, j1, e1, h1⟩ := put43x .nils [] l.length 2 2 rfl (by omega) (by simp) h (.inl ⟨rfl, rfl⟩)
  rcases hlv with ⟨rfl, rfl⟩ | rfl
  · try simp at e1
    simp [s19, e1]
    exact main _ v1 j1 rfl h1 rfl rfl rfl rfl
  · try simp at e1
    simp [s19, e1]
    exact main _ v1 j1 rfl h1 rfl rfl rfl rfl
end Go.Vm.Tryz
end

section
set_option linter.unusedSimpArgs false
set_option linter.unusedVariables false
namespace Go.Vm
open Go

@[simp] theorem cells_float (k : FloatKind) (n : Nat) : V.cells (.float k n) = [.float k n] := rfl
@[simp] theorem cells_nilp : V.cells .nilp = [.nilp] := rfl
@[simp] theorem cells_nilm : V.cells .nilm = [.nilm] := rfl
@[simp] theorem cells_nilf : V.cells .nilf = [.nilf] := rfl
@[simp] theorem cells_nili : V.cells .nili = [.nili] := rfl
@[simp] theorem cells_func (f : Nat) (cs : List V) : V.cells (.func f cs) = [.func f cs] := rfl
@[simp] theorem cells_iface (t : Nat) (v : V) : V.cells (.iface t v) = [.iface t v] := rfl
@[simp] theorem cells_cref (cs : List V) : V.cells (.cref cs) = [.cref cs] := rfl
@[simp] theorem cells_eptr (a b c d : Nat) : V.cells (.eptr a b c d) = [.eptr a b c d] := rfl

/-- What is appended. -/
def srcH (h : List HO) (y : V) : Option (List V) := St.srcV ⟨fun _ => .v .undef, fun _ => none, 0, 0, h⟩ y
theorem srcH_eq (σ : St) (y : V) : σ.srcV y = srcH σ.h y := rfl
@[simp] theorem srcH_snap (h : List HO) (l : List V) : srcH h (.snap l) = some l := rfl
@[simp] theorem srcH_nils (h : List HO) : srcH h .nils = some [] := rfl
@[simp] theorem srcH_str (h : List HO) (s : List UInt8) : srcH h (.str s) = some (bytesV s) := rfl

def appendV (h : List HO) (size bytes : Nat) (x y : V) : Option (V × List HO) :=
  (srcH h y).bind fun add =>
    if add.all (fun v => v.cells.length == size) then
      match x with
      | .nils =>
        bif add.isEmpty then some (.nils, h) else
        if add.length * bytes < far ∧ add.length < far ∧ 0 < size then some (.sl h.length 0 size 0 add.length, h ++ [HO.row 0 add]) else none
      | .sl id ver sz off len =>
        match h[id]? with
        | some (.row ver' l) =>
          if ver' = ver ∧ sz = size ∧ off = 0 ∧ len ≤ l.length ∧ (len + add.length) * bytes < far ∧ len + add.length < far then
            some (.sl id (ver + 1) size 0 (len + add.length), h.set id (.row (ver + 1) (l.take len ++ add)))
          else none
        | _ => none
      | _ => none
    else none

/-- What is left of a state when its heap is another one. -/
def Out.of (σ : St) : Option (V × List HO) → Option Out
  | some (v, h) => some (.ok (.v v) { σ with h := h })
  | none => none
@[simp] theorem Out_of_some (e : Nat → T) (m : Nat → Option (Nat × List V)) (g rb : Nat) (h h' : List HO) (v : V) : Out.of ⟨e, m, g, rb, h⟩ (some (v, h')) = some (.ok (.v v) ⟨e, m, g, rb, h'⟩) := rfl

@[simp high] theorem stepO_appendV (c : Calls1) (σ : St) (d : Option Nat) (size bytes : Nat) (x y : Opd) : stepO c σ d (.append size bytes x y) = match σ.val x, σ.val y with
    | some x, some y => Out.of σ (appendV σ.h size bytes x y)
    | _, _ => none := by
  rw [stepO_append]
  unfold effO
  dsimp only
  cases σ.val x with
  | none => rfl
  | some x =>
    cases σ.val y with
    | none => rfl
    | some y =>
      dsimp only
      unfold appendV
      rw [srcH_eq]
      cases srcH σ.h y with
      | none => rfl
      | some add =>
        simp only [Option.bind_some]
        by_cases h1 : (add.all fun v => v.cells.length == size) = true
        · rw [if_pos h1, if_pos h1]
          cases x <;> try rfl
          case nils =>
            cases add.isEmpty
            · simp only [cond_false]
              split <;> rfl
            · rfl
          case sl id ver sz off len =>
            dsimp only
            cases σ.h[id]? with
            | none => rfl
            | some q =>
              cases q <;> try rfl
              dsimp only
              split <;> rfl
        · rw [if_neg h1, if_neg h1]
          rfl

/-- A slice that running code owns, above a heap 'h': it holds 'l'. -/
def Own {α : Type} (h : List HO) (sz : Nat) (f : α → V) (l : List α) (v : V) (H : List HO) : Prop :=
  ∃ junk, H = h ++ junk ∧ (v = .nils ∧ l = [] ∨ ∃ k ver, v = .sl (h.length + k) ver sz 0 l.length ∧ junk[k]? = some (.row ver (l.map f)))

section
variable {α : Type} {h H : List HO} {sz : Nat} {f : α → V} {l : List α} {v : V}

theorem Own.nil (h : List HO) (sz : Nat) (f : α → V) : Own h sz f [] .nils h := ⟨[], by simp, .inl ⟨rfl, rfl⟩⟩

theorem Own.more (o : Own h sz f l v H) (j : List HO) : Own h sz f l v (H ++ j) := by
  obtain ⟨junk, rfl, o⟩ := o
  refine ⟨junk ++ j, by simp, ?_⟩
  rcases o with o | ⟨k, ver, rfl, e⟩
  · exact .inl o
  · refine .inr ⟨k, ver, rfl, ?_⟩
    have hlt : k < junk.length := by
      rcases Nat.lt_or_ge k junk.length with hl | hl
      · exact hl
      · rw [List.getElem?_eq_none hl] at e; cases e
    rw [List.getElem?_append_left hlt]; exact e

theorem Own.heap (o : Own h sz f l v H) : ∃ junk, H = h ++ junk := by obtain ⟨junk, e, _⟩ := o; exact ⟨junk, e⟩

theorem Own.apps (o : Own h sz f l v H) (bs : List α) (bytes : Nat) (hz : 0 < sz) (hf : ∀ a ∈ bs, (f a).cells.length = sz) (h1 : (l.length + bs.length) * bytes < 4294967296) (h2 : l.length + bs.length < 4294967296) (y : V) (hy : srcH H y = some (bs.map f)) :
    ∃ v' H', appendV H sz bytes v y = some (v', H') ∧ Own h sz f (l ++ bs) v' H' := by
  obtain ⟨junk, rfl, o⟩ := o
  have hall : ((bs.map f).all fun v => v.cells.length == sz) = true := by
    rw [List.all_eq_true]
    intro v hv
    obtain ⟨a, ha, rfl⟩ := List.mem_map.1 hv
    simpa using hf a ha
  unfold appendV
  rw [hy]
  simp only [Option.bind_some, hall, if_true]
  rcases o with ⟨rfl, rfl⟩ | ⟨k, ver, rfl, e⟩
  · dsimp only
    cases bs with
    | nil => exact ⟨_, _, rfl, junk, rfl, .inl ⟨rfl, rfl⟩⟩
    | cons a bs =>
      simp only [List.map_cons, List.isEmpty_cons, cond_false]
      simp only [List.length_nil, Nat.zero_add] at h1 h2
      rw [if_pos ⟨by simpa [far] using h1, by simpa [far] using h2, hz⟩]
      refine ⟨_, _, rfl, junk ++ [.row 0 (f a :: bs.map f)], by simp, .inr ⟨junk.length, 0, by simp, by simp⟩⟩
  · have hlt : k < junk.length := by
      rcases Nat.lt_or_ge k junk.length with hl | hl
      · exact hl
      · rw [List.getElem?_eq_none hl] at e; cases e
    have e2 : (h ++ junk)[h.length + k]? = some (.row ver (l.map f)) := by rw [app_at]; exact e
    dsimp only
    rw [e2]
    dsimp only
    rw [if_pos ⟨rfl, rfl, rfl, by simp, by simpa [far] using h1, by simpa [far] using h2⟩]
    refine ⟨_, _, rfl, junk.set k (.row (ver + 1) ((l ++ bs).map f)), ?_, .inr ⟨k, ver + 1, by simp, by simp [hlt]⟩⟩
    rw [app_set, List.map_append, List.take_of_length_le (by simp)]

theorem Own.app (o : Own h sz f l v H) (a : α) (bytes : Nat) (hz : 0 < sz) (hf : (f a).cells.length = sz) (h1 : (l.length + 1) * bytes < 4294967296) (h2 : l.length + 1 < 4294967296) :
    ∃ v' H', appendV H sz bytes v (.snap [f a]) = some (v', H') ∧ Own h sz f (l ++ [a]) v' H' :=
  o.apps [a] bytes hz (by simpa using hf) h1 h2 _ rfl

theorem Own.elems (o : Own h sz f l v H) (e : Nat → T) (m : Nat → Option (Nat × List V)) (g rb : Nat) : St.elems ⟨e, m, g, rb, H⟩ v = some (l.map f) := by
  obtain ⟨junk, rfl, ⟨rfl, rfl⟩ | ⟨k, ver, rfl, e⟩⟩ := o
  · rfl
  · simp [e, List.take_of_length_le]

theorem pures_mapf (l : List α) (hp : ∀ a ∈ l, (f a).pure = true) : V.pure.pures (l.map f) = true := by
  induction l with
  | nil => rfl
  | cons a l ih =>
    simp only [List.map_cons, V.pure.pures, Bool.and_eq_true]
    exact ⟨hp a (by simp), ih fun b hb => hp b (by simp [hb])⟩

theorem Own.fin (o : Own h sz f l v H) (hp : ∀ a ∈ l, (f a).pure = true) : finish false h (.ret v) H = (.ret (.snap (l.map f)), h) := by
  obtain ⟨junk, rfl, ⟨rfl, rfl⟩ | ⟨k, ver, rfl, e⟩⟩ := o
  · unfold finish
    simp [frzF, frz, frz2, frz1, V.pure]
  · rw [finish_row h junk k ver sz (l.map f) e (pures_mapf l hp) 0 l.length (by simp)]
    simp [List.take_of_length_le]

end
end Go.Vm
end

section
set_option linter.unusedVariables false
set_option linter.unusedSimpArgs false
set_option maxRecDepth 10000
namespace Go.Vm.Tryz
open Go Go.Vm

def cutDir (d : Str) : Str := if d.getLast? = some 47 then d.dropLast else d
def callX (path : Str) (a : Xattr) : Call := ⟨12, path, a.name, 0, 0, a.val, 0⟩
def callBase (path : Str) (i : Item) : Call := ⟨if i.kind = 2 then 1 else if i.kind = 3 then 4 else 2, path, if i.kind = 3 then i.body else [], 0, i.mode, [], (timeTo i.time).1⟩
def callsI (l : List Item) (dir : Str) (i : Item) : List Call :=
  if 0 ≤ i.same ∧ i.same < l.length then [⟨3, dir ++ ((l[i.same.toNat]?).map Item.path).getD [], dir ++ i.path, 0, 0, [], 0⟩] else
  [callBase (dir ++ i.path) i] ++ (if i.kind = 1 ∧ i.body ≠ [] then [⟨8, dir ++ i.path, [], 0, 0, i.body, 0⟩] else []) ++ i.xattrs.l.map (callX (dir ++ i.path))
def callsOf (l : List Item) (dir : Str) : List Call := (l.map (callsI l dir)).flatten

theorem drop_last (d : Str) (b : UInt8) : (d ++ [b]).drop d.length = [b] := by simp
theorem snoc_or (d : Str) : d = [] ∨ ∃ e b, d = e ++ [b] := by
  rcases List.eq_nil_or_concat d with h | ⟨e, b, h⟩
  · exact .inl h
  · exact .inr ⟨e, b, by rw [h]; simp⟩

theorem trim37 (d : Str) (hd : d.length < 1000000) (h : List HO) : VC X 37 [S d, S [47]] h = some (.ret (S (cutDir d)), h) := by
  have e170 : VC X 170 [S d, S [47]] h = some (.ret (B (d.getLast? == some 47)), h) := by
    rw [v170]
    refine Ans.eq (ans_wp ?_)
    rcases snoc_or d with rfl | ⟨e, b, rfl⟩
    · simp [s170]
    · have hw := wrapI (n := (e.length : Int) + 1 - 1) (by simp at hd; unfold R; omega)
      have hlt : (1 : Int) ≤ (e.length : Int) + 1 := by omega
      simp at hw
      simp [s170, hw, hlt]
  have e88 : VC X 88 [S d, S [47]] h = some (.ret (S (cutDir d)), h) := by
    rw [v88]
    refine Ans.eq (ans_wp ?_)
    have e170' : VC X 170 [V.str d, V.str [47]] h = _ := e170
    rcases snoc_or d with rfl | ⟨e, b, rfl⟩
    · simp [s88, e170', cutDir]
    · have hw := wrapI (n := (e.length : Int) + 1 - 1) (by simp at hd; unfold R; omega)
      simp at hw
      try simp at e170'
      by_cases hb : b = 47
      · subst hb
        try simp at e170'
        simp [s88, e170', cutDir, hw]
      · have : (b == 47) = false := by simpa using hb
        simp [s88, e170', cutDir, hw, hb, this]
  rw [v37]
  refine Ans.eq (ans_wp ?_)
  have e88' : VC X 88 [V.str d, V.str [47]] h = _ := e88
  simp [s37, e88']
end Go.Vm.Tryz
end

section
set_option linter.unusedVariables false
set_option linter.unusedSimpArgs false
set_option maxRecDepth 10000
namespace Go.Vm.Tryz
open Go Go.Vm

theorem callsI_len (l : List Item) (dir : Str) (i : Item) (hs : ¬ (0 ≤ i.same ∧ i.same < l.length)) : (callsI l dir i).length = 1 + (if i.kind = 1 ∧ i.body ≠ [] then 1 else 0) + i.xattrs.l.length := by
  unfold callsI
  rw [if_neg hs]
  split <;> simp <;> omega

theorem flatC_le {α : Type} (f : α → List Call) (l : List α) (i : Nat) (hi : i < l.length) : (((l.take i).map f).flatten ++ f l[i]).length ≤ ((l.map f).flatten).length := by
  have e : l = l.take i ++ l[i] :: l.drop (i + 1) := by simp
  have e2 : (l.map f).flatten = ((l.take i).map f).flatten ++ (f l[i] ++ ((l.drop (i + 1)).map f).flatten) := by
    conv => lhs; rw [e]
    simp only [List.map_append, List.map_cons, List.flatten_append, List.flatten_cons]
  rw [e2]
  simp only [List.length_append]
  omega
theorem flatC_succ {α : Type} (f : α → List Call) (l : List α) (i : Nat) (hi : i < l.length) : ((l.take (i + 1)).map f).flatten = ((l.take i).map f).flatten ++ f l[i] := by
  rw [List.take_succ_eq_append_getElem hi]
  simp only [List.map_append, List.map_cons, List.map_nil, List.flatten_append, List.flatten_cons, List.flatten_nil, List.append_nil]

theorem calls15_xs (xs : List Xattr) (pv : V) (hp : Row Xattr.v pv xs) (hl : xs.length < 1000000) (path : Str) (base : List Call) (hb : base.length + xs.length < 900000)
    (h : List HO) (σ : St) (v0 v1 v16 v17 v18 : T) (v : V) (H : List HO) (kh : σ.h = H) (hv : Own h 7 Call.v base v H) (k5 : σ.e 5 = .v v) (k0 : σ.e 0 = v0) (k1 : σ.e 1 = v1) (k16 : σ.e 16 = v16) (k17 : σ.e 17 = v17) (k18 : σ.e 18 = v18)
    (k8 : σ.e 8 = .v (S path)) (k91 : σ.e 91 = .v pv) (k92 : σ.e 92 = .v (I xs.length)) (k93 : σ.e 93 = .v (I 0)) (K : List It) (Q : Ex → St → Prop)
    (hK : ∀ (σ' : St) v H, σ'.h = H → Own h 7 Call.v (base ++ xs.map (callX path)) v H → σ'.e 5 = .v v → σ'.e 0 = v0 → σ'.e 1 = v1 → σ'.e 16 = v16 → σ'.e 17 = v17 → σ'.e 18 = v18 → wp (contK X K (.exit 3) σ') Q) :
    wp (run X (.c L15_1 :: K) σ) Q := by
  refine wp_loop (fun n σ => σ.e 0 = v0 ∧ σ.e 1 = v1 ∧ σ.e 16 = v16 ∧ σ.e 17 = v17 ∧ σ.e 18 = v18 ∧ σ.e 8 = .v (S path) ∧ σ.e 91 = .v pv ∧ σ.e 92 = .v (I xs.length) ∧ ∃ (j : Nat) (v : V), n + j = xs.length ∧ σ.e 93 = .v (I j) ∧ σ.e 5 = .v v ∧ Own h 7 Call.v (base ++ (xs.take j).map (callX path)) v σ.h) ?_ xs.length _ ⟨k0, k1, k16, k17, k18, k8, k91, k92, 0, v, by simp, k93, k5, by rw [kh]; simpa using hv⟩
  clear kh hv k5 k0 k1 k16 k17 k18 k8 k91 k92 k93 v H σ
  rintro n ⟨e, m, g, rb, H⟩ ⟨k0, k1, k16, k17, k18, k8, k91, k92, j, v, hj, k93, k5, hv⟩
  dsimp only at k0 k1 k16 k17 k18 k8 k91 k92 k93 k5 hv
  by_cases hlt : j < xs.length
  · rcases hp with ⟨rfl, rfl⟩ | rfl
    · simp at hlt
    have ha : xs[j]? = some xs[j] := List.getElem?_eq_getElem hlt
    have hw := wrapI (n := (j : Int) + 1) (by unfold R; omega)
    obtain ⟨v', H', e1, o1⟩ := hv.app (callX path xs[j]) 80 (by decide) rfl (by simp; omega) (by simp; omega)
    have e1' : appendV H 7 80 v (.snap [(callX path xs[j]).v]) = _ := e1
    simp only [callX] at e1'
    simp [k0, k1, k16, k17, k18, k8, k91, k92, k93, k5, hlt, ha, e1', hw]
    refine ⟨n - 1, by omega, j + 1, by omega, by simp, ?_⟩
    rw [List.append_assoc] at o1
    rw [← List.map_take, List.take_succ_eq_append_getElem hlt, List.map_append]
    exact o1
  · have hjl : j = xs.length := by omega
    subst hjl
    rw [List.take_of_length_le (Nat.le_refl _)] at hv
    simp [k0, k1, k16, k17, k18, k8, k91, k92, k93, k5]
    exact hK _ v H rfl hv rfl rfl rfl rfl rfl rfl

set_option maxHeartbeats 4000000 in
theorem calls15 (l : List Item) (lv : V) (hlv : Row Item.v lv l) (hl : l.length < 1000000) (hi : ∀ i ∈ l, okI i) (dir : Str) (hd : dir.length < 100000) (hb : (callsOf l (cutDir dir)).length < 900000) (h : List HO) :
    VC X 15 [lv, S dir] h = some (.ret (.snap ((callsOf l (cutDir dir)).map Call.v)), h) := by
  rw [v15]
  refine Ans.eq (ans_wp ?_)
  have et := trim37 dir (by omega) h
  have hdl : (cutDir dir).length < 100000 := by unfold cutDir; split <;> (try simp) <;> omega
  generalize cutDir dir = d at et hb hdl
  have main : ∀ (σ : St), σ.h = h → σ.e 0 = .v lv → σ.e 1 = .v (S d) → σ.e 5 = .v .nils → σ.e 16 = .v lv → σ.e 17 = .v (I l.length) → σ.e 18 = .v (I 0) →
      wp (run X [.c L15_2, .e 0 [5] [], .c c15_61] σ) (endP s15 h fun r' h' => r' = .ret (.snap ((callsOf l d).map Call.v)) ∧ h' = h) := by
    intro σ kh k0 k1 k5 k16 k17 k18
    refine wp_loop (fun n σ => σ.e 0 = .v lv ∧ σ.e 1 = .v (S d) ∧ σ.e 16 = .v lv ∧ σ.e 17 = .v (I l.length) ∧ ∃ (i : Nat), n + i = l.length ∧ σ.e 18 = .v (I i) ∧ ∃ (v : V), σ.e 5 = .v v ∧ Own h 7 Call.v (((l.map (callsI l d)).take i).flatten) v σ.h) ?_ l.length _ ⟨k0, k1, k16, k17, 0, by simp, k18, .nils, k5, by rw [kh]; exact Own.nil _ _ _⟩
    clear kh k0 k1 k5 k16 k17 k18 σ
    rintro n ⟨e, m, g, rb, H⟩ ⟨k0, k1, k16, k17, i, hin, k18, v, k5, hv⟩
    dsimp only at k0 k1 k5 k16 k17 k18 hv
    rw [← List.map_take] at hv
    by_cases hlt : i < l.length
    · have hlv0 := hlv
      rcases hlv with ⟨rfl, rfl⟩ | rfl
      · simp at hlt
      have ha : l[i]? = some l[i] := List.getElem?_eq_getElem hlt
      have hw := wrapI (n := (i : Int) + 1) (by unfold R; omega)
      obtain ⟨hpa, hbo, hti, hsa, hxl, hxs⟩ := hi l[i] (List.getElem_mem hlt)
      have hle := flatC_le (callsI l d) l i hlt
      have hle2 : (((l.take i).map (callsI l d)).flatten).length + (callsI l d l[i]).length < 900000 := by
        simp only [List.length_append] at hle hb ⊢
        unfold callsOf at hb
        omega
      have hsu := flatC_succ (callsI l d) l i hlt
      generalize hbs : ((l.take i).map (callsI l d)).flatten = bs at hle2 hv hsu
      have hll : d.length + l[i].path.length < 4611686018427387904 := by omega
      generalize hit : l[i] = it at *
      by_cases hsm : 0 ≤ it.same ∧ it.same < l.length
      · obtain ⟨hs0, hs1⟩ := hsm
        · obtain ⟨k, hk⟩ : ∃ k : Nat, it.same = k := ⟨it.same.toNat, by omega⟩
          have hkl : k < l.length := by omega
          have hak : l[k]? = some l[k] := List.getElem?_eq_getElem hkl
          have hpk := (hi l[k] (List.getElem_mem hkl)).path
          have hlk : d.length + l[k].path.length < 4611686018427387904 := by omega
          have hci : callsI l d it = [⟨3, d ++ l[k].path, d ++ it.path, 0, 0, [], 0⟩] := by
            unfold callsI
            rw [if_pos ⟨hs0, hs1⟩, hk]
            simp [hak]
          rw [hci] at hle2 hsu
          obtain ⟨v', H', e1, o1⟩ := hv.app ⟨3, d ++ l[k].path, d ++ it.path, 0, 0, [], 0⟩ 80 (by decide) rfl (by simp at hle2; omega) (by simp at hle2; omega)
          simp [k0, k1, k5, k16, k17, k18, hlt, ha, hit, hll, hs0, hs1, hk, hkl, hak, hlk, e1, hw]
          refine ⟨n - 1, by omega, i + 1, by omega, by simp, ?_⟩
          rw [← List.map_take, hsu]
          exact o1
      · have hcl := callsI_len l d it hsm
        rw [hcl] at hle2
        have hci : callsI l d it = [callBase (d ++ it.path) it] ++ (if it.kind = 1 ∧ it.body ≠ [] then [⟨8, d ++ it.path, [], 0, 0, it.body, 0⟩] else []) ++ it.xattrs.l.map (callX (d ++ it.path)) := by
          unfold callsI
          rw [if_neg hsm]
        obtain ⟨v1, H1, e1, o1⟩ := hv.app (callBase (d ++ it.path) it) 80 (by decide) rfl (by omega) (by omega)
        have eto := fun h => to38 it.time hti h
        have hcase : (0 ≤ it.same ∧ ¬ it.same < l.length) ∨ (¬ 0 ≤ it.same ∧ True) := by
          by_cases q : 0 ≤ it.same
          · exact .inl ⟨q, fun q2 => hsm ⟨q, q2⟩⟩
          · exact .inr ⟨q, trivial⟩
        have fin : ∀ (xs : Sl Xattr), it.xattrs = xs → xs.l.length < 1000000 → ∀ (base : List Call), base.length + xs.l.length < 900000 → bs ++ callsI l d it = base ++ xs.l.map (callX (d ++ it.path)) → ∀ (σ : St) (v : V) (H : List HO), σ.h = H → Own h 7 Call.v base v H → σ.e 5 = .v v → σ.e 0 = .v (.snap (l.map Item.v)) → σ.e 1 = .v (S d) → σ.e 16 = .v (.snap (l.map Item.v)) → σ.e 17 = .v (I l.length) → σ.e 18 = .v (I i) → σ.e 8 = .v (S (d ++ it.path)) → σ.e 91 = .v (Sl.v Xattr.v xs) → σ.e 92 = .v (I xs.l.length) → σ.e 93 = .v (I 0) →
            wp (run X [.c L15_1, .e 3 [0, 1, 5, 16, 17, 18] [], .e 1 [0, 1, 5, 16, 17, 18] [], .c (.ops r15_54)] σ) (loopQ X [.e 0 [5] [], .c c15_61] (endP s15 h fun r' h' => r' = .ret (.snap ((callsOf l d).map Call.v)) ∧ h' = h) (fun n σ => σ.e 0 = .v (.snap (l.map Item.v)) ∧ σ.e 1 = .v (S d) ∧ σ.e 16 = .v (.snap (l.map Item.v)) ∧ σ.e 17 = .v (I l.length) ∧ ∃ (i : Nat), n + i = l.length ∧ σ.e 18 = .v (I i) ∧ ∃ (v : V), σ.e 5 = .v v ∧ Own h 7 Call.v (((l.map (callsI l d)).take i).flatten) v σ.h) n) := by
          intro xs hxe hxl' base hbl hba σ v H kh hv k5 k0 k1 k16 k17 k18 k8 k91 k92 k93
          refine calls15_xs xs.l _ (Sl.row _ _) hxl' _ base hbl h σ _ _ _ _ _ v H kh hv k5 k0 k1 k16 k17 k18 k8 k91 k92 k93 _ _ ?_
          rintro ⟨e', m', g', rb', h'⟩ w H' q0 q1 q2 q3 q4 q5 q6 q7
          dsimp only at q0 q2 q3 q4 q5 q6 q7
          subst q0
          simp [q2, q3, q4, q5, q6, q7, hw]
          refine ⟨n - 1, by omega, i + 1, by omega, by simp, ?_⟩
          rw [← List.map_take, hsu, hba]
          exact q1
        rw [hci] at fin
        have hxr : Sl.v Xattr.v it.xattrs = .nils ∧ it.xattrs = none ∨ ∃ xs, it.xattrs = some xs := by
          cases it.xattrs with
          | none => exact .inl ⟨rfl, rfl⟩
          | some xs => exact .inr ⟨xs, rfl⟩
        rcases hcase with ⟨hs0, hs1⟩ | ⟨hs0, hs1⟩
        all_goals
          by_cases hk2 : it.kind = 2
          · have e1' : appendV H 7 80 v (.snap [(callBase (d ++ it.path) it).v]) = _ := e1
            simp [callBase, hk2] at e1'
            rcases hxr with ⟨hx1, hxn⟩ | ⟨xs, hxn⟩
            all_goals
              simp [k0, k1, k5, k16, k17, k18, hlt, ha, hit, hll, hs0, hs1, eto, hk2, e1', hw, hxn]
              refine fin _ hxn (by rw [← hxn]; exact hxl) (bs ++ [callBase (d ++ it.path) it]) ?_ ?_ _ v1 H1 ?_ o1 ?_ ?_ ?_ ?_ ?_ ?_ ?_ ?_ ?_ ?_
              · rw [hxn] at hle2; simp at hle2 ⊢; omega
              · simp [hk2, hxn]
              all_goals rfl
          · have hk2' : (it.kind == 2) = false := by simpa using hk2
            by_cases hk3 : it.kind = 3
            · have e1' : appendV H 7 80 v (.snap [(callBase (d ++ it.path) it).v]) = _ := e1
              simp [callBase, hk2, hk3] at e1'
              rcases hxr with ⟨hx1, hxn⟩ | ⟨xs, hxn⟩
              all_goals
                simp [k0, k1, k5, k16, k17, k18, hlt, ha, hit, hll, hs0, hs1, eto, hk2, hk3, e1', hw, hxn]
                refine fin _ hxn (by rw [← hxn]; exact hxl) (bs ++ [callBase (d ++ it.path) it]) ?_ ?_ _ v1 H1 ?_ o1 ?_ ?_ ?_ ?_ ?_ ?_ ?_ ?_ ?_ ?_
                · rw [hxn] at hle2; simp at hle2 ⊢; omega
                · simp [hk2, hk3, hxn]
                all_goals rfl
            · have hk3' : (it.kind == 3) = false := by simpa using hk3
              by_cases hk1 : it.kind = 1
              · have e1' : appendV H 7 80 v (.snap [(callBase (d ++ it.path) it).v]) = _ := e1
                simp [callBase, hk2, hk3] at e1'
                by_cases hbd : it.body = []
                · rcases hxr with ⟨hx1, hxn⟩ | ⟨xs, hxn⟩
                  all_goals
                    simp [k0, k1, k5, k16, k17, k18, hlt, ha, hit, hll, hs0, hs1, eto, hk1, hbd, e1', hw, hxn]
                    refine fin _ hxn (by rw [← hxn]; exact hxl) (bs ++ [callBase (d ++ it.path) it]) ?_ ?_ _ v1 H1 ?_ o1 ?_ ?_ ?_ ?_ ?_ ?_ ?_ ?_ ?_ ?_
                    · rw [hxn] at hle2; simp at hle2 ⊢; omega
                    · simp [hk1, hbd, hxn]
                    all_goals rfl
                · have hle3 := hle2
                  rw [if_pos ⟨hk1, hbd⟩] at hle3
                  have hbe : it.body.isEmpty = false := by simpa using hbd
                  obtain ⟨v2, H2, e2, o2⟩ := o1.app ⟨8, d ++ it.path, [], 0, 0, it.body, 0⟩ 80 (by decide) rfl (by simp; omega) (by simp; omega)
                  rcases hxr with ⟨hx1, hxn⟩ | ⟨xs, hxn⟩
                  all_goals
                    simp [k0, k1, k5, k16, k17, k18, hlt, ha, hit, hll, hs0, hs1, eto, hk1, hbd, hbe, e1', e2, hw, hxn]
                    refine fin _ hxn (by rw [← hxn]; exact hxl) _ ?_ ?_ _ v2 H2 ?_ o2 ?_ ?_ ?_ ?_ ?_ ?_ ?_ ?_ ?_ ?_
                    · rw [hxn] at hle3; simp at hle3 ⊢; omega
                    · simp [hk1, hbd, hxn]
                    all_goals rfl
              · have hk1' : (it.kind == 1) = false := by simpa using hk1
                have e1' : appendV H 7 80 v (.snap [(callBase (d ++ it.path) it).v]) = _ := e1
                simp [callBase, hk2, hk3] at e1'
                rcases hxr with ⟨hx1, hxn⟩ | ⟨xs, hxn⟩
                all_goals
                  simp [k0, k1, k5, k16, k17, k18, hlt, ha, hit, hll, hs0, hs1, eto, hk1, hk2, hk3, hk1', hk2', hk3', e1', hw, hxn]
                  refine fin _ hxn (by rw [← hxn]; exact hxl) (bs ++ [callBase (d ++ it.path) it]) ?_ ?_ _ v1 H1 ?_ o1 ?_ ?_ ?_ ?_ ?_ ?_ ?_ ?_ ?_ ?_
                  · rw [hxn] at hle2; simp at hle2 ⊢; omega
                  · simp [hk1, hxn]
                  all_goals rfl
    · have hil : i = l.length := by omega
      subst hil
      rw [List.take_of_length_le (Nat.le_refl _)] at hv
      have hfi := Own.fin hv (fun a _ => rfl)
      simp [k0, k1, k5, k16, k17, k18, s15, hfi, callsOf]
  rcases hlv with ⟨rfl, rfl⟩ | rfl
  · simp [s15, et]
    exact main _ rfl rfl rfl rfl rfl rfl rfl
  · simp [s15, et]
    exact main _ rfl rfl rfl rfl rfl rfl rfl
end Go.Vm.Tryz
end

section
set_option linter.unusedVariables false
set_option linter.unusedSimpArgs false
set_option maxRecDepth 10000
namespace Go.Vm.Tryz
open Go Go.Vm

theorem calls16_xs (xs : List Xattr) (pv : V) (hp : Row Xattr.v pv xs) (hl : xs.length < 1000000) (d p : Str) (hdp : d.length + p.length < 1000000) (cs : List V) (base : List Call) (hb : base.length + xs.length < 900000)
    (h : List HO) (σ : St) (v0 v27 v28 v29 : T) (g0 : Nat) (v : V) (H : List HO) (kh : σ.h = H) (hv : Own h 7 Call.v base v H) (k5 : σ.e 5 = .v v) (k0 : σ.e 0 = v0) (k1 : σ.e 1 = .v (S d)) (k7 : σ.e 7 = .loc 7 g0 0) (m7 : σ.m 7 = some (g0, S p :: cs)) (k27 : σ.e 27 = v27) (k28 : σ.e 28 = v28) (k29 : σ.e 29 = v29)
    (k107 : σ.e 107 = .v pv) (k108 : σ.e 108 = .v (I xs.length)) (k109 : σ.e 109 = .v (I 0)) (K : List It) (Q : Ex → St → Prop)
    (hK : ∀ (σ' : St) v H, σ'.h = H → Own h 7 Call.v (base ++ xs.map (callX (d ++ p))) v H → σ'.e 5 = .v v → σ'.e 0 = v0 → σ'.e 1 = .v (S d) → σ'.e 27 = v27 → σ'.e 28 = v28 → σ'.e 29 = v29 → wp (contK X K (.exit 2) σ') Q) :
    wp (run X (.c L16_1 :: K) σ) Q := by
  refine wp_loop (fun n σ => σ.e 0 = v0 ∧ σ.e 1 = .v (S d) ∧ σ.e 7 = .loc 7 g0 0 ∧ σ.m 7 = some (g0, S p :: cs) ∧ σ.e 27 = v27 ∧ σ.e 28 = v28 ∧ σ.e 29 = v29 ∧ σ.e 107 = .v pv ∧ σ.e 108 = .v (I xs.length) ∧ ∃ (j : Nat), n + j = xs.length ∧ σ.e 109 = .v (I j) ∧ ∃ (v : V), σ.e 5 = .v v ∧ Own h 7 Call.v (base ++ (xs.map (callX (d ++ p))).take j) v σ.h) ?_ xs.length _ ⟨k0, k1, k7, m7, k27, k28, k29, k107, k108, 0, by simp, k109, v, k5, by rw [kh]; simpa using hv⟩
  clear kh hv k5 k0 k1 k7 m7 k27 k28 k29 k107 k108 k109 v H σ
  rintro n ⟨e, m, g, rb, H⟩ ⟨k0, k1, k7, m7, k27, k28, k29, k107, k108, j, hj, k109, v, k5, hv⟩
  dsimp only at k0 k1 k7 m7 k27 k28 k29 k107 k108 k109 k5 hv
  rw [← List.map_take] at hv
  by_cases hlt : j < xs.length
  · rcases hp with ⟨rfl, rfl⟩ | rfl
    · simp at hlt
    have ha : xs[j]? = some xs[j] := List.getElem?_eq_getElem hlt
    have hw := wrapI (n := (j : Int) + 1) (by unfold R; omega)
    obtain ⟨v', H', e1, o1⟩ := hv.app (callX (d ++ p) xs[j]) 80 (by decide) rfl (by simp; omega) (by simp; omega)
    have e1' : appendV H 7 80 v (.snap [(callX (d ++ p) xs[j]).v]) = _ := e1
    simp only [callX] at e1'
    have hl2 : d.length + p.length < 4611686018427387904 := by omega
    simp [k0, k1, k7, m7, k27, k28, k29, k107, k108, k109, k5, hlt, ha, hl2, e1', hw]
    refine ⟨n - 1, by omega, j + 1, by omega, by simp, ?_⟩
    rw [List.append_assoc] at o1
    rw [← List.map_take, List.take_succ_eq_append_getElem hlt, List.map_append]
    exact o1
  · have hjl : j = xs.length := by omega
    subst hjl
    rw [List.take_of_length_le (Nat.le_refl _)] at hv
    simp [k0, k1, k7, m7, k27, k28, k29, k107, k108, k109, k5]
    exact hK _ v H rfl hv rfl rfl rfl rfl rfl rfl

/-- Behind the first call of an item. -/
theorem calls16_tail (it : Item) (hit : okI it) (d : Str) (hdp : d.length + it.path.length < 1000000) (base : List Call) (hb : base.length + 1 + it.xattrs.l.length < 900000)
    (h : List HO) (σ : St) (v0 v27 v28 v29 : T) (g0 : Nat) (v : V) (H : List HO) (kh : σ.h = H) (hv : Own h 7 Call.v base v H) (k5 : σ.e 5 = .v v) (k0 : σ.e 0 = v0) (k1 : σ.e 1 = .v (S d)) (k7 : σ.e 7 = .loc 7 g0 0) (m7 : σ.m 7 = some (g0, (alsoI it).c)) (k27 : σ.e 27 = v27) (k28 : σ.e 28 = v28) (k29 : σ.e 29 = v29)
    (K : List It) (Q : Ex → St → Prop)
    (hK : ∀ (σ' : St) v H, σ'.h = H → Own h 7 Call.v (base ++ (if it.kind = 1 ∧ it.body ≠ [] then [⟨8, d ++ it.path, [], 0, 0, it.body, 0⟩] else []) ++ it.xattrs.l.map (callX (d ++ it.path))) v H → σ'.e 5 = .v v → σ'.e 0 = v0 → σ'.e 1 = .v (S d) → σ'.e 27 = v27 → σ'.e 28 = v28 → σ'.e 29 = v29 → wp (contK X K .normal σ') Q) :
    wp (run X (.c c16_46 :: K) σ) Q := by
  obtain ⟨hpa, hbo, hti, hsa, hxl, hxs⟩ := hit
  obtain ⟨e, m, g, rb, h'⟩ := σ
  dsimp only at kh k5 k0 k1 k7 m7 k27 k28 k29
  subst kh
  have hl2 : d.length + it.path.length < 4611686018427387904 := by omega
  have fin : ∀ (xs : Sl Xattr), it.xattrs = xs → xs.l.length < 1000000 → ∀ (base : List Call), base.length + xs.l.length < 900000 → ∀ (σ : St) (v : V) (H : List HO), σ.h = H → Own h 7 Call.v base v H → σ.e 5 = .v v → σ.e 0 = v0 → σ.e 1 = .v (S d) → σ.e 27 = v27 → σ.e 28 = v28 → σ.e 29 = v29 → σ.e 7 = .loc 7 g0 0 → σ.m 7 = some (g0, (alsoI it).c) → σ.e 107 = .v (Sl.v Xattr.v xs) → σ.e 108 = .v (I xs.l.length) → σ.e 109 = .v (I 0) →
      (∀ (σ' : St) v H, σ'.h = H → Own h 7 Call.v (base ++ xs.l.map (callX (d ++ it.path))) v H → σ'.e 5 = .v v → σ'.e 0 = v0 → σ'.e 1 = .v (S d) → σ'.e 27 = v27 → σ'.e 28 = v28 → σ'.e 29 = v29 → wp (contK X K .normal σ') Q) →
      wp (run X (.c L16_1 :: .e 2 [0, 1, 5, 27, 28, 29] [] :: K) σ) Q := by
    intro xs hxe hxl' base hbl σ v H kh hv k5 k0 k1 k27 k28 k29 k7 m7 k107 k108 k109 hK
    refine calls16_xs xs.l _ (Sl.row _ _) hxl' d it.path hdp _ base hbl h σ _ _ _ _ g0 v H kh hv k5 k0 k1 k7 m7 k27 k28 k29 k107 k108 k109 _ _ ?_
    rintro ⟨e', m', g', rb', h'⟩ w H' q0 q1 q2 q3 q4 q5 q6 q7
    dsimp only at q0 q2 q3 q4 q5 q6 q7
    subst q0
    simp [q2, q3, q4, q5, q6, q7]
    exact hK _ w h' rfl q1 rfl rfl rfl rfl rfl rfl
  rcases hx : it.xattrs with _ | xs
  all_goals
    rw [hx] at hb hxl hK
    by_cases hk1 : it.kind = 1 ∧ it.body ≠ []
    · obtain ⟨hk, hbd⟩ := hk1
      have hbe : it.body.isEmpty = false := by simpa using hbd
      obtain ⟨v2, H2, e2, o2⟩ := hv.app ⟨8, d ++ it.path, [], 0, 0, it.body, 0⟩ 80 (by decide) rfl (by omega) (by omega)
      rw [if_pos ⟨hk, hbd⟩] at hK
      unfold c16_46
      simp [alsoI, k0, k1, k5, k7, m7, k27, k28, k29, hk, hbe, hbd, hl2, e2, hx]
      refine fin _ hx hxl _ (by simp at hb ⊢; omega) _ v2 H2 ?_ o2 ?_ ?_ ?_ ?_ ?_ ?_ ?_ ?_ ?_ ?_ ?_ hK
      all_goals first | rfl | assumption | (simpa [alsoI, hk, hx] using m7)
    · rw [if_neg hk1, List.append_nil] at hK
      by_cases hk : it.kind = 1
      · have hbd : it.body = [] := Decidable.of_not_not fun q => hk1 ⟨hk, q⟩
        unfold c16_46
        simp [alsoI, k0, k1, k5, k7, m7, k27, k28, k29, hk, hbd, hl2, hx]
        refine fin _ hx hxl base (by simp at hb ⊢; omega) _ v h' ?_ hv ?_ ?_ ?_ ?_ ?_ ?_ ?_ ?_ ?_ ?_ ?_ hK
        all_goals first | rfl | assumption | (simpa [alsoI, hk, hbd, hx] using m7)
      · have hkb : (it.kind == 1) = false := by simpa using hk
        unfold c16_46
        simp [alsoI, k0, k1, k5, k7, m7, k27, k28, k29, hkb, hl2, hx]
        refine fin _ hx hxl base (by simp at hb ⊢; omega) _ v h' ?_ hv ?_ ?_ ?_ ?_ ?_ ?_ ?_ ?_ ?_ ?_ ?_ hK
        all_goals first | rfl | assumption | (simpa [alsoI, hx] using m7)

/-- From the first call of an item on. -/
theorem calls16_item (it : Item) (hit : okI it) (d : Str) (hdp : d.length + it.path.length < 1000000) (base : List Call) (hb : base.length + 2 + it.xattrs.l.length < 900000)
    (h : List HO) (σ : St) (v0 v27 v28 v29 : T) (g0 : Nat) (v : V) (H : List HO) (kg : σ.g = g0 + 1) (kh : σ.h = H) (hv : Own h 7 Call.v base v H) (k5 : σ.e 5 = .v v) (k0 : σ.e 0 = v0) (k1 : σ.e 1 = .v (S d)) (k7 : σ.e 7 = .loc 7 g0 0) (m7 : σ.m 7 = some (g0, (alsoI it).c)) (k27 : σ.e 27 = v27) (k28 : σ.e 28 = v28) (k29 : σ.e 29 = v29)
    (K : List It) (Q : Ex → St → Prop)
    (hK : ∀ (σ' : St) v H, σ'.h = H → Own h 7 Call.v (base ++ ([callBase (d ++ it.path) it] ++ (if it.kind = 1 ∧ it.body ≠ [] then [⟨8, d ++ it.path, [], 0, 0, it.body, 0⟩] else []) ++ it.xattrs.l.map (callX (d ++ it.path)))) v H → σ'.e 5 = .v v → σ'.e 0 = v0 → σ'.e 1 = .v (S d) → σ'.e 27 = v27 → σ'.e 28 = v28 → σ'.e 29 = v29 → wp (contK X K .normal σ') Q) :
    wp (run X (.c c16_51 :: K) σ) Q := by
  obtain ⟨hpa, hbo, hti, hsa, hxl, hxs⟩ := id hit
  obtain ⟨e, m, g, rb, h'⟩ := σ
  dsimp only at kg kh k5 k0 k1 k7 m7 k27 k28 k29
  subst kh kg
  have hl2 : d.length + it.path.length < 4611686018427387904 := by omega
  have eto := fun h => to39 it.time hti h
  obtain ⟨v2, H2, e2, o2⟩ := hv.app (callBase (d ++ it.path) it) 80 (by decide) rfl (by omega) (by omega)
  have hK2 : ∀ (σ : St), σ.h = H2 → σ.e 5 = .v v2 → σ.e 0 = v0 → σ.e 1 = .v (S d) → σ.e 7 = .loc 7 g0 0 → σ.m 7 = some (g0, (alsoI it).c) → σ.e 27 = v27 → σ.e 28 = v28 → σ.e 29 = v29 → wp (run X (.c c16_46 :: K) σ) Q := by
    intro σ kh k5 k0 k1 k7 m7 k27 k28 k29
    refine calls16_tail it hit d hdp (base ++ [callBase (d ++ it.path) it]) (by simp; omega) h σ v0 v27 v28 v29 g0 v2 H2 kh o2 k5 k0 k1 k7 m7 k27 k28 k29 K Q ?_
    intro σ' v H k1 k2
    refine hK σ' v H k1 ?_
    simpa using k2
  have e2' : appendV h' 7 80 v (.snap [(callBase (d ++ it.path) it).v]) = _ := e2
  have hgne : ¬ (g0 + 1 = g0) := by omega
  unfold c16_51
  by_cases hk2 : it.kind = 2
  · simp [callBase, hk2] at e2'
    simp [alsoI, k0, k1, k5, k7, m7, k27, k28, k29, hk2, eto, hl2, e2', hgne]
    refine hK2 _ ?_ ?_ ?_ ?_ ?_ ?_ ?_ ?_ ?_
    all_goals first | rfl | assumption | (simpa [alsoI, hk2] using m7)
  · have hk2' : (it.kind == 2) = false := by simpa using hk2
    by_cases hk3 : it.kind = 3
    · simp [callBase, hk2, hk3] at e2'
      simp [alsoI, k0, k1, k5, k7, m7, k27, k28, k29, hk3, eto, hl2, e2', hgne]
      refine hK2 _ ?_ ?_ ?_ ?_ ?_ ?_ ?_ ?_ ?_
      all_goals first | rfl | assumption | (simpa [alsoI, hk3] using m7)
    · have hk3' : (it.kind == 3) = false := by simpa using hk3
      simp [callBase, hk2, hk3] at e2'
      simp [alsoI, k0, k1, k5, k7, m7, k27, k28, k29, hk2', hk3', eto, hl2, e2', hgne]
      refine hK2 _ ?_ ?_ ?_ ?_ ?_ ?_ ?_ ?_ ?_
      all_goals first | rfl | assumption | (simpa [alsoI] using m7)

theorem calls16 (l : List Item) (lv : V) (hlv : Row (fun i => (alsoI i).v) lv l) (hl : l.length < 1000000) (hi : ∀ i ∈ l, okI i) (dir : Str) (hd : dir.length < 100000) (hb : (callsOf l (cutDir dir)).length + 1 < 900000) (h : List HO) :
    VC X 16 [lv, S dir] h = some (.ret (.snap ((callsOf l (cutDir dir)).map Call.v)), h) := by
  rw [v16]
  refine Ans.eq (ans_wp ?_)
  have hcd : cutDir dir = if dir.getLast? = some 47 then dir.dropLast else dir := rfl
  have hdl : (cutDir dir).length < 100000 := by rw [hcd]; split <;> (try simp) <;> omega
  generalize hcq : cutDir dir = d at hb hdl hcd
  have main : ∀ (σ : St), σ.h = h → σ.e 0 = .v lv → σ.e 1 = .v (S d) → σ.e 5 = .v .nils → σ.e 27 = .v lv → σ.e 28 = .v (I l.length) → σ.e 29 = .v (I 0) →
      wp (run X [.c L16_2, .e 0 [5] [], .c c16_62] σ) (endP s16 h fun r' h' => r' = .ret (.snap ((callsOf l d).map Call.v)) ∧ h' = h) := by
    intro σ kh k0 k1 k5 k27 k28 k29
    refine wp_loop (fun n σ => σ.e 0 = .v lv ∧ σ.e 1 = .v (S d) ∧ σ.e 27 = .v lv ∧ σ.e 28 = .v (I l.length) ∧ ∃ (i : Nat), n + i = l.length ∧ σ.e 29 = .v (I i) ∧ ∃ (v : V), σ.e 5 = .v v ∧ Own h 7 Call.v (((l.map (callsI l d)).take i).flatten) v σ.h) ?_ l.length _ ⟨k0, k1, k27, k28, 0, by simp, k29, .nils, k5, by rw [kh]; exact Own.nil _ _ _⟩
    clear kh k0 k1 k5 k27 k28 k29 σ
    rintro n ⟨e, m, g, rb, H⟩ ⟨k0, k1, k27, k28, i, hin, k29, v, k5, hv⟩
    dsimp only at k0 k1 k5 k27 k28 k29 hv
    rw [← List.map_take] at hv
    by_cases hlt : i < l.length
    · rcases hlv with ⟨rfl, rfl⟩ | rfl
      · simp at hlt
      have ha : l[i]? = some l[i] := List.getElem?_eq_getElem hlt
      have hw := wrapI (n := (i : Int) + 1) (by unfold R; omega)
      have hok := hi l[i] (List.getElem_mem hlt)
      obtain ⟨hpa, hbo, hti, hsa, hxl, hxs⟩ := id hok
      have hle := flatC_le (callsI l d) l i hlt
      have hle2 : (((l.take i).map (callsI l d)).flatten).length + (callsI l d l[i]).length + 1 < 900000 := by
        simp only [List.length_append] at hle hb ⊢
        unfold callsOf at hb
        omega
      have hsu := flatC_succ (callsI l d) l i hlt
      generalize hbs : ((l.take i).map (callsI l d)).flatten = bs at hle2 hv hsu
      have hll : d.length + l[i].path.length < 4611686018427387904 := by omega
      generalize hit : l[i] = it at *
      by_cases hsm : 0 ≤ it.same ∧ it.same < l.length
      · obtain ⟨hs0, hs1⟩ := hsm
        obtain ⟨k, hk⟩ : ∃ k : Nat, it.same = k := ⟨it.same.toNat, by omega⟩
        have hkl : k < l.length := by omega
        have hak : l[k]? = some l[k] := List.getElem?_eq_getElem hkl
        have hpk := (hi l[k] (List.getElem_mem hkl)).path
        have hlk : d.length + l[k].path.length < 4611686018427387904 := by omega
        have hci : callsI l d it = [⟨3, d ++ l[k].path, d ++ it.path, 0, 0, [], 0⟩] := by
          unfold callsI
          rw [if_pos ⟨hs0, hs1⟩, hk]
          simp [hak]
        rw [hci] at hle2 hsu
        obtain ⟨v', H', e1, o1⟩ := hv.app ⟨3, d ++ l[k].path, d ++ it.path, 0, 0, [], 0⟩ 80 (by decide) rfl (by simp at hle2; omega) (by simp at hle2; omega)
        simp [alsoI, k0, k1, k5, k27, k28, k29, hlt, ha, hit, hll, hs0, hs1, hk, hkl, hak, hlk, e1, hw]
        refine ⟨n - 1, by omega, i + 1, by omega, by simp, ?_⟩
        rw [← List.map_take, hsu]
        exact o1
      · have hcl := callsI_len l d it hsm
        rw [hcl] at hle2
        have hci : callsI l d it = [callBase (d ++ it.path) it] ++ (if it.kind = 1 ∧ it.body ≠ [] then [⟨8, d ++ it.path, [], 0, 0, it.body, 0⟩] else []) ++ it.xattrs.l.map (callX (d ++ it.path)) := by
          unfold callsI
          rw [if_neg hsm]
        have hcase : (0 ≤ it.same ∧ ¬ it.same < l.length) ∨ (¬ 0 ≤ it.same ∧ True) := by
          by_cases q : 0 ≤ it.same
          · exact .inl ⟨q, fun q2 => hsm ⟨q, q2⟩⟩
          · exact .inr ⟨q, trivial⟩
        rcases hcase with ⟨hs0, hs1⟩ | ⟨hs0, hs1⟩
        all_goals
          simp [alsoI, k0, k1, k5, k27, k28, k29, hlt, ha, hit, hs0, hs1]
          refine calls16_item it hok d (by omega) bs (by omega) h _ (.v (.snap (l.map fun i => (alsoI i).v))) (.v (.snap (l.map fun i => (alsoI i).v))) (.v (I l.length)) (.v (I i)) g v H ?_ ?_ hv ?_ ?_ ?_ ?_ ?_ ?_ ?_ ?_ _ _ ?_
          rotate_right 1
          · rintro ⟨e', m', g', rb', h'⟩ w H' q0 q1 q2 q3 q4 q5 q6 q7
            dsimp only at q0 q2 q3 q4 q5 q6 q7
            subst q0
            rw [show contK X [It.e 1 [0, 1, 5, 27, 28, 29] [], It.c (SC.ops r16_55)] Ex.normal ⟨e', m', g', rb', h'⟩ = run X [It.e 1 [0, 1, 5, 27, 28, 29] [], It.c (SC.ops r16_55)] ⟨e', m', g', rb', h'⟩ from rfl]
            simp [alsoI, q2, q3, q4, q5, q6, q7, hw]
            refine ⟨n - 1, by omega, i + 1, by omega, by simp, ?_⟩
            rw [← List.map_take, hsu, hci]
            exact q1
          all_goals first | rfl | assumption
    · have hil : i = l.length := by omega
      subst hil
      rw [List.take_of_length_le (Nat.le_refl _)] at hv
      have hfi := Own.fin hv (fun a _ => rfl)
      simp [k0, k1, k5, k27, k28, k29, s16, hfi, callsOf]
  rcases snoc_or dir with rfl | ⟨d0, b, rfl⟩
  · simp at hcd
    subst hcd
    rcases hlv with ⟨rfl, rfl⟩ | rfl
    · simp [s16]
      exact main _ rfl rfl rfl rfl rfl rfl rfl
    · simp [s16]
      exact main _ rfl rfl rfl rfl rfl rfl rfl
  · have hw := wrapI (n := (d0.length : Int) + 1 - 1) (by simp at hd; unfold R; omega)
    simp at hw hcd
    have hpos : (0 : Int) < (d0.length : Int) + 1 := by omega
    by_cases hb47 : b = 47
    · subst hb47
      simp at hcd
      subst hcd
      rcases hlv with ⟨rfl, rfl⟩ | rfl
      · simp [s16, hpos, hw]
        exact main _ rfl rfl rfl rfl rfl rfl rfl
      · simp [s16, hpos, hw]
        exact main _ rfl rfl rfl rfl rfl rfl rfl
    · have hbb : ((b.toNat : Int) == 47) = false := by
        have : b.toNat ≠ 47 := fun q => hb47 (UInt8.toNat_inj.1 q)
        simp; omega
      simp [hb47] at hcd
      subst hcd
      rcases hlv with ⟨rfl, rfl⟩ | rfl
      · simp [s16, hpos, hw, hbb]
        exact main _ rfl rfl rfl rfl rfl rfl rfl
      · simp [s16, hpos, hw, hbb]
        exact main _ rfl rfl rfl rfl rfl rfl rfl
end Go.Vm.Tryz
end

section
set_option linter.unusedVariables false
set_option linter.unusedSimpArgs false
set_option maxRecDepth 10000
namespace Go.Vm.Tryz
open Go Go.Vm

def szX (x : Xattr) : Nat := min x.name.length 4097 + min x.val.length 4097
def szI (i : Item) : Nat := min i.path.length 4097 + min i.body.length 4097 + (i.xattrs.l.map szX).sum
theorem sumX_le (l : List Xattr) : (l.map szX).sum ≤ l.length * 8194 := by
  induction l with
  | nil => simp
  | cons a l ih => simp [szX] at ih ⊢; omega
theorem sum_take (l : List Nat) (i : Nat) (h : i < l.length) : (l.take (i + 1)).sum = (l.take i).sum + l[i] := by
  rw [List.take_succ_eq_append_getElem h, List.sum_append]; simp only [List.sum_cons, List.sum_nil, Nat.add_zero]

theorem min_int (a : Nat) : (if (4097 : Int) < (a : Int) then (4097 : Int) else (a : Int)) = ((min a 4097 : Nat) : Int) := by
  split <;> omega

theorem smalls13_xs (xs : List Xattr) (pv : V) (hp : Row Xattr.v pv xs) (hl : xs.length ≤ 60) (n0 : Nat) (hn : n0 < 100000) (h : List HO) (σ : St) (v0 v4 : T) (kh : σ.h = h) (k0 : σ.e 0 = v0) (k4 : σ.e 4 = v4) (k3 : σ.e 3 = .v (I n0))
    (k49 : σ.e 49 = .v pv) (k50 : σ.e 50 = .v (I xs.length)) (k51 : σ.e 51 = .v (I 0)) (K : List It) (Q : Ex → St → Prop)
    (hK : ∀ (σ' : St), σ'.h = h → σ'.e 0 = v0 → σ'.e 4 = v4 → σ'.e 3 = .v (I ((n0 + (xs.map szX).sum : Nat) : Int)) → wp (contK X K (.exit 2) σ') Q) :
    wp (run X (.c L13_1 :: K) σ) Q := by
  refine wp_loop (fun n σ => σ.h = h ∧ σ.e 0 = v0 ∧ σ.e 4 = v4 ∧ σ.e 49 = .v pv ∧ σ.e 50 = .v (I xs.length) ∧ ∃ (j : Nat), n + j = xs.length ∧ σ.e 51 = .v (I j) ∧ σ.e 3 = .v (I ((n0 + ((xs.map szX).take j).sum : Nat) : Int))) ?_ xs.length _ ⟨kh, k0, k4, k49, k50, 0, by simp, k51, by simpa using k3⟩
  clear kh k0 k4 k3 k49 k50 k51 σ
  rintro n ⟨e, m, g, rb, h'⟩ ⟨rfl, k0, k4, k49, k50, j, hj, k51, k3⟩
  dsimp only at k0 k4 k3 k49 k50 k51
  by_cases hlt : j < xs.length
  · rcases hp with ⟨rfl, rfl⟩ | rfl
    · simp at hlt
    have ha : xs[j]? = some xs[j] := List.getElem?_eq_getElem hlt
    have hw := wrapI (n := (j : Int) + 1) (by unfold R; omega)
    have hle : ((xs.map szX).take j).sum ≤ xs.length * 8194 := by
      rw [← List.map_take]
      have h1 := sumX_le (xs.take j)
      have hj2 : (xs.take j).length ≤ xs.length := List.length_take_le' _ _
      exact Nat.le_trans h1 (Nat.mul_le_mul_right 8194 hj2)
    have hst := sum_take (xs.map szX) j (by simpa using hlt)
    rw [List.getElem_map] at hst
    generalize ((xs.map szX).take j).sum = q at hle k3 hst
    have e1 : IntKind.i64.wrap (((min xs[j].name.length 4097 : Nat) : Int) + ((min xs[j].val.length 4097 : Nat) : Int)) = ((szX xs[j] : Nat) : Int) := by
      rw [wrapI (by unfold R; omega)]; unfold szX; omega
    have e2 : IntKind.i64.wrap (((n0 + q : Nat) : Int) + ((szX xs[j] : Nat) : Int)) = ((n0 + (q + szX xs[j]) : Nat) : Int) := by
      have : szX xs[j] ≤ 8194 := by unfold szX; omega
      rw [wrapI (by unfold R; omega)]; omega
    have m1 := min_int xs[j].name.length
    have m2 := min_int xs[j].val.length
    have e2' : IntKind.i64.wrap ((n0 : Int) + q + (szX xs[j] : Nat)) = (n0 : Int) + (q + (szX xs[j] : Nat)) := by
      have : szX xs[j] ≤ 8194 := by unfold szX; omega
      rw [wrapI (by unfold R; omega)]; omega
    generalize hsz : szX xs[j] = s at *
    simp [k0, k4, k3, k49, k50, k51, hlt, ha, hw, m1, m2, e1, e2, e2']
    exact ⟨n - 1, by omega, j + 1, by omega, by simp, by rw [hst]; simp⟩
  · have hjl : j = xs.length := by omega
    subst hjl
    rw [List.take_of_length_le (by simp)] at k3
    simp [k0, k4, k3, k49, k50, k51]
    exact hK _ rfl rfl rfl rfl

theorem sumI_le (l : List Item) (h : ∀ i ∈ l, i.xattrs.l.length ≤ 60) : ∀ i ∈ l, szI i ≤ 499834 := by
  intro i hi
  have := sumX_le i.xattrs.l
  have := h i hi
  unfold szI; omega

/-- What small items are. -/
structure Smalls (l : List Item) : Prop where
  len : l.length ≤ 60
  xs : ∀ i ∈ l, i.xattrs.l.length ≤ 60
  sum : (l.map szI).sum ≤ 4096

def SmP (l : List Item) (h : List HO) (r' : CR) (h' : List HO) : Prop := ∃ b, r' = .ret (B b) ∧ h' = h ∧ (b = true → Smalls l)
theorem SmP.f (l : List Item) (h : List HO) : SmP l h (.ret (B false)) h := ⟨false, rfl, rfl, by simp⟩
theorem SmP.t {l : List Item} (h : List HO) (s : Smalls l) : SmP l h (.ret (B true)) h := ⟨true, rfl, rfl, fun _ => s⟩
theorem smalls13 (l : List Item) (lv : V) (hlv : Row Item.v lv l) (hl : l.length < 9223372036854775808) (h : List HO) :
    ∃ b, VC X 13 [lv] h = some (.ret (B b), h) ∧ (b = true → Smalls l) := by
  suffices H : Ans (VC X 13 [lv] h) (SmP l h) by
    obtain ⟨c, h', e, b, rfl, rfl, hb⟩ := H.ex
    exact ⟨b, e, hb⟩
  rw [v13]
  refine ans_wp ?_
  have main : ∀ σ : St, σ.h = h → σ.e 0 = .v lv → σ.e 3 = .v (I 0) → σ.e 4 = .v (I 0) →
      wp (run X [.c L13_2, .e 0 [0, 3] [], .c c13_35] σ) (endP s13 h (SmP l h)) := by
    intro σ kh k0 k3 k4
    refine wp_loop (fun n σ => σ.h = h ∧ σ.e 0 = .v lv ∧ ∃ (i q : Nat), n + i = l.length ∧ σ.e 4 = .v (I i) ∧ σ.e 3 = .v (I q) ∧ i ≤ 61 ∧ ((l.map szI).take i).sum = q ∧ q < 600000 ∧ ∀ x ∈ l.take i, x.xattrs.l.length ≤ 60) ?_ l.length _ ⟨kh, k0, 0, 0, by simp, k4, k3, by omega, by simp, by omega, by simp⟩
    clear kh k0 k3 k4 σ
    rintro n ⟨e, m, g, rb, h'⟩ ⟨rfl, k0, i, q, hin, k4, k3, hi61, hq, hq2, hxs⟩
    dsimp only at k0 k3 k4
    by_cases hlt : i < l.length
    · by_cases hi60 : i ≤ 60
      · by_cases hq4 : q ≤ 4096
        · have hlv0 := hlv
          rcases hlv with ⟨rfl, rfl⟩ | rfl
          · simp at hlt
          have ha : l[i]? = some l[i] := List.getElem?_eq_getElem hlt
          have hw := wrapI (n := (i : Int) + 1) (by unfold R; omega)
          have h60 : (i : Int) ≤ 60 := by omega
          have h4096 : (q : Int) ≤ 4096 := by omega
          have hst := sum_take (l.map szI) i (by simpa using hlt)
          rw [List.getElem_map, hq] at hst
          have m1 := min_int l[i].path.length
          have m2 := min_int l[i].body.length
          generalize hit : l[i] = it at *
          have hmx : it ∈ l := by rw [← hit]; exact List.getElem_mem hlt
          have e1 : IntKind.i64.wrap (((min it.path.length 4097 : Nat) : Int) + ((min it.body.length 4097 : Nat) : Int)) = ((min it.path.length 4097 + min it.body.length 4097 : Nat) : Int) := by
            rw [wrapI (by unfold R; omega)]; omega
          have hp2 : min it.path.length 4097 + min it.body.length 4097 ≤ 8194 := by omega
          obtain ⟨p, hp⟩ : ∃ p, p = min it.path.length 4097 + min it.body.length 4097 := ⟨_, rfl⟩
          rw [← hp] at e1 hp2
          have e2 : IntKind.i64.wrap ((q : Int) + (p : Int)) = ((q + p : Nat) : Int) := by rw [wrapI (by unfold R; omega)]; omega
          have hsz : szI it = p + (it.xattrs.l.map szX).sum := by rw [hp]; rfl
          rcases hx : it.xattrs with _ | xs
          · simp [k0, k3, k4, hlt, ha, hit, hx, h60, h4096, m1, m2, e1, e2]
            refine smalls13_xs [] .nils (.inl ⟨rfl, rfl⟩) (by simp) (q + p) (by omega) h' _ (.v (.snap (l.map Item.v))) (.v (I i)) rfl rfl rfl (by simp) rfl rfl rfl _ _ ?_
            rintro ⟨e', m', g', rb', h2⟩ q0 q1 q2 q3
            dsimp only at q0 q1 q2 q3
            subst q0
            simp [q1, q2, q3, hw]
            refine ⟨n - 1, by omega, i + 1, by omega, by simp, q + p, by simp, by omega, ?_, by omega, ?_⟩
            · rw [hx] at hsz; simp at hsz; rw [hst, hsz]
            · intro x hxm
              rw [List.take_succ_eq_append_getElem hlt, hit] at hxm
              rcases List.mem_append.1 hxm with hxm | hxm
              · exact hxs x hxm
              · simp at hxm; subst hxm; rw [hx]; simp
          · by_cases hx60 : xs.length ≤ 60
            · have hx60' : ¬ (60 : Int) < xs.length := by omega
              have hsl := sumX_le xs
              simp [k0, k3, k4, hlt, ha, hit, hx, h60, h4096, m1, m2, e1, e2, hx60']
              refine smalls13_xs xs _ (.inr rfl) hx60 (q + p) (by omega) h' _ (.v (.snap (l.map Item.v))) (.v (I i)) rfl rfl rfl (by simp) rfl rfl rfl _ _ ?_
              rintro ⟨e', m', g', rb', h2⟩ q0 q1 q2 q3
              dsimp only at q0 q1 q2 q3
              subst q0
              rw [hx] at hsz
              simp only [Sl.l_some] at hsz
              generalize (xs.map szX).sum = t at *
              simp [q1, q2, q3, hw]
              refine ⟨n - 1, by omega, i + 1, by omega, by simp, q + p + t, by simp, by omega, ?_, by omega, ?_⟩
              · rw [hst, hsz]; omega
              · intro x hxm
                rw [List.take_succ_eq_append_getElem hlt, hit] at hxm
                rcases List.mem_append.1 hxm with hxm | hxm
                · exact hxs x hxm
                · simp at hxm; subst hxm; rw [hx]; exact hx60
            · have hx60' : (60 : Int) < xs.length := by omega
              simp [k0, k3, k4, hlt, ha, hit, hx, h60, h4096, m1, m2, e1, e2, hx60', s13]
              exact SmP.f _ _
        · have h4096 : ¬ (q : Int) ≤ 4096 := by omega
          have h60 : (i : Int) ≤ 60 := by omega
          rcases hlv with ⟨rfl, rfl⟩ | rfl
          · simp at hlt
          by_cases h60l : (l.length : Int) ≤ 60
          · simp [k0, k3, k4, hlt, h60, h4096, s13, h60l]
            exact SmP.f _ _
          · simp [k0, k3, k4, hlt, h60, h4096, s13, h60l]
            exact SmP.f _ _
      · have h60 : ¬ (i : Int) ≤ 60 := by omega
        have h60l : decide ((l.length : Int) ≤ 60) = false := by simp; omega
        rcases hlv with ⟨rfl, rfl⟩ | rfl
        · simp at hlt
        simp [k0, k3, k4, hlt, h60, h60l, s13]
        exact SmP.f _ _
    · have hil : i = l.length := by omega
      have key : q ≤ 4096 → l.length ≤ 60 → Smalls l := by
        intro h1 h2
        subst hil
        rw [List.take_of_length_le (by simp)] at hq hxs
        exact ⟨h2, hxs, by omega⟩
      have fin : ∀ b1 b2 : Bool, decide ((l.length : Int) ≤ 60) = b1 → decide ((q : Int) ≤ 4096) = b2 → SmP l h' (.ret (B (b1 && b2))) h' := by
        intro b1 b2 h1 h2
        cases b1 <;> cases b2 <;> simp at h1 h2 ⊢ <;> first | exact SmP.f _ _ | exact SmP.t _ (key (by omega) (by omega))
      subst hil
      rcases hlv with ⟨rfl, rfl⟩ | rfl
      · have hfin := fin true _ (by simp) rfl
        simp at hfin
        simp [k0, k3, k4, s13]
        exact hfin
      · cases h60 : decide ((l.length : Int) ≤ 60)
        · have hfin := fin false _ h60 rfl
          simp at h60
          simp [k0, k3, k4, s13]
          rw [show decide ((l.length : Int) ≤ 60) = false by simp; omega]
          simp
          exact hfin
        · have hfin := fin true _ h60 rfl
          simp at h60 hfin
          simp [k0, k3, k4, s13, h60]
          exact hfin
  rcases hlv with ⟨rfl, rfl⟩ | rfl
  · simp [s13]
    refine main _ ?_ ?_ ?_ ?_ <;> rfl
  · simp [s13]
    refine main _ ?_ ?_ ?_ ?_ <;> rfl
end Go.Vm.Tryz
end

section
set_option linter.unusedSimpArgs false
set_option linter.unusedVariables false
set_option maxRecDepth 100000
namespace Go.Vm.Tryz
open Go Go.Vm
def saysTrue (r : Option (CR × List HO)) : Bool :=
  match r with
  | some (.ret (.bool true), []) => true
  | _ => false
theorem saysTrue_eq {r : Option (CR × List HO)} (h : saysTrue r = true) : r = some (.ret (.bool true), []) := by
  unfold saysTrue at h
  split at h
  · rfl
  · cases h
theorem awake_run : saysTrue (callC X 1000 14 [] []) = true := by kernel_rfl
theorem awake_ok : VC X 14 [] [] = some (.ret (.bool true), []) := callC_VC draws_ok (saysTrue_eq awake_run)
end Go.Vm.Tryz
end

section
set_option linter.unusedSimpArgs false
set_option linter.unusedVariables false
set_option maxRecDepth 10000
namespace Go.Vm.Tryz
open Go Go.Vm

theorem le_sum {α : Type} (f : α → Nat) (l : List α) (a : α) (h : a ∈ l) : f a ≤ (l.map f).sum := by
  induction l with
  | nil => cases h
  | cons b l ih =>
    rcases List.mem_cons.1 h with rfl | h
    · simp
    · have := ih h; simp; omega

theorem Smalls.item {l : List Item} (s : Smalls l) {i : Item} (hi : i ∈ l) : i.path.length ≤ 4096 ∧ i.body.length ≤ 4096 ∧ ∀ x ∈ i.xattrs.l, x.name.length ≤ 4096 ∧ x.val.length ≤ 4096 := by
  have h1 := le_sum szI l i hi
  have h2 := s.sum
  have h3 : szI i = min i.path.length 4097 + min i.body.length 4097 + (i.xattrs.l.map szX).sum := rfl
  refine ⟨by omega, by omega, fun x hx => ?_⟩
  have h4 := le_sum szX i.xattrs.l x hx
  have h5 : szX x = min x.name.length 4097 + min x.val.length 4097 := rfl
  omega

theorem Smalls.ok {l : List Item} (s : Smalls l) (hl : ∀ i ∈ l, okItem i) : ∀ i ∈ l, okI i := by
  intro i hi
  obtain ⟨h1, h2, h3⟩ := s.item hi
  have h4 := s.xs i hi
  exact ⟨by omega, by omega, (hl i hi).time, (hl i hi).same, by omega, fun x hx => ⟨by have := (h3 x hx).1; omega, by have := (h3 x hx).2; omega⟩⟩

theorem flatS_len {α : Type} (f : α → Str) (k : Nat) (l : List α) (h : ∀ a ∈ l, (f a).length ≤ k) : ((l.map f).flatten).length ≤ l.length * k := by
  induction l with
  | nil => simp
  | cons a l ih =>
    have h1 := h a (by simp)
    have h2 := ih fun b hb => h b (by simp [hb])
    simp only [List.map_cons, List.flatten_cons, List.length_append, List.length_cons, Nat.add_mul, Nat.one_mul]
    omega
theorem flatCs_len {α : Type} (f : α → List Call) (k : Nat) (l : List α) (h : ∀ a ∈ l, (f a).length ≤ k) : ((l.map f).flatten).length ≤ l.length * k := by
  induction l with
  | nil => simp
  | cons a l ih =>
    have h1 := h a (by simp)
    have h2 := ih fun b hb => h b (by simp [hb])
    simp only [List.map_cons, List.flatten_cons, List.length_append, List.length_cons, Nat.add_mul, Nat.one_mul]
    omega

theorem xs_bytes_le (l : List Xattr) (h : ∀ x ∈ l, x.name.length ≤ 4096 ∧ x.val.length ≤ 4096) : (xattrsBytes l).length ≤ 4 * l.length + (l.map szX).sum := by
  induction l with
  | nil => simp [xattrsBytes]
  | cons a l ih =>
    have h1 := h a (by simp)
    have h2 := ih fun b hb => h b (by simp [hb])
    have h3 := xattrBytes_len a
    have h4 : szX a = min a.name.length 4097 + min a.val.length 4097 := rfl
    unfold xattrsBytes at h2 ⊢
    simp only [List.map_cons, List.flatten_cons, List.length_append, List.length_cons, List.sum_cons]
    omega

theorem items_bytes_le (l : List Item) (h : ∀ i ∈ l, i.path.length ≤ 4096 ∧ i.body.length ≤ 4096 ∧ i.xattrs.l.length ≤ 60 ∧ ∀ x ∈ i.xattrs.l, x.name.length ≤ 4096 ∧ x.val.length ≤ 4096) : ((l.map itemBytes).flatten).length ≤ 258 * l.length + (l.map szI).sum := by
  induction l with
  | nil => simp
  | cons a l ih =>
    obtain ⟨h1, h2, h3, h4⟩ := h a (by simp)
    have h5 := ih fun b hb => h b (by simp [hb])
    have h6 := itemBytes_len a
    have h7 := xs_bytes_le a.xattrs.l h4
    have h8 : szI a = min a.path.length 4097 + min a.body.length 4097 + (a.xattrs.l.map szX).sum := rfl
    simp only [List.map_cons, List.flatten_cons, List.length_append, List.length_cons, List.sum_cons]
    omega

theorem Smalls.bytes {l : List Item} (s : Smalls l) : (itemsBytes l).length < 900000 := by
  have h1 := items_bytes_le l fun i hi => by
    obtain ⟨a, b, c⟩ := s.item hi
    exact ⟨a, b, s.xs i hi, c⟩
  have h2 := s.sum
  have h3 := s.len
  unfold itemsBytes
  simp only [List.length_append, be_len]
  omega

theorem callsI_le (l : List Item) (d : Str) (i : Item) (h : i.xattrs.l.length ≤ 60) : (callsI l d i).length ≤ 62 := by
  by_cases hs : 0 ≤ i.same ∧ i.same < l.length
  · unfold callsI; rw [if_pos hs]; simp
  · rw [callsI_len l d i hs]; split <;> omega

theorem Smalls.calls {l : List Item} (s : Smalls l) (d : Str) : (callsOf l d).length ≤ 3720 := by
  have h1 := flatCs_len (callsI l d) 62 l fun i hi => callsI_le l d i (s.xs i hi)
  have h2 := s.len
  unfold callsOf
  omega

theorem timeTo_nan (k : Int) : nanB (timeTo k).1 = false := by
  unfold timeTo
  by_cases hg : timeGood k = true
  · rw [if_pos hg]
    unfold timeGood timeOf at hg
    cases hn : nanB (toBack k)
    · rfl
    · rw [hn] at hg
      simp at hg
  · rw [if_neg hg]
    rfl

theorem calls_times (l : List Item) (d : Str) : ∀ c ∈ callsOf l d, nanB c.time = false := by
  intro c hc
  unfold callsOf at hc
  obtain ⟨cs, h1, h2⟩ := List.mem_flatten.1 hc
  obtain ⟨i, h3, rfl⟩ := List.mem_map.1 h1
  unfold callsI at h2
  split at h2
  · simp at h2; subst h2; rfl
  · simp only [List.mem_append, List.mem_singleton, List.mem_map] at h2
    rcases h2 with (rfl | h2) | ⟨x, _, rfl⟩
    · exact timeTo_nan _
    · split at h2
      · simp at h2; subst h2; rfl
      · cases h2
    · rfl

theorem law4 (l : List Item) (dir : Str) (hl : l.length < N63) (hi : ∀ i ∈ l, okItem i) (hx : ∀ i ∈ l, ∃ x, i.xattrs = some x) (hd : okStr dir) : VC X 4 [.snap (l.map Item.v), S dir] [] = some (.ret (B true), []) := by
  obtain ⟨b, hs, hb⟩ := smalls13 l _ (.inr rfl) hl []
  have hw := awake_ok
  rw [v4]
  refine Ans.eq (ans_wp ?_)
  cases b with
  | false => simp [s4, hs, hw]
  | true =>
    by_cases hd4 : dir.length ≤ 4096
    · have hd4' : ¬ (4096 : Int) < dir.length := by omega
      have s := hb rfl
      have hll := s.len
      have hok := s.ok hi
      have e17 := also17 l _ (.inr rfl) (by omega) hx []
      have hal : (Sl.v RItem.v (alsoS l)) = .snap (l.map fun i => (alsoI i).v) := by simp [alsoS]
      rw [hal] at e17
      have e15 := calls15 l _ (.inr rfl) (by omega) hok dir (by omega) (by have := s.calls (cutDir dir); omega) []
      have e16 := calls16 l _ (.inr rfl) (by omega) hok dir (by omega) (by have := s.calls (cutDir dir); omega) []
      have e18 := put18 l _ (.inr rfl) (by omega) hok s.bytes []
      have e19 := put19 l _ (.inr rfl) (by omega) hok s.bytes []
      have e20 := equal20 (callsOf l (cutDir dir)) (by have := s.calls (cutDir dir); omega) (calls_times _ _) []
      generalize (V.snap (List.map Item.v l)) = lv at *
      generalize (V.snap (List.map (fun i => (alsoI i).v) l)) = av at *
      generalize (V.snap (List.map Call.v (callsOf l (cutDir dir)))) = cv at *
      simp [s4, hs, hw, hd4', e15, e16, e17, e18, e19, e20]
    · have hd4' : (4096 : Int) < dir.length := by omega
      simp [s4, hs, hw, hd4']
end Go.Vm.Tryz
end
