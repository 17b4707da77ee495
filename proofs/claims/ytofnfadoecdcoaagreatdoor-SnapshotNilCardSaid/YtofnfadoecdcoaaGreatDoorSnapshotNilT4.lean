/-
  SnapshotNil: pieces (4) of the run of its closed call.
-/
import Derived.Test.YtofnfadoecdcoaaGreatDoorSnapshotNilS0
set_option maxRecDepth 100000
namespace Go.Proofs.YtofnfadoecdcoaaGreatDoor
open Go.RowKit Ab
theorem sn6 : killX [2463, 2479, 2543, 2503, 2343, 2327, 2455, 2487, 2499, 2339, 2483, 2547, 2347, 2459, 2491, 2337, 2481, 2545, 2345, 2457, 2489, 2501, 2341, 2485, 2541, 2333, 2461, 2493, 2560, 2432, 2368, 2336, 2464, 2400, 2528, 2448, 2384, 2512, 2352, 2480, 2416, 2544, 2440, 2376, 2344, 2472, 2408, 2536, 2328, 2456, 2392, 2520, 2360, 2424, 2552, 2436, 2372, 2340, 2468, 2404, 2532, 2324, 2452, 2388, 2516, 2356, 2420, 2548, 2444, 2380, 2508, 2348, 2476, 2412, 2332, 2460, 2396, 2524, 2364, 2428, 2556, 2562, 2434, 2370, 2338, 2466, 2402, 2530, 2450, 2386, 2514, 2354, 2482, 2418, 2546, 2442, 2378, 2506, 2346, 2474, 2410, 2538, 2330, 2458, 2394, 2522, 2362, 2426, 2554, 2438, 2374, 2502, 2342, 2470, 2406, 2534, 2326, 2454, 2390, 2518, 2358, 2422, 2550, 2446, 2382, 2510, 2350, 2478, 2414, 2542, 2334, 2462, 2398, 2526, 2366, 2430, 2558] (runF 16100 Tryz.prog lawK 0 snF5 snC5 snH5) = .next snF6 snC6 snH6 := by kernel_rfl
theorem sne : isDoneV (runF 16000 Tryz.prog lawK 0 snF6 snC6 snH6) (.bool true) = true := by kernel_rfl
end Go.Proofs.YtofnfadoecdcoaaGreatDoor
